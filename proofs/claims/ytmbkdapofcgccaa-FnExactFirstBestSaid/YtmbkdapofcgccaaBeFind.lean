/- spec.beFind: it finds, in lexicographic order, all lengths that fit and cost as much as the merged sums. -/
import Derived.Test.YtmbkdapofcgccaaBeTry
namespace Go.Proofs.Ytmbkdapofcgccaa.BeFind
open Go.RowKit Go.Proofs.YtmbkdapofcgccaaW.PrintWords Go.Proofs.YtmbkdapofcgccaaW.PrintLast Go.Proofs.YtmbkdapofcgccaaW.PrintMore Go.Proofs.Ytmbkdapofcgccaa.BeTry
set_option linter.unusedVariables false
set_option linter.unusedSimpArgs false

/-- spec.beFind, as it is told: the first of all lists that cost what is due, and how many there are. -/
def spec_beFind.f (k : Nat) (l0 : List Int) (a1 : Int) : Option (List Int × Int) :=
  if (2 ≤ a1 ∧ a1 ≤ 3) ∧ l0.length ≤ 12 ∧ (∀ x ∈ l0, 0 ≤ x ∧ x ≤ 100) then
    (Go.Proofs.Ytmbkdapofcgccaa.Pr.spec_beBest.f k l0 a1).bind fun b => if -1000000 ≤ b ∧ b ≤ 1000000000000 then some ((tryAll a1 l0 [] (a1 ^ 11) b).head?.getD [], ((tryAll a1 l0 [] (a1 ^ 11) b).length : Int)) else none
  else none
theorem spec_beFind.mono : ∀ a0 a1 k, LeO (spec_beFind.f k a0 a1) (spec_beFind.f (k + 1) a0 a1) := by
  intro a0 a1 k
  unfold spec_beFind.f
  exact LeO.ite (LeO.bind (Go.Proofs.Ytmbkdapofcgccaa.Pr.spec_beBest.mono _ _ _) (fun _ => LeO.refl _)) (LeO.none _)

set_option maxHeartbeats 4000000 in
set_option maxRecDepth 100000 in
theorem spec_beFind.calls (k : Nat) (A0 : Option Addr) (c0 : Nat) (l0 : List Int) (a1 : Int) (r1 : List Int) (r2 : Int) (w : World) (hr0 : Kd.C (Kd.int .i64) w A0 l0.length l0) (hc0 : l0.length ≤ c0) (h : spec_beFind.f k l0 a1 = some (r1, r2)) :
    Calls Try.prog 14 #[.slice A0 l0.length c0, .int .i64 a1] w fun e w' => ∃ v0_ : Value, e = .returned (.tuple #[v0_, .int .i64 r2]) ∧ Kd.R (Kd.int .i64) 3 w' w.heap.size (fun _ => True) v0_ r1 ∧ Below w.heap.size w w' := by
  unfold spec_beFind.f at h
  split at h
  case isFalse => cases h
  rename_i hd
  obtain ⟨hm, hl, hws⟩ := hd
  obtain ⟨b, hb, h⟩ := Option.bind_eq_some_iff.mp h
  split at h
  case isFalse => cases h
  rename_i hbb
  injection h with h
  injection h with e1 e2
  have HB := Aside0.mk hb; clear hb
  have E1 := Aside0.mk e1; clear e1
  have E2 := Aside0.mk e2; clear e2
  have HWS := Aside0.mk hws; clear hws
  have HR0 := Aside0.mk hr0; clear hr0
  have hu39 := Try.underlying39
  go_enter Try.func14, Try.ntmps14
  have KP := krPower_eq a1 hm 11 (by omega)
  have KPA := Aside0.mk KP; clear KP
  have hpb := pow_bd a1 hm 11 (by omega)
  have hcb : (11 : Int) ^ l0.length ≤ 4000000000000 := by
    have h3 : ∀ q : Fin 13, (11 : Int) ^ (q : Nat) ≤ 4000000000000 := by decide
    exact h3 ⟨l0.length, by omega⟩
  have HCB := Aside0.mk hcb; clear hcb
  have HPB := Aside0.mk hpb; clear hpb
  go_wp2_with (first
    | (go_at_call 21; refine (Go.Proofs.Ytmbkdapofcgccaa.Pr.spec_krPower.calls 12 a1 11 (a1 ^ 11) _ KPA.out).mono ?_; rintro e w1 ⟨rfl, ⟨nd, rfl⟩⟩)
    | (go_at_call 22; refine (Go.Proofs.Ytmbkdapofcgccaa.Pr.spec_beBest.calls k A0 c0 l0 a1 b _ (Kd.C_below HR0.out ?hb) hc0 HB.out).mono ?_; (case hb => exact pw_below_drewN (below_alloc (Below.refl _ w) _) nd); rintro e w2 ⟨rfl, hb2⟩; have HSt : Aside0 (St w2 w.heap.size (.slice A0 l0.length c0) a1 0 (.slice none 0 0) 0) := ⟨blk_below (blk_drewN (blk_new w _) nd) hb2⟩; have HBel : Aside0 (Below w.heap.size w w2) := ⟨below_then (pw_below_drewN (below_alloc (Below.refl _ w) _) nd) (by simp) hb2⟩; clear hb2)
    | (go_at_call 20; refine (try_calls a1 hm l0 HWS.out hl w.heap.size w.heap.size (Nat.le_refl _) A0 c0 0 l0.length [] none 0 [] (a1 ^ 11) b 0 (.slice none 0 0) w2 (by simp) (by have := HPB.out; omega) hbb (by have := HCB.out; omega) HBel.out.size HSt.out (Kd.R_nil _ _ _ _ _) (Kd.C_foot_came (Kd.heap_int .i64) HR0.out HBel.out (Nat.le_refl _)) Kd.C_foot_nil (Nat.le_refl _)).mono ?_; rintro e w5 ⟨rfl, fv2, hs2, hr2, hk2, hbl2⟩; obtain ⟨_, _, d3, d4, _, _⟩ := hs2.cells; have HR2 := Aside0.mk hr2; have HBL2 := Aside0.mk hbl2; clear hs2 hr2 hk2 hbl2))
  go_quiet (fail)
  go_wp2
  go_ret2
  refine ⟨fv2, ?_, ?_, ?_⟩
  · rw [← E2.out]
    rfl
  · have := HR2.out
    rw [if_pos trivial] at this
    have e1 := E1.out
    simp only [List.length_nil, List.drop_zero] at this
    rw [e1] at this
    exact Kd.R_mono (Kd.R_below this (pw_below_drewN (Below.refl _ _) _)) (fun _ _ => trivial)
  · exact pw_below_drewN (HBel.out.trans HBL2.out) _

end Go.Proofs.Ytmbkdapofcgccaa.BeFind
