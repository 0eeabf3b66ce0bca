/- impl.sortedCounts in the form of the print's contracts. -/
import Derived.Test.YtmdaggnfgghnfaaDoorSrtR
import Derived.Laws.EntriesVeiled
namespace Go.Proofs.YtmdaggnfgghnfaaDoor.Srt
open Go Go.RowKit Go.Proofs.YtmdaggnfgghnfaaDoorW.PrintWords Go.Proofs.YtmdaggnfgghnfaaDoorW.PrintLast Go.Proofs.YtmdaggnfgghnfaaDoorW.PrintMore Go.Proofs.YtmdaggnfgghnfaaDoor.SrtL Go.Proofs.YtmdaggnfgghnfaaDoor.SrtR
set_option linter.unusedVariables false
set_option linter.unusedSimpArgs false
def impl_sortedCounts.f (k : Nat) (l0 : List ByteArray) : Option (List (List Int)) := (Go.Proofs.YtmdaggnfgghnfaaDoor.Pe.impl_LetterCounts.f k l0).bind fun b => if b.1.length < 4611686018427387904 then some (srtL b.1) else none
theorem impl_sortedCounts.mono : ∀ l0 k, LeO (impl_sortedCounts.f k l0) (impl_sortedCounts.f (k + 1) l0) := by
  intro l0 k
  unfold impl_sortedCounts.f
  exact LeO.bind (Go.Proofs.YtmdaggnfgghnfaaDoor.Pe.impl_LetterCounts.mono _ _) (fun _ => LeO.refl _)
/-- Behind the sort. -/
theorem sorted_bel {w w1 w2 : World} {g : Nat} (hb : Below w.heap.size w w1) (hg : w1.grownBy w2 (some g)) (hgm : w.heap.size ≤ g) : Below w.heap.size w w2 :=
  hb.grown hg hb.size (fun k hk => (Option.some.inj hk) ▸ hgm)
theorem srt_nil {xs : List (List Int)} (h : xs.length = 0) : srtL xs = xs := by
  obtain rfl : xs = [] := List.length_eq_zero_iff.1 h
  exact List.length_eq_zero_iff.1 (srtL_perm []).length_eq
set_option maxHeartbeats 1000000 in
set_option maxRecDepth 100000 in
theorem impl_sortedCounts.calls (k : Nat) (A0 : Option Addr) (c0 : Nat) (l0 : List ByteArray) (r : List (List Int)) (w : World) (hr0 : Kd.C Kd.string w A0 l0.length l0) (hc0 : l0.length ≤ c0) (h : impl_sortedCounts.f k l0 = some r) :
    Calls Tryd.prog 75 #[.slice A0 l0.length c0] w fun e w' => ∃ v0_ : Value, e = .returned (v0_) ∧ Kd.S (Kd.slice 3 (Kd.int .i64)) 23 w' w.heap.size (fun _ => True) v0_ r ∧ Below w.heap.size w w' := by
  obtain ⟨⟨r1, b⟩, hf, h⟩ := Option.bind_eq_some_iff.mp h
  simp only [] at h
  split at h
  case isFalse => cases h
  rename_i hlen
  injection h with h
  subst h
  have hcall := Go.Proofs.YtmdaggnfgghnfaaDoor.Pe.impl_LetterCounts.calls k A0 c0 l0 r1 b w hr0 hc0 hf
  by_cases hz : r1.length = 0
  · have hcall2 : Calls Tryd.prog 111 #[.slice A0 l0.length c0] w fun e w' => ∃ A c, e = .returned (.tuple #[.slice A 0 c, .bool b]) ∧ Kd.S (Kd.slice 3 (Kd.int .i64)) 23 w' w.heap.size (fun _ => True) (.slice A 0 c) r1 ∧ Below w.heap.size w w' := hcall.mono (by
      rintro e w' ⟨v0, rfl, hS, hb⟩
      obtain ⟨A, c, hv⟩ := Kd.S_slice hS
      rw [hz] at hv
      subst hv
      exact ⟨A, c, rfl, hS, hb⟩)
    rw [srt_nil hz]
    clear hcall hf hr0 hc0 hlen
    have HC := Aside0.mk hcall2; clear hcall2
    go_enter Tryd.func75, Tryd.ntmps75
    go_wp2_with (first
      | (go_at_call 111; with_reducible refine HC.out.mono ?_; rintro e w1 ⟨A, c, rfl, hS, hb⟩; have HS := Aside0.mk hS; clear hS; have HB := Aside0.mk hb; clear hb)
      | (go_at_call 112; refine (Tryd.slices_SortFunc_none_f112 (α := Nat) _ _ _ _).mono ?_; rintro e w2 ⟨rfl, rfl⟩))
    go_ret
    exact ⟨_, rfl, HS.out, HB.out⟩
  · have hcall2 : Calls Tryd.prog 111 #[.slice A0 l0.length c0] w fun e w' => ∃ g c, e = .returned (.tuple #[.slice (some ⟨g, 0, none⟩) r1.length c, .bool b]) ∧ w.heap.size ≤ g ∧ Kd.S (Kd.slice 3 (Kd.int .i64)) 23 w' w.heap.size (fun _ => True) (.slice (some ⟨g, 0, none⟩) r1.length c) r1 ∧ Below w.heap.size w w' := hcall.mono (by
      rintro e w' ⟨v0, rfl, hS, hb⟩
      obtain ⟨g, cap, hv, hg, _⟩ := Kd.S_form hS (by omega)
      subst hv
      exact ⟨g, cap, rfl, hg, hS, hb⟩)
    clear hcall hf hr0 hc0 hz
    have HC := Aside0.mk hcall2; clear hcall2
    have HL := Aside0.mk hlen; clear hlen
    go_enter Tryd.func75, Tryd.ntmps75
    go_wp2_with (first
      | (go_at_call 111; with_reducible refine HC.out.mono ?_; rintro e w1 ⟨g, c, rfl, hg, hS, hb⟩; have HG := Aside0.mk hg; clear hg; have HS := Aside0.mk hS; clear hS; have HB := Aside0.mk hb; clear hb)
      | (go_at_call 112; with_reducible refine (sort_rows HS.out HL.out).mono ?_; rintro e w2 ⟨rfl, hS2, hgr⟩; have HB2 := Aside0.mk (sorted_bel HB.out hgr HG.out); have HS2 := Aside0.mk hS2; clear hS2 hgr))
    go_ret
    exact ⟨_, rfl, HS2.out, HB2.out⟩
end Go.Proofs.YtmdaggnfgghnfaaDoor.Srt
