/- impl.allBest: all lengths that fit and cost what is due, in lexicographic order. -/
import Derived.Test.YtmbkdapofcgccaaAddRec
import Derived.Test.YtmbkdapofcgccaaPq1
import Derived.Laws.EntriesVeiled
namespace Go.Proofs.Ytmbkdapofcgccaa.AllBest
open Go.RowKit Go.Proofs.YtmbkdapofcgccaaW.PrintWords Go.Proofs.YtmbkdapofcgccaaW.PrintLast Go.Proofs.YtmbkdapofcgccaaW.PrintMore Go.Proofs.Ytmbkdapofcgccaa.AddPush Go.Proofs.Ytmbkdapofcgccaa.AddCl Go.Proofs.Ytmbkdapofcgccaa.AddRec
open Go.Proofs.Ytmbkdapofcgccaa.BeTry (pow_bd)
set_option linter.unusedVariables false
set_option linter.unusedSimpArgs false

def impl_allBest.f (k : Nat) (l0 : List Int) (a1 : Int) : Option (List (List Int)) :=
  if (2 ≤ a1 ∧ a1 ≤ 3) ∧ (0 < l0.length ∧ l0.length ≤ 6) ∧ (∀ x ∈ l0, 0 ≤ x ∧ x ≤ 100) then
    (Go.Proofs.Ytmbkdapofcgccaa.Pq.impl_bestCost.f k l0 a1).bind fun b => if 0 ≤ b ∧ b ≤ 1000000000 then some (addAll a1 b l0 [] 0 (a1 ^ 11)) else none
  else none
theorem impl_allBest.mono : ∀ a0 a1 k, LeO (impl_allBest.f k a0 a1) (impl_allBest.f (k + 1) a0 a1) := by
  intro a0 a1 k
  unfold impl_allBest.f
  exact LeO.ite (LeO.bind (Go.Proofs.Ytmbkdapofcgccaa.Pq.impl_bestCost.mono _ _ _) (fun _ => LeO.refl _)) (LeO.none _)

/-- Ahead of the closure's first call. -/
structure Pre (w0 : World) (gW gD gO gM gA : Nat) (WA : Option Addr) (wc : Nat) (ws : List Int) (due m : Int) (ov : Value) (outs : List (List Int)) (W : World) : Prop where
  env : Env w0 gW gD gO gM gA WA wc ws due m W
  out : W.heap[gO]? = some (.cells #[ov] 35 (0, 0))
  rows : Kd.S (Kd.slice 3 (Kd.int .i64)) 22 W w0.heap.size (fun k => Far gW gD gO gM gA k) ov outs
section
variable {w0 : World} {gW gD gO gM gA : Nat} {WA : Option Addr} {wc : Nat} {ws : List Int} {due m : Int} {ov : Value} {outs : List (List Int)} {W W' : World}
theorem Pre.ltO (h : Pre w0 gW gD gO gM gA WA wc ws due m ov outs W) : gO < W.heap.size := (Array.getElem?_eq_some_iff.1 h.out).1
theorem Pre.below (h : Pre w0 gW gD gO gM gA WA wc ws due m ov outs W) (hb : Below W.heap.size W W') : Pre w0 gW gD gO gM gA WA wc ws due m ov outs W' := ⟨h.env.below hb, (hb.block gO h.ltO).trans h.out, Kd.S_below h.rows hb⟩
theorem Pre.alloc (h : Pre w0 gW gD gO gM gA WA wc ws due m ov outs W) (o : Obj) : Pre w0 gW gD gO gM gA WA wc ws due m ov outs (W.alloc o) := h.below ((Below.refl _ _).alloc (Nat.le_refl _) o)
theorem Pre.drew (h : Pre w0 gW gD gO gM gA WA wc ws due m ov outs W) : Pre w0 gW gD gO gM gA WA wc ws due m ov outs W.drew := h.below (below_drew (Below.refl _ _))
theorem Pre.drewN (h : Pre w0 gW gD gO gM gA WA wc ws due m ov outs W) (n : Nat) : Pre w0 gW gD gO gM gA WA wc ws due m ov outs (W.drewN n) := h.below (pw_below_drewN (Below.refl _ _) n)
theorem Pre.two (h : Pre w0 gW gD gO gM gA WA wc ws due m ov outs W) : W.cell? ⟨gM, 0, none⟩ = some (.int .i64 m) ∧
    W.cell? ⟨gA, 0, none⟩ = some (.func (.func 26) #[] #[.pointer (some ⟨gW, 0, none⟩), .pointer (some ⟨gD, 0, none⟩), .pointer (some ⟨gO, 0, none⟩), .pointer (some ⟨gM, 0, none⟩), .pointer (some ⟨gA, 0, none⟩)]) := ⟨h.env.cells.2.2.1, h.env.cells.2.2.2⟩
theorem Pre.st (h : Pre w0 gW gD gO gM gA WA wc ws due m ov outs W) : St w0 gW gD gO gM gA WA wc ws due m (fun _ => True) W.heap.size 0 [] ov outs (W.alloc (.cells #[] 3)) := by
  obtain ⟨h1, h2, h3, h4⟩ := h.env.lts
  have h5 := h.ltO
  have ha := h.alloc (.cells #[] 3)
  refine ⟨ha.env, ha.out, ?_, ?_, ⟨by omega, by omega, by omega, by omega, by omega⟩⟩
  · exact Kd.S_mono (Kd.S_below (Kd.S_bound h.rows) ((Below.refl _ W).alloc (Nat.le_refl _) _)) (fun k hk => ⟨⟨hk.1, trivial⟩, by have := hk.2.2.1; omega⟩)
  · exact Own.mk' (cur := #[]) h.env.bel.size (blk_new W _) (by simp) (by simp) rfl (by simp)
end
theorem R_none {α : Type} (d : Kd α) (e : Nat) (W : World) (base : Nat) (hb : base ≤ W.heap.size) (ok : Nat → Prop) (hok : ok W.heap.size) : Kd.S d e (W.alloc (.cells #[] e)) base ok (.slice (some ⟨W.heap.size, 0, none⟩) 0 0) [] := by
  refine ⟨fun _ => 0, ?_, [], ?_, ?_⟩
  · intro k hk
    have : W.heap.size = k := by simpa [Value.ownBlock] using hk
    rw [← this]
    exact hok
  · have h2 := World.ownsRow_lit (base := base) (e := e) (size := (Kd.tag (fun _ => 0) d).sz) W #[] 0 hb (by simp [maxLen]) (by simp)
    simpa using h2
  · exact Reps.none _ _

theorem up {W : World} {g : Nat} {o o' : Obj} (h : W.heap[g]? = some o) : (W.alloc o').heap[g]? = some o := by
  rw [Below.heap_alloc _ _ _ (Array.getElem?_eq_some_iff.1 h).1]
  exact h
theorem new_at {W : World} {o : Obj} {n : Nat} (h : n = W.heap.size) : (W.alloc o).heap[n]? = some o := by
  subst h
  show (W.heap.push o)[W.heap.size]? = _
  simp

theorem pre_start (w w1 : World) (A0 : Option Addr) (c0 : Nat) (l0 : List Int) (a1 b : Int) (hb1 : Below (((w.alloc (.cells #[.slice A0 l0.length c0] 22)).alloc (.cells #[.int .i64 a1] 3)).alloc (.cells #[] 22)).heap.size (((w.alloc (.cells #[.slice A0 l0.length c0] 22)).alloc (.cells #[.int .i64 a1] 3)).alloc (.cells #[] 22)) w1) :
    Pre w w.heap.size (w1.heap.size + 1) w1.heap.size (w.heap.size + 1) (w1.heap.size + 1 + 1) A0 c0 l0 b a1 (.slice (some ⟨w.heap.size + 1 + 1, 0, none⟩) 0 0) []
      (((w1.alloc (.cells #[.slice (some ⟨w.heap.size + 1 + 1, 0, none⟩) 0 0] 35)).alloc (.cells #[.int .i64 b] 3)).alloc (.cells #[.func (.func 26) #[] #[.pointer (some ⟨w.heap.size, 0, none⟩), .pointer (some ⟨w1.heap.size + 1, 0, none⟩), .pointer (some ⟨w1.heap.size, 0, none⟩), .pointer (some ⟨w.heap.size + 1, 0, none⟩), .pointer (some ⟨w1.heap.size + 1 + 1, 0, none⟩)]] 40)) := by
  have hs : w.heap.size + 3 ≤ w1.heap.size := by have := hb1.size; simpa using this
  have b0 : Below w.heap.size w w1 := (((((Below.refl _ w).alloc (Nat.le_refl _) _).alloc (by simp) _).alloc (by simp; omega) _)).trans (hb1.mono (by simp; omega))
  have old : ∀ {k : Nat} {o : Obj}, (((w.alloc (.cells #[.slice A0 l0.length c0] 22)).alloc (.cells #[.int .i64 a1] 3)).alloc (.cells #[] 22)).heap[k]? = some o → w1.heap[k]? = some o := by
    intro k o h
    exact (hb1.block k (Array.getElem?_eq_some_iff.1 h).1).trans h
  refine ⟨⟨up (up (up (old (up (up (new_at rfl)))))), up (new_at (by simp)), up (up (up (old (up (new_at (by simp)))))), new_at (by simp), ?_⟩, up (up (new_at rfl)), ?_⟩
  · exact (((b0.alloc b0.size _).alloc (by simp; omega) _).alloc (by simp; omega) _)
  · have h0 := R_none (Kd.slice 3 (Kd.int .i64)) 22 ((w.alloc (.cells #[.slice A0 l0.length c0] 22)).alloc (.cells #[.int .i64 a1] 3)) w.heap.size (by simp; omega) (fun k => Far w.heap.size (w1.heap.size + 1) w1.heap.size (w.heap.size + 1) (w1.heap.size + 1 + 1) k) (by refine ⟨?_, ?_, ?_, ?_, ?_⟩ <;> simp <;> omega)
    have h1 := Kd.S_alloc (Kd.S_alloc (Kd.S_alloc (Kd.S_below h0 hb1) (.cells #[.slice (some ⟨w.heap.size + 1 + 1, 0, none⟩) 0 0] 35)) (.cells #[.int .i64 b] 3)) (.cells #[.func (.func 26) #[] #[.pointer (some ⟨w.heap.size, 0, none⟩), .pointer (some ⟨w1.heap.size + 1, 0, none⟩), .pointer (some ⟨w1.heap.size, 0, none⟩), .pointer (some ⟨w.heap.size + 1, 0, none⟩), .pointer (some ⟨w1.heap.size + 1 + 1, 0, none⟩)]] 40)
    simpa using h1

set_option maxHeartbeats 8000000 in
set_option maxRecDepth 100000 in
theorem impl_allBest.calls (k : Nat) (A0 : Option Addr) (c0 : Nat) (l0 : List Int) (a1 : Int) (r : List (List Int)) (w : World) (hr0 : Kd.C (Kd.int .i64) w A0 l0.length l0) (hc0 : l0.length ≤ c0) (h : impl_allBest.f k l0 a1 = some r) :
    Calls Try.prog 17 #[.slice A0 l0.length c0, .int .i64 a1] w fun e w' => ∃ v0_ : Value, e = .returned (v0_) ∧ Kd.S (Kd.slice 3 (Kd.int .i64)) 22 w' w.heap.size (fun _ => True) v0_ r ∧ Below w.heap.size w w' := by
  unfold impl_allBest.f at h
  split at h
  case isFalse => cases h
  rename_i hd
  obtain ⟨hm, hl, hws⟩ := hd
  obtain ⟨b, hb, h⟩ := Option.bind_eq_some_iff.mp h
  split at h
  case isFalse => cases h
  rename_i hbb
  injection h with h
  have HR := Aside0.mk h; clear h
  have HB := Aside0.mk hb; clear hb
  have HWS := Aside0.mk hws; clear hws
  have HR0 := Aside0.mk hr0; clear hr0
  have HC := Aside0.mk hc0; clear hc0
  go_enter Try.func17, Try.ntmps17
  go_wp2_with (first
    | (go_at_call 25; refine (Go.Proofs.Ytmbkdapofcgccaa.Pq.impl_bestCost.calls k A0 c0 l0 a1 b _ (Kd.C_alloc (Kd.C_alloc (Kd.C_alloc HR0.out _) _) _) HC.out HB.out).mono ?_; rintro e w1 ⟨rfl, hb1⟩; have HB1 := Aside0.mk hb1; clear hb1))
  have HP := Aside0.mk (pre_start w w1 A0 c0 l0 a1 b HB1.out)
  have HPW : Aside0 (Go.Proofs.Ytmbkdapofcgccaa.Pr.impl_power.f 12 a1 11 = some (a1 ^ 11)) := ⟨power_eq a1 hm 11 (by omega)⟩
  have hst := HP.out.st
  simp only [World.size_alloc] at hst
  have HSU := Aside0.mk hst; clear hst
  have hpb := pow_bd a1 hm 11 (by omega)
  have PB := Aside0.mk hpb; clear hpb
  have hsz : w.heap.size + 3 ≤ w1.heap.size := by have := HB1.out.size; simpa using this
  have H3 : Aside0 (0 + 11 ^ l0.length ≤ 50000000) := ⟨by
    have h3 : ∀ q : Fin 7, 0 + 11 ^ (q : Nat) ≤ 50000000 := by decide
    exact h3 ⟨l0.length, by omega⟩⟩
  go_region_held3 (fun w' => w'.cell? ⟨w.heap.size + 1, 0, none⟩ = some (.int .i64 a1) ∧ w'.cell? ⟨w1.heap.size + 1 + 1, 0, none⟩ = some (.func (.func 26) #[] #[.pointer (some ⟨w.heap.size, 0, none⟩), .pointer (some ⟨w1.heap.size + 1, 0, none⟩), .pointer (some ⟨w1.heap.size, 0, none⟩), .pointer (some ⟨w.heap.size + 1, 0, none⟩), .pointer (some ⟨w1.heap.size + 1 + 1, 0, none⟩)]))
    (first | exact HSE.out.env.cells.2.2 | exact (HP.out.drewN _).two | exact HP.out.drew.two | exact ((HP.out.drew.alloc _).drewN _).two | exact ((HP.out.drew).drewN _).two | exact ((HP.out.alloc _).drewN _).two | exact ((HP.out.alloc _).drew).two | exact ((HP.out.drewN _).alloc _).two | exact HP.out.two)
    (first
      | (go_at_call 28; refine (Go.Proofs.Ytmbkdapofcgccaa.Pr.impl_power.calls 12 a1 11 (a1 ^ 11) _ HPW.out).mono ?_; rintro e w3 ⟨rfl, ⟨nd, rfl⟩⟩)
      | (go_at_call 26; refine (add_calls w w.heap.size (w1.heap.size + 1) w1.heap.size (w.heap.size + 1) (w1.heap.size + 1 + 1) A0 c0 l0 b a1 hm HWS.out hl.2 hbb (by omega) (by omega) HR0.out l0.length (fun _ => True) (w1.heap.size + 1 + 1 + 1) 0 [] 0 (a1 ^ 11) (.slice (some ⟨w.heap.size + 1 + 1, 0, none⟩) 0 0) [] _ (by simp) (by omega) (by have := PB.out; omega) (fun _ _ => trivial) (HSU.out.drewN (1 + nd)) (by simpa using H3.out)).mono ?_; rintro e w5 ⟨rfl, ov5, hst5, -⟩; have c5 := hst5.outCell.1; have HSE := Aside0.mk hst5; clear hst5))
  all_goals
    go_wp2
    go_ret
    refine ⟨ov5, rfl, ?_, HSE.out.env.bel⟩
    have := HSE.out.rows
    have e := HR.out
    simp only [List.length_nil, List.drop_zero, List.nil_append] at this
    rw [e] at this
    exact Kd.S_mono this (fun _ _ => trivial)

end Go.Proofs.Ytmbkdapofcgccaa.AllBest
