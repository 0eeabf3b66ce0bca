/- impl.allBest's closure: all lengths that fit and cost what is due are put to what it has, in lexicographic order. -/
import Derived.Test.YtmbkdapofcgccaaAddPush
import Derived.Test.YtmbkdapofcgccaaBeTry
namespace Go.Proofs.Ytmbkdapofcgccaa.AddCl
open Go.RowKit Go.Proofs.YtmbkdapofcgccaaW.PrintWords Go.Proofs.YtmbkdapofcgccaaW.PrintLast Go.Proofs.YtmbkdapofcgccaaW.PrintMore Go.Proofs.Ytmbkdapofcgccaa.AddPush Go.Proofs.Ytmbkdapofcgccaa.BeTry
set_option linter.unusedVariables false
set_option linter.unusedSimpArgs false

/-- What the closure finds. -/
def addAll (m due : Int) : List Int → List Int → Int → Int → List (List Int)
  | [], done, cost, left => if cost = due then [done] else []
  | w :: rest, done, cost, left => (List.range 11).flatMap fun (i : Nat) => if cost + w * ((i : Int) + 1) ≤ due ∧ m ^ (10 - i) ≤ left then addAll m due rest (done ++ [(i : Int) + 1]) (cost + w * ((i : Int) + 1)) (left - m ^ (10 - i)) else []

/-- What the closure's boxes hold. -/
structure Env (w0 : World) (gW gD gO gM gA : Nat) (WA : Option Addr) (wc : Nat) (ws : List Int) (due m : Int) (W : World) : Prop where
  hW : W.heap[gW]? = some (.cells #[.slice WA ws.length wc] 22 (0, 0))
  hD : W.heap[gD]? = some (.cells #[.int .i64 due] 3 (0, 0))
  hM : W.heap[gM]? = some (.cells #[.int .i64 m] 3 (0, 0))
  hA : W.heap[gA]? = some (.cells #[.func (.func 26) #[] #[.pointer (some ⟨gW, 0, none⟩), .pointer (some ⟨gD, 0, none⟩), .pointer (some ⟨gO, 0, none⟩), .pointer (some ⟨gM, 0, none⟩), .pointer (some ⟨gA, 0, none⟩)]] 40 (0, 0))
  bel : Below w0.heap.size w0 W

/-- The blocks that are none of the boxes. -/
def Far (gW gD gO gM gA k : Nat) : Prop := k ≠ gW ∧ k ≠ gD ∧ k ≠ gO ∧ k ≠ gM ∧ k ≠ gA

structure St (w0 : World) (gW gD gO gM gA : Nat) (WA : Option Addr) (wc : Nat) (ws : List Int) (due m : Int) (X : Nat → Prop) (g cap : Nat) (l : List Int) (ov : Value) (outs : List (List Int)) (W : World) : Prop where
  env : Env w0 gW gD gO gM gA WA wc ws due m W
  out : W.heap[gO]? = some (.cells #[ov] 35 (0, 0))
  rows : Kd.S (Kd.slice 3 (Kd.int .i64)) 22 W w0.heap.size (fun k => (Far gW gD gO gM gA k ∧ X k) ∧ k ≠ g) ov outs
  own : Own W w0.heap.size g cap l
  far : Far gW gD gO gM gA g

section
variable {w0 : World} {gW gD gO gM gA : Nat} {WA : Option Addr} {wc : Nat} {ws : List Int} {due m : Int} {X : Nat → Prop} {g cap : Nat} {l : List Int} {ov : Value} {outs : List (List Int)} {W W' : World}
theorem Env.move (h : Env w0 gW gD gO gM gA WA wc ws due m W) (hm : ∀ k, k = gW ∨ k = gD ∨ k = gM ∨ k = gA → W'.heap[k]? = W.heap[k]?) (hb : Below w0.heap.size w0 W') : Env w0 gW gD gO gM gA WA wc ws due m W' :=
  ⟨(hm _ (by simp)).trans h.hW, (hm _ (by simp)).trans h.hD, (hm _ (by simp)).trans h.hM, (hm _ (by simp)).trans h.hA, hb⟩
theorem Env.lts (h : Env w0 gW gD gO gM gA WA wc ws due m W) : gW < W.heap.size ∧ gD < W.heap.size ∧ gM < W.heap.size ∧ gA < W.heap.size :=
  ⟨(Array.getElem?_eq_some_iff.1 h.hW).1, (Array.getElem?_eq_some_iff.1 h.hD).1, (Array.getElem?_eq_some_iff.1 h.hM).1, (Array.getElem?_eq_some_iff.1 h.hA).1⟩
theorem Env.below (h : Env w0 gW gD gO gM gA WA wc ws due m W) (hb : Below W.heap.size W W') : Env w0 gW gD gO gM gA WA wc ws due m W' :=
  h.move (fun k hk => hb.block k (by obtain ⟨h1, h2, h3, h4⟩ := h.lts; rcases hk with rfl | rfl | rfl | rfl <;> assumption)) (h.bel.trans (hb.mono h.bel.size))
theorem Env.cells (h : Env w0 gW gD gO gM gA WA wc ws due m W) : W.cell? ⟨gW, 0, none⟩ = some (.slice WA ws.length wc) ∧ W.cell? ⟨gD, 0, none⟩ = some (.int .i64 due) ∧ W.cell? ⟨gM, 0, none⟩ = some (.int .i64 m) ∧
    W.cell? ⟨gA, 0, none⟩ = some (.func (.func 26) #[] #[.pointer (some ⟨gW, 0, none⟩), .pointer (some ⟨gD, 0, none⟩), .pointer (some ⟨gO, 0, none⟩), .pointer (some ⟨gM, 0, none⟩), .pointer (some ⟨gA, 0, none⟩)]) := by
  obtain ⟨h1, h2, h3, h4, _⟩ := h
  refine ⟨?_, ?_, ?_, ?_⟩ <;> simp [World.cell?, *]
theorem St.outCell (h : St w0 gW gD gO gM gA WA wc ws due m X g cap l ov outs W) : W.cell? ⟨gO, 0, none⟩ = some ov ∧ W.frozen? ⟨gO, 0, none⟩ = false := by
  have := h.out
  constructor <;> simp [World.cell?, World.frozen?, this]
theorem St.ltO (h : St w0 gW gD gO gM gA WA wc ws due m X g cap l ov outs W) : gO < W.heap.size := (Array.getElem?_eq_some_iff.1 h.out).1
theorem St.below (h : St w0 gW gD gO gM gA WA wc ws due m X g cap l ov outs W) (hb : Below W.heap.size W W') : St w0 gW gD gO gM gA WA wc ws due m X g cap l ov outs W' :=
  ⟨h.env.below hb, (hb.block gO h.ltO).trans h.out, Kd.S_below h.rows hb, h.own.below hb, h.far⟩
theorem St.alloc (h : St w0 gW gD gO gM gA WA wc ws due m X g cap l ov outs W) (o : Obj) : St w0 gW gD gO gM gA WA wc ws due m X g cap l ov outs (W.alloc o) := h.below ((Below.refl _ _).alloc (Nat.le_refl _) o)
theorem St.drew (h : St w0 gW gD gO gM gA WA wc ws due m X g cap l ov outs W) : St w0 gW gD gO gM gA WA wc ws due m X g cap l ov outs W.drew := h.below (below_drew (Below.refl _ _))
theorem St.drewN (h : St w0 gW gD gO gM gA WA wc ws due m X g cap l ov outs W) (n : Nat) : St w0 gW gD gO gM gA WA wc ws due m X g cap l ov outs (W.drewN n) := h.below (pw_below_drewN (Below.refl _ _) n)
end

theorem St.fresh {w0 : World} {gW gD gO gM gA : Nat} {WA : Option Addr} {wc : Nat} {ws : List Int} {due m : Int} {X : Nat → Prop} {g cap : Nat} {l : List Int} {ov : Value} {outs : List (List Int)} {W : World} (h : St w0 gW gD gO gM gA WA wc ws due m X g cap l ov outs W) (hX : ∀ k, W.heap.size ≤ k → X k) (k : Nat) (hk : W.heap.size ≤ k) : ((Far gW gD gO gM gA k ∧ X k) ∧ k ≠ g) ∧ some k ≠ ov.ownBlock := by
  obtain ⟨h1, h2, h3, h4⟩ := h.env.lts
  have h5 := h.ltO
  have h6 := h.own.lt
  refine ⟨⟨⟨⟨?_, ?_, ?_, ?_, ?_⟩, hX k hk⟩, ?_⟩, fun e => ?_⟩
  all_goals first | omega | (have := Kd.S_lt h.rows k e.symm; omega)
/-- What a variable's box holds. -/
def pick (g : Nat) (W : World) : Value := (W.cell? ⟨g, 0, none⟩).getD undef
theorem pick_is {g : Nat} {W : World} {u : Value} (h : W.cell? ⟨g, 0, none⟩ = some u) : W.cell? ⟨g, 0, none⟩ = some (pick g W) := by simp [pick, h]
theorem pick_eq {g : Nat} {W : World} {u : Value} (h : W.cell? ⟨g, 0, none⟩ = some u) : pick g W = u := by simp [pick, h]
theorem below_plain {w w1 : World} (h : Below w.drew.heap.size w.drew w1) : Below w.heap.size w w1 := ⟨h.os, h.tape, h.output, h.size, h.block⟩
theorem info22 : (Try.prog.info? 22).map (fun i => (i.zero, i.size, i.bytes)) = some (some (.slice none 0 0), 1, 24) := by kernel_rfl
theorem reads_box1 {α : Type} {Rr : α → List Value → Prop} {W : World} {b : Nat} {v : Value} {t : TypeId} {fr : Nat × Nat} {x : α} (h : W.heap[b]? = some (.cells #[v] t fr)) (hx : Rr x [v]) : ReadsRow Rr 1 W (some ⟨b, 0, none⟩) 1 [x] := by
  refine ⟨rfl, by omega, fun _ => ⟨_, rfl, fun j p hj => ?_⟩⟩
  cases j with
  | zero =>
    simp at hj
    subst hj
    refine ⟨[v], rfl, hx, fun i u hi => ?_⟩
    cases i with
    | zero =>
      simp at hi
      subst hi
      simp [World.cell?, h, Addr.add]
    | succ i => simp at hi
  | succ j => simp at hj
theorem step_srow {ops : Array Oper} {o : Oper} {a : Act} {Q : Exit → Act → World → Prop} {Kc : Act → World → Prop} {E : Prop} {w0 W : World} (base N : Nat) (hgd : o.guard = none) (s x : Operand)
    (ho : o.op = .call { callee := .builtin .append, args := #[s, x], argTypes := #[35, 35] }) (v : Value) (outs : List (List Int)) (l : List Int) (b : Nat) (A0 : Option Addr) (k0 : Nat) (ok : Nat → Prop)
    (hs : a.eval s = v) (hx : a.eval x = .slice (some ⟨b, 0, none⟩) 1 1) (HO : Kd.S (Kd.slice 3 (Kd.int .i64)) 22 W base (fun k => ok k ∧ k < N) v outs)
    (hbx : W.heap[b]? = some (.cells #[.slice A0 l.length k0] 22 (0, 0))) (hM : Kd.R (Kd.int .i64) 3 W base (fun k => N ≤ k) (.slice A0 l.length k0) l) (hokp : ∀ k, N ≤ k → ok k ∧ some k ≠ v.ownBlock) (hN : N ≤ W.heap.size)
    (HB : Below base w0 W) (hbase : base ≤ W.heap.size) (hl : outs.length < 100000000)
    (h : ∀ v1 w1, Kd.S (Kd.slice 3 (Kd.int .i64)) 22 w1 base ok v1 (outs ++ [l]) → Below base w0 w1 → W.grownBy w1 v.ownBlock → Kc (a.put o.dst v1) w1) :
    if Region.wanted o (yielded ops a.tmps) = true then Oper.wp Try.prog o a W Kc Q else E := by
  obtain ⟨f, hf, hR⟩ := Kd.S_tag HO outs.length (fun k => N ≤ k) (fun k h1 h2 => absurd h2.2 (by omega))
  refine step_rows (Kd.tag f (Kd.slice 3 (Kd.int .i64))) (Rr := fun x cs => x = (l, outs.length) ∧ cs = [.slice A0 l.length k0]) (w0 := w0) base hgd s x 35 22 (.slice none 0 0) 24 ho Try.underlying35 info22 rfl Nat.one_pos (by decide) v outs.zipIdx [(l, outs.length)] (some ⟨b, 0, none⟩) 1 1 ok (fun k => N ≤ k) hs hx (Kd.R_mono hR (fun _ hk => hk.1)) (reads_box1 hbx ⟨rfl, rfl⟩) ?_ hokp (fun k hk => (hokp k (Nat.le_trans hN hk)).1) HB hbase (by rw [List.length_zipIdx]; omega) ?_
  · rintro x cs ⟨rfl, rfl⟩
    exact ⟨_, rfl, Kd.R_mono hM (fun k hk => ⟨hk, hf k hk⟩)⟩
  · intro v1 w1 hr hb hg _
    rw [← Kd.zip_snoc] at hr
    exact h v1 w1 ⟨f, hr⟩ hb hg
theorem R_empty (W : World) (base : Nat) (hb : base ≤ W.heap.size) : Kd.R (Kd.int .i64) 3 (W.alloc (.cells #[] 3)) base (fun _ => True) (.slice (some ⟨W.heap.size, 0, none⟩) 0 0) [] :=
  ⟨fun _ _ => trivial, [], (by have h2 := World.ownsRow_lit (base := base) (e := 3) (size := (Kd.int .i64).sz) W #[] 0 hb (by simp [maxLen]) (by simp); simpa using h2), Kd.reps_scalar []⟩

set_option maxHeartbeats 2000000 in
set_option maxRecDepth 100000 in
/-- slices.Clone of a slice that is not nil. -/
theorem clone_calls (g cap base : Nat) (l : List Int) (w : World) (hO : Own w base g cap l) (hl : l.length < 1000) :
    Calls Try.prog 27 #[.slice (some ⟨g, 0, none⟩) l.length cap] w fun e w' => ∃ v, e = .returned v ∧ Kd.R (Kd.int .i64) 3 w' w.heap.size (fun _ => True) v l ∧ Below w.heap.size w w' := by
  have HO := Aside0.mk hO; clear hO
  have he : ∀ w : World, (binOp .eql 22 (.slice (some ⟨g, 0, none⟩) l.length cap) (.slice none 0 0)).run Try.prog w = .ok (.bool false) w := fun _ => rfl
  go_enter Try.func27, Try.ntmps27
  go_wp2_with (at_builtin; refine Kd.R_append_rows (Kd.int .i64) (w0 := w) w.heap.size rfl (.tmp 5) (.tmp 6) 22 3 (.int .i64 0) 8 rfl Try.underlying22 Go.Proofs.Ytmbkdapofcgccaa.Pr.info3 rfl (by decide) (by omega) (.slice (some ⟨w.heap.size, 0, none⟩) 0 0) [] l (some ⟨g, 0, none⟩) l.length cap (fun _ => True) (fun _ => False) rfl rfl (R_empty w _ (Nat.le_refl _)) (Kd.C_below HO.out.C.2 ((Below.refl _ w).alloc (Nat.le_refl _) _)) (fun _ _ h => h) (fun _ h => h.elim) (fun _ _ => trivial) ((Below.refl _ w).alloc (Nat.le_refl _) _) (by simp) (by simp; omega) ?_; intro v1 w1 hr1 hb1 _ _)
  go_ret
  exact ⟨v1, rfl, by simpa using hr1, hb1⟩

/-- What a call of the closure leaves. -/
def AddPost (w0 : World) (gW gD gO gM gA : Nat) (WA : Option Addr) (wc : Nat) (ws : List Int) (due m : Int) (res : List (List Int)) (X : Nat → Prop) (g cap : Nat) (l : List Int) (outs : List (List Int)) (w : World) (e : Ending) (w' : World) : Prop :=
  e = .returned (.tuple #[]) ∧ ∃ ov', St w0 gW gD gO gM gA WA wc ws due m X g cap l ov' (outs ++ res) w' ∧ Kept w w' (fun k => k = gO ∨ k = g ∨ X k)

theorem full_fin {w0 : World} {gW gD gO gM gA : Nat} {WA : Option Addr} {wc : Nat} {ws : List Int} {due m : Int} {X : Nat → Prop} {g cap : Nat} {l : List Int} {ov v1 : Value} {outs : List (List Int)} {w W w1 : World}
    (hX : ∀ k, w.heap.size ≤ k → X k) (hS : St w0 gW gD gO gM gA WA wc ws due m X g cap l ov outs w) (hb : Below w.heap.size w W) (hr : Kd.S (Kd.slice 3 (Kd.int .i64)) 22 w1 w0.heap.size (fun k => (Far gW gD gO gM gA k ∧ X k) ∧ k ≠ g) v1 (outs ++ [l])) (hg : W.grownBy w1 ov.ownBlock) (hOX : gO ≠ gW ∧ gO ≠ gD ∧ gO ≠ gM ∧ gO ≠ gA) (hbase : w0.heap.size ≤ gO) :
    AddPost w0 gW gD gO gM gA WA wc ws due m [l] X g cap l outs w (.returned (.tuple #[])) (w1.setCell ⟨gO, 0, none⟩ v1) := by
  have hSW := hS.below hb
  have hsame : ∀ k, k < W.heap.size → (k = gW ∨ k = gD ∨ k = gM ∨ k = gA ∨ k = gO ∨ k = g) → w1.heap[k]? = W.heap[k]? := by
    intro k hk hc
    refine hg.block k hk (fun e => ?_)
    have := (Kd.S_R hS.rows).1 k e.symm
    obtain ⟨⟨⟨h1, h2, h3, h4, h5⟩, _⟩, h6⟩ := this
    rcases hc with h | h | h | h | h | h <;> contradiction
  obtain ⟨l1, l2, l3, l4⟩ := hSW.env.lts
  have lO := hSW.ltO
  have lg := hSW.own.lt
  refine ⟨rfl, v1, ⟨?_, ?_, ?_, ?_, hS.far⟩, ?_⟩
  · refine hSW.env.move (fun k hk => ?_) ?_
    · rw [Below.heap_setCell _ _ _ _ (by obtain ⟨h1, h2, h3, h4⟩ := hOX; rcases hk with rfl | rfl | rfl | rfl <;> exact Ne.symm (by assumption))]
      exact hsame k (by rcases hk with rfl | rfl | rfl | rfl <;> assumption) (by rcases hk with rfl | rfl | rfl | rfl <;> simp)
    · refine (hSW.env.bel.grown hg hSW.env.bel.size (fun k hk => Kd.S_base hS.rows k hk)).setCell (p := ⟨gO, 0, none⟩) hbase _
  · exact blk_put ((hsame gO lO (by simp)).trans hSW.out) 0 v1 rfl
  · exact Kd.S_far hr (fun k hk => hk.1.1.2.2.1) _
  · refine hSW.own.move ?_
    rw [Below.heap_setCell _ _ _ _ (fun e => hS.far.2.2.1 e)]
    exact hsame g lg (by simp)
  · refine ((Kept.of_grown hg (Kept.of_below hb _) (fun k hk => .inl (.inr (.inr ((Kd.S_R hS.rows).1 k hk).1.2)))).setCell (p := ⟨gO, 0, none⟩) (.inl (.inl rfl)) _)

set_option maxHeartbeats 4000000 in
set_option maxRecDepth 100000 in
theorem add_full (w0 : World) (gW gD gO gM gA : Nat) (WA : Option Addr) (wc : Nat) (ws : List Int) (due m : Int) (hOX : gO ≠ gW ∧ gO ≠ gD ∧ gO ≠ gM ∧ gO ≠ gA) (hbase : w0.heap.size ≤ gO) (X : Nat → Prop) (g cap : Nat) (l : List Int) (cost left : Int) (ov : Value) (outs : List (List Int)) (w : World)
    (hll : l.length = ws.length) (hl : l.length < 1000) (hX : ∀ k, w.heap.size ≤ k → X k) (hS : St w0 gW gD gO gM gA WA wc ws due m X g cap l ov outs w) (ho : outs.length < 100000000) :
    Calls Try.prog 26 #[.slice (some ⟨g, 0, none⟩) l.length cap, .int .i64 cost, .int .i64 left, .pointer (some ⟨gW, 0, none⟩), .pointer (some ⟨gD, 0, none⟩), .pointer (some ⟨gO, 0, none⟩), .pointer (some ⟨gM, 0, none⟩), .pointer (some ⟨gA, 0, none⟩)] w (AddPost w0 gW gD gO gM gA WA wc ws due m (if cost = due then [l] else []) X g cap l outs w) := by
  obtain ⟨cW, cD, cM, cA⟩ := hS.env.cells
  obtain ⟨cO, fO⟩ := hS.outCell
  have h1' : ((l.length : Int) == (ws.length : Int)) = true := by simp [hll]
  have HLL := Aside0.mk hll; clear hll
  have HS := Aside0.mk hS; clear hS
  have HX := Aside0.mk hX; clear hX
  have HOX := Aside0.mk hOX; clear hOX
  have HBS := Aside0.mk hbase; clear hbase
  by_cases hd : cost = due
  · subst hd
    rw [if_pos rfl]
    have HO0 := Aside0.mk ho; clear ho
    have HL0 := Aside0.mk hl; clear hl
    go_enter Try.func26, Try.ntmps26
    go_wp2_with fail
    go_region_law
      (first
        | (go_simp; go_at_call 27; refine (clone_calls g cap w0.heap.size l _ ?ho HL0.out).mono ?_; (case ho => first | exact HS.out.own | exact HS.out.drew.own); rintro e w1 ⟨v0, rfl, hr1, hb1⟩; obtain ⟨A0, k0, rfl⟩ := Kd.R_slice hr1; have hbW : Below w.heap.size w w1 := (by first | exact hb1 | exact below_plain hb1); have c1 : w1.cell? ⟨gO, 0, none⟩ = some ov := (HS.out.below hbW).outCell.1; have l1 : gO < w1.heap.size := (HS.out.below hbW).ltO)
        | (refine step_srow (w0 := w0) w0.heap.size w.heap.size rfl (.tmp 23) (.tmp 26) rfl ov outs l _ A0 k0 (fun k => (Far gW gD gO gM gA k ∧ X k) ∧ k ≠ g) rfl rfl ?h1 ?h2 ?h3 ?h4 ?h5 ?h6 ?h7 ?h8 ?_
           (case h1 => first | exact Kd.S_alloc (Kd.S_below (Kd.S_mono (Kd.S_bound HS.out.rows) (fun k hk => ⟨hk.1, hk.2.2.1⟩)) hbW) _ | exact Kd.S_drew (Kd.S_alloc (Kd.S_below (Kd.S_mono (Kd.S_bound HS.out.rows) (fun k hk => ⟨hk.1, hk.2.2.1⟩)) hbW) _))
           (case h2 => first | exact blk_new _ _ | exact blk_drew (blk_new _ _))
           (case h3 => exact Kd.R_lower (Kd.R_mono (Kd.R_bound (Kd.R_below hr1 (by first | exact (Below.refl _ _).alloc (Nat.le_refl _) _ | exact below_drew ((Below.refl _ _).alloc (Nat.le_refl _) _)))) (fun k hk => hk.2.1)) HS.out.env.bel.size)
           (case h4 => exact fun k hk => HS.out.fresh HX.out k hk)
           (case h5 => exact Nat.le_trans hbW.size (by simp))
           (case h6 => first | exact ((HS.out.below hbW).alloc _).env.bel | exact ((HS.out.below hbW).alloc _).drew.env.bel)
           (case h7 => first | exact ((HS.out.below hbW).alloc _).env.bel.size | exact ((HS.out.below hbW).alloc _).drew.env.bel.size)
           (case h8 => have := HO0.out; omega)
           (intro v1 w2 hr2 hb2 hg2)
           (obtain ⟨A2, k2, rfl⟩ := Kd.S_slice hr2)
           (rw [show (outs ++ [l]).length = outs.length + 1 by simp] at hr2)
           (have hbA : Below w.heap.size w (w1.alloc (.cells #[.slice A0 l.length k0] 22)) := hbW.alloc hbW.size _)
           (have hg3 : (w1.alloc (.cells #[.slice A0 l.length k0] 22)).grownBy w2 ov.ownBlock := (by first | exact hg2 | exact ⟨hg2.os, hg2.tape, hg2.output, hg2.size, hg2.block⟩))
           (have b2 : w2.heap[gO]? = some (.cells #[ov] 35 (0, 0)) := (hg3.block gO (HS.out.below hbA).ltO (fun e => ((Kd.S_R HS.out.rows).1 gO e.symm).1.1.2.2.1 rfl)).trans (HS.out.below hbA).out)
           (have c2 : w2.cell? ⟨gO, 0, none⟩ = some ov := by simp [World.cell?, b2])
           (have f2 : w2.frozen? ⟨gO, 0, none⟩ = false := by simp [World.frozen?, b2])
           (have c3 : (w2.setCell ⟨gO, 0, none⟩ (.slice A2 (outs.length + 1) k2)).cell? ⟨gO, 0, none⟩ = some (.slice A2 (outs.length + 1) k2) := blk_cell (blk_put b2 0 _ rfl) 0)))
    all_goals
      go_wp2
      go_end0
      exact full_fin HX.out HS.out hbA hr2 hg3 HOX.out HBS.out
  · have hd' : (cost == due) = false := by simpa using hd
    rw [if_neg hd]
    go_enter Try.func26, Try.ntmps26
    go_wp2_with fail
    go_end0
    exact ⟨rfl, ov, by simpa using HS.out, Kept.refl _ _⟩

/-- The part of the results that i rounds give. -/
def prt (m due w : Int) (rest l : List Int) (cost left : Int) (i : Nat) : List (List Int) :=
  (List.range i).flatMap fun (i : Nat) => if cost + w * ((i : Int) + 1) ≤ due ∧ m ^ (10 - i) ≤ left then addAll m due rest (l ++ [(i : Int) + 1]) (cost + w * ((i : Int) + 1)) (left - m ^ (10 - i)) else []
theorem prt_succ (m due w : Int) (rest l : List Int) (cost left : Int) (i : Nat) : prt m due w rest l cost left (i + 1) = prt m due w rest l cost left i ++ (if cost + w * ((i : Int) + 1) ≤ due ∧ m ^ (10 - i) ≤ left then addAll m due rest (l ++ [(i : Int) + 1]) (cost + w * ((i : Int) + 1)) (left - m ^ (10 - i)) else []) := by
  simp [prt, List.range_succ]
theorem addAll_len (m due : Int) : ∀ (ws l : List Int) (cost left : Int), (addAll m due ws l cost left).length ≤ 11 ^ ws.length
  | [], l, cost, left => by
    simp only [addAll]
    split <;> simp
  | w :: ws, l, cost, left => by
    simp only [addAll]
    have := flatMap_len (fun (i : Nat) => if cost + w * ((i : Int) + 1) ≤ due ∧ m ^ (10 - i) ≤ left then addAll m due ws (l ++ [(i : Int) + 1]) (cost + w * ((i : Int) + 1)) (left - m ^ (10 - i)) else []) (11 ^ ws.length) (List.range 11) (fun i => by
      show (if _ then _ else _ : List (List Int)).length ≤ _
      split
      · exact addAll_len m due ws _ _ _
      · simp)
    simpa [Nat.pow_succ, Nat.mul_comm] using this
theorem prt_len (m due w : Int) (rest l : List Int) (cost left : Int) (i : Nat) : (prt m due w rest l cost left i).length ≤ i * 11 ^ rest.length := by
  have := flatMap_len (fun (i : Nat) => if cost + w * ((i : Int) + 1) ≤ due ∧ m ^ (10 - i) ≤ left then addAll m due rest (l ++ [(i : Int) + 1]) (cost + w * ((i : Int) + 1)) (left - m ^ (10 - i)) else []) (11 ^ rest.length) (List.range i) (fun i => by
      show (if _ then _ else _ : List (List Int)).length ≤ _
      split
      · exact addAll_len m due rest _ _ _
      · simp)
  simpa [prt] using this
/-- What is over due stays over due. -/
theorem prt_over (m due w : Int) (rest l : List Int) (cost left : Int) (hw : 0 ≤ w) (i : Nat) (hi : due < cost + w * ((i : Int) + 1)) (n : Nat) : prt m due w rest l cost left (i + n) = prt m due w rest l cost left i := by
  induction n with
  | zero => rfl
  | succ n ih =>
    rw [← Nat.add_assoc, prt_succ, ih, if_neg, List.append_nil]
    rintro ⟨h1, _⟩
    have : w * ((i : Int) + 1) ≤ w * (((i + n : Nat) : Int) + 1) := Int.mul_le_mul_of_nonneg_left (by omega) hw
    omega

end Go.Proofs.Ytmbkdapofcgccaa.AddCl
