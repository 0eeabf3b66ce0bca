/- Rows of rows: a row is appended in a region; rows that are new. -/
import Derived.Test.YtmdaggnfgghnfaaDoorProg
import Derived.Test.YtmdaggnfgghnfaaDoorWMore
namespace Go.Proofs.YtmdaggnfgghnfaaDoor.Srow
open Go.RowKit Go.Proofs.YtmdaggnfgghnfaaDoorW.PrintWords Go.Proofs.YtmdaggnfgghnfaaDoorW.PrintLast Go.Proofs.YtmdaggnfgghnfaaDoorW.PrintMore
set_option linter.unusedVariables false

theorem below_plain {w w1 : World} (h : Below w.drew.heap.size w.drew w1) : Below w.heap.size w w1 := ⟨h.os, h.tape, h.output, h.size, h.block⟩
theorem reads_box1 {α : Type} {Rr : α → List Value → Prop} {W : World} {b : Nat} {v : Value} {t : TypeId} {fr : Nat × Nat} {x : α} (h : W.heap[b]? = some (.cells #[v] t fr)) (hx : Rr x [v]) : ReadsRow Rr 1 W (some ⟨b, 0, none⟩) 1 [x] := by
  refine ⟨rfl, by omega, fun _ => ⟨_, rfl, fun j p hj => ?_⟩⟩
  cases j with
  | zero =>
    simp at hj
    subst hj
    refine ⟨[v], rfl, hx, fun i u hi => ?_⟩
    cases i with
    | zero =>
      simp at hi
      subst hi
      simp [World.cell?, h, Addr.add]
    | succ i => simp at hi
  | succ j => simp at hj
section
open Go.Proofs.YtmdaggnfgghnfaaDoorW.PrintWords.Kd
variable {P : Program} {ops : Array Oper} {o : Oper} {a : Act} {Q : Exit → Act → World → Prop} {Kc : Act → World → Prop} {E : Prop} {α : Type}
/-- An append of a row that is read, in a region that draws its order. -/
theorem step_rows (d : Kd α) {Rr : α → List Value → Prop} {w0 W : World} (base : Nat) (hgd : o.guard = none) (s x : Operand) (t e : TypeId) (z : Value) (bytes : Nat)
    (ho : o.op = .call { callee := .builtin .append, args := #[s, x], argTypes := #[t, t] })
    (ht : P.underlying t = some (.slice e)) (hinfo : (P.info? e).map (fun i => (i.zero, i.size, i.bytes)) = some (some z, d.sz, bytes)) (hz : z.cells.size = d.sz) (hs0 : 0 < d.sz) (hb0 : 0 < bytes)
    (v : Value) (xs ys : List α) (A : Option Addr) (m c : Nat) (ok okp : Nat → Prop) (hs : a.eval s = v) (hx : a.eval x = .slice A m c)
    (HO : d.R e W base ok v xs) (HR : ReadsRow Rr d.sz W A m ys) (hKM : ∀ x cs, Rr x cs → d.M W base okp x cs) (hokp : ∀ k, okp k → ok k ∧ some k ≠ v.ownBlock) (hfresh : ∀ k, W.heap.size ≤ k → ok k)
    (HB : Below base w0 W) (hbase : base ≤ W.heap.size) (hl : (xs.length + m) * bytes ≤ 140737488355328)
    (h : ∀ v1 w1, d.R e w1 base ok v1 (xs ++ ys) → Below base w0 w1 → W.grownBy w1 v.ownBlock → (v1.ownBlock = v.ownBlock ∨ ∃ b, v1.ownBlock = some b ∧ W.heap.size ≤ b) → Kc (a.put o.dst v1) w1) :
    if Region.wanted o (yielded ops a.tmps) = true then Oper.wp P o a W Kc Q else E := by
  have hw : Region.wanted o (yielded ops a.tmps) = true := by simp [Region.wanted, hgd]
  rw [if_pos hw]
  have := R_append_rows_step (P := P) (ops := ops) (o := o) (a := a) (Q := Q) (Kc := Kc) d base hw s x t e z bytes ho ht hinfo hz hs0 hb0 v xs ys A m c ok okp hs hx HO HR hKM hokp hfresh HB hbase hl h
  rwa [if_pos hw] at this
end

theorem reads_box {W : World} {b : Nat} {x : Int} {t : TypeId} {fr : Nat × Nat} (h : W.heap[b]? = some (.cells #[.int .i64 x] t fr)) : ReadsRow (fun (x : Int) cs => cs = [Value.int .i64 x]) 1 W (some ⟨b, 0, none⟩) 1 [x] := by
  refine Kd.C_of_reads (enc := Value.int .i64) (d := 0) (h1 := fun _ => rfl) ?_
  refine ⟨rfl, by omega, fun _ => ⟨_, rfl, fun j hj => ?_⟩⟩
  obtain rfl : j = 0 := by omega
  simp [World.cell?, h, Addr.add]

theorem step_srow {α : Type} (d : Kd α) (t2 t1 t0 : TypeId) (hu2 : Tryd.prog.underlying t2 = some (.slice t1)) (hi1 : (Tryd.prog.info? t1).map (fun i => (i.zero, i.size, i.bytes)) = some (some (.slice none 0 0), 1, 24)) {ops : Array Oper} {o : Oper} {a : Act} {Q : Exit → Act → World → Prop} {Kc : Act → World → Prop} {E : Prop} {w0 W : World} (base N : Nat) (hgd : o.guard = none) (s x : Operand)
    (ho : o.op = .call { callee := .builtin .append, args := #[s, x], argTypes := #[t2, t2] }) (v : Value) (outs : List (List α)) (l : List α) (b : Nat) (A0 : Option Addr) (k0 : Nat) (ok : Nat → Prop)
    (hs : a.eval s = v) (hx : a.eval x = .slice (some ⟨b, 0, none⟩) 1 1) (HO : Kd.S (Kd.slice t0 d) t1 W base (fun k => ok k ∧ k < N) v outs)
    (hbx : W.heap[b]? = some (.cells #[.slice A0 l.length k0] t1 (0, 0))) (hM : Kd.R d t0 W base (fun k => N ≤ k) (.slice A0 l.length k0) l) (hokp : ∀ k, N ≤ k → ok k ∧ some k ≠ v.ownBlock) (hN : N ≤ W.heap.size)
    (HB : Below base w0 W) (hbase : base ≤ W.heap.size) (hl : outs.length < 100000000)
    (h : ∀ v1 w1, Kd.S (Kd.slice t0 d) t1 w1 base ok v1 (outs ++ [l]) → Below base w0 w1 → W.grownBy w1 v.ownBlock → Kc (a.put o.dst v1) w1) :
    if Region.wanted o (yielded ops a.tmps) = true then Oper.wp Tryd.prog o a W Kc Q else E := by
  obtain ⟨f, hf, hR⟩ := Kd.S_tag HO outs.length (fun k => N ≤ k) (fun k h1 h2 => absurd h2.2 (by omega))
  refine step_rows (Kd.tag f (Kd.slice t0 d)) (Rr := fun x cs => x = (l, outs.length) ∧ cs = [.slice A0 l.length k0]) (w0 := w0) base hgd s x t2 t1 (.slice none 0 0) 24 ho hu2 hi1 rfl Nat.one_pos (by decide) v outs.zipIdx [(l, outs.length)] (some ⟨b, 0, none⟩) 1 1 ok (fun k => N ≤ k) hs hx (Kd.R_mono hR (fun _ hk => hk.1)) (reads_box1 hbx ⟨rfl, rfl⟩) ?_ hokp (fun k hk => (hokp k (Nat.le_trans hN hk)).1) HB hbase (by rw [List.length_zipIdx]; omega) ?_
  · rintro x cs ⟨rfl, rfl⟩
    exact ⟨_, rfl, Kd.R_mono hM (fun k hk => ⟨hk, hf k hk⟩)⟩
  · intro v1 w1 hr hb hg _
    rw [← Kd.zip_snoc] at hr
    exact h v1 w1 ⟨f, hr⟩ hb hg
theorem R_none {α : Type} (d : Kd α) (e : Nat) (W : World) (base : Nat) (hb : base ≤ W.heap.size) (ok : Nat → Prop) (hok : ok W.heap.size) : Kd.S d e (W.alloc (.cells #[] e)) base ok (.slice (some ⟨W.heap.size, 0, none⟩) 0 0) [] := by
  refine ⟨fun _ => 0, ?_, [], ?_, ?_⟩
  · intro k hk
    have : W.heap.size = k := by simpa [Value.ownBlock] using hk
    rw [← this]
    exact hok
  · have h2 := World.ownsRow_lit (base := base) (e := e) (size := (Kd.tag (fun _ => 0) d).sz) W #[] 0 hb (by simp [maxLen]) (by simp)
    simpa using h2
  · exact Reps.none _ _
theorem up {W : World} {g : Nat} {o o' : Obj} (h : W.heap[g]? = some o) : (W.alloc o').heap[g]? = some o := by
  rw [Below.heap_alloc _ _ _ (Array.getElem?_eq_some_iff.1 h).1]
  exact h
theorem new_at {W : World} {o : Obj} {n : Nat} (h : n = W.heap.size) : (W.alloc o).heap[n]? = some o := by
  subst h
  show (W.heap.push o)[W.heap.size]? = _
  simp
end Go.Proofs.YtmdaggnfgghnfaaDoor.Srow
