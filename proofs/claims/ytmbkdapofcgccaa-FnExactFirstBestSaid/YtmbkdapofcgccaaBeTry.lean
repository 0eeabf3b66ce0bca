/- spec.beFind: it finds, in lexicographic order, all lengths that fit and cost as much as the merged sums. -/
import Derived.Test.YtmbkdapofcgccaaPr3
import Derived.Deep.RegionHeld3
import Derived.Deep.AppendLies
import Derived.StillTailTactics
namespace Go.Proofs.Ytmbkdapofcgccaa.BeTry
open Go.RowKit Go.Proofs.YtmbkdapofcgccaaW.PrintWords Go.Proofs.YtmbkdapofcgccaaW.PrintLast Go.Proofs.YtmbkdapofcgccaaW.PrintMore
set_option linter.unusedVariables false
set_option linter.unusedSimpArgs false

/-- What the search finds: all lists in lexicographic order. -/
def tryAll (m : Int) : List Int → List Int → Int → Int → List (List Int)
  | [], list, share, cost => if cost < 0 ∨ share < 0 then [] else if cost = 0 then [list] else []
  | w :: rest, list, share, cost => if cost < 0 ∨ share < 0 then [] else
      (List.range 11).flatMap fun (i : Nat) => tryAll m rest (list ++ [(i : Int) + 1]) (share - m ^ (10 - i)) (cost - ((i : Int) + 1) * w)

def St (W : World) (g : Nat) (wv : Value) (m best : Int) (fv : Value) (cnt : Int) : Prop :=
  W.heap[g]? = some (.cells #[wv, .int .i64 m, .int .i64 best, fv, .int .i64 cnt] 39 (0, 0))

theorem St.cells {W : World} {g : Nat} {wv : Value} {m best : Int} {fv : Value} {cnt : Int} (h : St W g wv m best fv cnt) :
    W.cell? ⟨g, 0, none⟩ = some wv ∧ W.cell? ⟨g, 1, none⟩ = some (.int .i64 m) ∧ W.cell? ⟨g, 3, none⟩ = some fv ∧ W.cell? ⟨g, 4, none⟩ = some (.int .i64 cnt) ∧
    W.frozen? ⟨g, 3, none⟩ = false ∧ W.frozen? ⟨g, 4, none⟩ = false := by
  unfold St at h
  refine ⟨?_, ?_, ?_, ?_, ?_, ?_⟩ <;> simp [World.cell?, World.frozen?, h]

theorem St.below {W W1 : World} {g : Nat} {wv : Value} {m best : Int} {fv : Value} {cnt : Int} (h : St W g wv m best fv cnt) (hb : Below W.heap.size W W1) : St W1 g wv m best fv cnt := blk_below h hb
theorem St.set3 {W : World} {g : Nat} {wv : Value} {m best : Int} {fv : Value} {cnt : Int} (h : St W g wv m best fv cnt) (u : Value) : St (W.setCell ⟨g, 3, none⟩ u) g wv m best u cnt := blk_put h 3 u rfl
theorem St.set4 {W : World} {g : Nat} {wv : Value} {m best : Int} {fv : Value} {cnt : Int} (h : St W g wv m best fv cnt) (u : Int) : St (W.setCell ⟨g, 4, none⟩ (.int .i64 u)) g wv m best fv u := blk_put h 4 _ rfl

/-- What a call of try leaves. -/
def TryPost (res : List (List Int)) (g : Nat) (wv : Value) (m best cnt : Int) (base : Nat) (fl : List Int) (w : World) (e : Ending) (w' : World) : Prop :=
  e = .returned (.tuple #[]) ∧ ∃ fv', St w' g wv m best fv' (cnt + res.length) ∧ Kd.R (Kd.int .i64) 3 w' base (fun k => k ≠ g) fv' (if cnt = 0 then res.head?.getD fl else fl) ∧ KeepBut w w' g none ∧ Below base w w'

set_option maxHeartbeats 4000000 in
set_option maxRecDepth 100000 in
theorem try_none (m : Int) (ws : List Int) (base : Nat) (fl : List Int) (g : Nat) (A : Option Addr) (c : Nat) (l : List Int) (share cost : Int) (WA : Option Addr) (wc : Nat) (best cnt : Int) (fv : Value) (w : World)
    (hneg : cost < 0 ∨ share < 0) (hS : St w g (.slice WA ws.length wc) m best fv cnt) (hR : Kd.R (Kd.int .i64) 3 w base (fun k => k ≠ g) fv fl) :
    Calls Try.prog 20 #[.pointer (some ⟨g, 0, none⟩), .slice A l.length c, .int .i64 share, .int .i64 cost] w (TryPost [] g (.slice WA ws.length wc) m best cnt base fl w) := by
  have fin : TryPost [] g (.slice WA ws.length wc) m best cnt base fl w (.returned (.tuple #[])) w := ⟨rfl, fv, by simpa using hS, by simpa using hR, KeepBut.refl _ _ _, Below.refl _ _⟩
  have FIN := Aside0.mk fin
  clear fin hR
  by_cases h1 : cost < 0
  · have h1' : decide (cost < 0) = true := by simpa using h1
    go_enter Try.func20, Try.ntmps20
    go_wp2_with fail
    go_end0
    exact FIN.out
  · have h1' : decide (cost < 0) = false := by simpa using h1
    have h2' : decide (share < 0) = true := by simp; omega
    go_enter Try.func20, Try.ntmps20
    go_wp2_with fail
    go_end0
    exact FIN.out

set_option maxHeartbeats 4000000 in
set_option maxRecDepth 100000 in
theorem try_full (m : Int) (ws : List Int) (base : Nat) (fl : List Int) (g : Nat) (A : Option Addr) (c : Nat) (l : List Int) (share cost : Int) (WA : Option Addr) (wc : Nat) (best cnt : Int) (fv : Value) (w : World)
    (hc0 : 0 ≤ cost) (hs0 : 0 ≤ share) (hll : l.length = ws.length) (hcnt : 0 ≤ cnt ∧ cnt < 5000000000000) (hlm : l.length < 1000) (hbase : base ≤ w.heap.size) (hbg : base ≤ g)
    (hS : St w g (.slice WA ws.length wc) m best fv cnt) (hR : Kd.R (Kd.int .i64) 3 w base (fun k => k ≠ g) fv fl)
    (hL : Kd.C (Kd.int .i64) w A l.length l) (hc : l.length ≤ c) :
    Calls Try.prog 20 #[.pointer (some ⟨g, 0, none⟩), .slice A l.length c, .int .i64 share, .int .i64 cost] w (TryPost (if cost = 0 then [l] else []) g (.slice WA ws.length wc) m best cnt base fl w) := by
  have h1' : decide (cost < 0) = false := by simpa using hc0
  have h2' : decide (share < 0) = false := by simpa using hs0
  have h3' : ((l.length : Int) == (ws.length : Int)) = true := by simp [hll]
  obtain ⟨c0, c1, c3, c4, f3, f4⟩ := hS.cells
  have HS := Aside0.mk hS; clear hS
  have HLL := Aside0.mk hll; clear hll
  have HL := Aside0.mk hL; clear hL
  have HRR := Aside0.mk hR; clear hR
  by_cases hz : cost = 0
  · subst hz
    by_cases hk : cnt = 0
    · subst hk
      go_enter Try.func20, Try.ntmps20
      go_wp2_with (go_at_call 31; refine (Go.Proofs.Ytmbkdapofcgccaa.Pr.spec_l1Own.calls A c l l _ HL.out hc (by simp [Go.Proofs.Ytmbkdapofcgccaa.Pr.spec_l1Own.f]; omega)).mono ?_; rintro e w1 ⟨v0, rfl, hR1, hb1⟩; obtain ⟨A0, k0, rfl⟩ := Kd.R_slice hR1; obtain ⟨_, _, d3, d4, g3, g4⟩ := (HS.out.below hb1).cells; have HR1 := Aside0.mk hR1; clear hR1; have HB1 := Aside0.mk hb1; clear hb1)
      go_end0
      refine ⟨rfl, _, ((HS.out.below HB1.out).set3 _).set4 _, ?_, ?_, ((HB1.out.mono hbase).setCell (p := ⟨g, 3, none⟩) hbg _).setCell (p := ⟨g, 4, none⟩) hbg _⟩
      · have s1 := HS.out.below HB1.out
        have q0 : ∀ q, q ∈ 3 :: (Kd.int .i64).E → q ≠ 39 := by simp [Kd.int, Kd.scalar]
        have q1 := Kd.R_set (Kd.R_lower HR1.out hbase) s1 q0 3 (.slice A0 l.length k0)
        have q2 := Kd.R_set q1 (s1.set3 _) q0 4 (.int .i64 1)
        simpa using Kd.R_mono (Kd.R_types q2 ((s1.set3 _).set4 1) q0) (fun k hk => hk.2)
      · exact ((KeepBut.of_below HB1.out g none).set_ 3 _).set_ 4 _
    · have hk' : (cnt == 0) = false := by simpa using hk
      go_enter Try.func20, Try.ntmps20
      go_wp2_with fail
      go_end0
      refine ⟨rfl, _, HS.out.set4 _, ?_, ?_, (Below.refl _ _).setCell (p := ⟨g, 4, none⟩) hbg _⟩
      · rw [if_neg hk]
        exact Kd.R_set HRR.out HS.out (by simp [Kd.int, Kd.scalar]) 4 _
      · exact (KeepBut.refl w g none).set_ 4 _
  · have hz' : (cost == 0) = false := by simpa using hz
    rw [if_neg hz]
    go_enter Try.func20, Try.ntmps20
    go_wp2_with fail
    go_end0
    exact ⟨rfl, fv, by simpa using HS.out, by simpa using HRR.out, KeepBut.refl _ _ _, Below.refl _ _⟩

theorem tryAll_neg (m : Int) (ws l : List Int) (share cost : Int) (h : cost < 0 ∨ share < 0) : tryAll m ws l share cost = [] := by
  cases ws <;> simp [tryAll, h]

/-- The power, as the reference reckons it. -/
theorem krPower_eq (m : Int) (hm : 2 ≤ m ∧ m ≤ 3) (n : Nat) (hn : n ≤ 11) : Go.Proofs.Ytmbkdapofcgccaa.Pr.spec_krPower.f 12 m n = some (m ^ n) := by
  have key : ∀ (j k : Nat) (x : Int), j ≤ 11 → j < k → 0 ≤ x → x * m ^ j ≤ 177147 → Go.Proofs.Ytmbkdapofcgccaa.Pr.spec_krPower.l0 k m j x = some (x * m ^ j) := by
    intro j
    induction j with
    | zero =>
      intro k x _ hk _ _
      obtain ⟨k, rfl⟩ : ∃ q, k = q + 1 := ⟨k - 1, by omega⟩
      simp [Go.Proofs.Ytmbkdapofcgccaa.Pr.spec_krPower.l0]
    | succ j ih =>
      intro k x hj hk hx hb
      obtain ⟨k, rfl⟩ : ∃ q, k = q + 1 := ⟨k - 1, by omega⟩
      have e1 : x * m ^ (j + 1) = x * m * m ^ j := by rw [Int.pow_succ]; rw [Int.mul_comm (m ^ j) m, Int.mul_assoc]
      have hp : 1 ≤ m ^ j := Int.pow_pos (by omega)
      have hxm : 0 ≤ x * m := Int.mul_nonneg hx (by omega)
      have hb2 : x * m ≤ 177147 := by
        rw [e1] at hb
        have := Int.mul_le_mul_of_nonneg_left hp hxm
        omega
      have w1 : wrap64 (((j + 1 : Nat) : Int) - 1) = (j : Int) := by unfold wrap64; omega
      have w2 : wrap64 (x * m) = x * m := by unfold wrap64; omega
      simp only [Go.Proofs.Ytmbkdapofcgccaa.Pr.spec_krPower.l0]
      rw [if_pos (by omega), w1, w2, ih k (x * m) (by omega) (by omega) hxm (by rw [← e1]; exact hb), e1]
  have hb : m ^ n ≤ 177147 := by
    have h2 : ∀ q : Fin 12, (2 : Int) ^ (q : Nat) ≤ 177147 := by decide
    have h3 : ∀ q : Fin 12, (3 : Int) ^ (q : Nat) ≤ 177147 := by decide
    rcases (show m = 2 ∨ m = 3 by omega) with rfl | rfl
    · exact h2 ⟨n, by omega⟩
    · exact h3 ⟨n, by omega⟩
  have := key n 12 1 hn (by omega) (by omega) (by omega)
  simpa [Go.Proofs.Ytmbkdapofcgccaa.Pr.spec_krPower.f] using this

theorem pow_bd (m : Int) (hm : 2 ≤ m ∧ m ≤ 3) (n : Nat) (hn : n ≤ 11) : 1 ≤ m ^ n ∧ m ^ n ≤ 177147 := by
  have h2 : ∀ q : Fin 12, 1 ≤ (2 : Int) ^ (q : Nat) ∧ (2 : Int) ^ (q : Nat) ≤ 177147 := by decide
  have h3 : ∀ q : Fin 12, 1 ≤ (3 : Int) ^ (q : Nat) ∧ (3 : Int) ^ (q : Nat) ≤ 177147 := by decide
  rcases (show m = 2 ∨ m = 3 by omega) with rfl | rfl
  · exact h2 ⟨n, by omega⟩
  · exact h3 ⟨n, by omega⟩

theorem flatMap_len {α β : Type} (f : α → List β) (B : Nat) : ∀ (l : List α), (∀ x, (f x).length ≤ B) → (l.flatMap f).length ≤ l.length * B
  | [], _ => by simp
  | x :: l, h => by
    have := flatMap_len f B l h
    have := h x
    simp only [List.flatMap_cons, List.length_append, List.length_cons, Nat.add_mul, Nat.one_mul]
    omega
theorem tryAll_len (m : Int) : ∀ (ws l : List Int) (share cost : Int), (tryAll m ws l share cost).length ≤ 11 ^ ws.length
  | [], l, share, cost => by
    simp only [tryAll]
    split
    · simp
    · split <;> simp
  | w :: ws, l, share, cost => by
    simp only [tryAll]
    split
    · simp
    · have := flatMap_len (fun (i : Nat) => tryAll m ws (l ++ [(i : Int) + 1]) (share - m ^ (10 - i)) (cost - ((i : Int) + 1) * w)) (11 ^ ws.length) (List.range 11) (fun i => tryAll_len m ws _ _ _)
      simpa [Nat.pow_succ, Nat.mul_comm] using this

/-- The part of the results that i rounds give. -/
def part (m : Int) (w : Int) (rest l : List Int) (share cost : Int) (i : Nat) : List (List Int) :=
  (List.range i).flatMap fun (i : Nat) => tryAll m rest (l ++ [(i : Int) + 1]) (share - m ^ (10 - i)) (cost - ((i : Int) + 1) * w)
theorem part_succ (m w : Int) (rest l : List Int) (share cost : Int) (i : Nat) : part m w rest l share cost (i + 1) = part m w rest l share cost i ++ tryAll m rest (l ++ [(i : Int) + 1]) (share - m ^ (10 - i)) (cost - ((i : Int) + 1) * w) := by
  simp [part, List.range_succ]
theorem part_len (m w : Int) (rest l : List Int) (share cost : Int) (i : Nat) : (part m w rest l share cost i).length ≤ i * 11 ^ rest.length := by
  have := flatMap_len (fun (i : Nat) => tryAll m rest (l ++ [(i : Int) + 1]) (share - m ^ (10 - i)) (cost - ((i : Int) + 1) * w)) (11 ^ rest.length) (List.range i) (fun i => tryAll_len m rest _ _ _)
  simpa [part] using this

theorem first_step {W : World} {g base : Nat} {fv : Value} (cnt : Int) (hc : 0 ≤ cnt) (r1 r2 : List (List Int)) (fl : List Int)
    (h : Kd.R (Kd.int .i64) 3 W base (fun k => k ≠ g) fv (if cnt + (r1.length : Int) = 0 then r2.head?.getD (if cnt = 0 then r1.head?.getD fl else fl) else (if cnt = 0 then r1.head?.getD fl else fl))) :
    Kd.R (Kd.int .i64) 3 W base (fun k => k ≠ g) fv (if cnt = 0 then (r1 ++ r2).head?.getD fl else fl) := by
  have e : (if cnt + (r1.length : Int) = 0 then r2.head?.getD (if cnt = 0 then r1.head?.getD fl else fl) else (if cnt = 0 then r1.head?.getD fl else fl)) = (if cnt = 0 then (r1 ++ r2).head?.getD fl else fl) := by
    by_cases h0 : cnt = 0
    · subst h0
      cases r1 with
      | nil => simp
      | cons a r => simp; omega
    · have : ¬ cnt + (r1.length : Int) = 0 := by omega
      simp [h0, this]
  rwa [e] at h

structure Mid (w wr : World) (g base : Nat) (wv : Value) (m best cnt : Int) (fl : List Int) (res : List (List Int)) : Prop where
  st : ∃ fv', St wr g wv m best fv' (cnt + res.length) ∧ Kd.R (Kd.int .i64) 3 wr base (fun k => k ≠ g) fv' (if cnt = 0 then res.head?.getD fl else fl)
  keep : KeepBut w wr g none
  bel : Below base w wr

section
open Go.Proofs.YtmbkdapofcgccaaW.PrintWords.Kd
variable {P : Program} {ops : Array Oper} {o : Oper} {a : Act} {Q : Exit → Act → World → Prop} {Kc : Act → World → Prop} {E : Prop} {α : Type}
/-- An append of a row that is read, in a region that draws its order. -/
theorem step_rows (d : Kd α) {Rr : α → List Value → Prop} {w0 W : World} (base : Nat) (hgd : o.guard = none) (s x : Operand) (t e : TypeId) (z : Value) (bytes : Nat)
    (ho : o.op = .call { callee := .builtin .append, args := #[s, x], argTypes := #[t, t] })
    (ht : P.underlying t = some (.slice e)) (hinfo : (P.info? e).map (fun i => (i.zero, i.size, i.bytes)) = some (some z, d.sz, bytes)) (hz : z.cells.size = d.sz) (hs0 : 0 < d.sz) (hb0 : 0 < bytes)
    (v : Value) (xs ys : List α) (A : Option Addr) (m c : Nat) (ok okp : Nat → Prop) (hs : a.eval s = v) (hx : a.eval x = .slice A m c)
    (HO : d.R e W base ok v xs) (HR : ReadsRow Rr d.sz W A m ys) (hKM : ∀ x cs, Rr x cs → d.M W base okp x cs) (hokp : ∀ k, okp k → ok k ∧ some k ≠ v.ownBlock) (hfresh : ∀ k, W.heap.size ≤ k → ok k)
    (HB : Below base w0 W) (hbase : base ≤ W.heap.size) (hl : (xs.length + m) * bytes ≤ 140737488355328)
    (h : ∀ v1 w1, d.R e w1 base ok v1 (xs ++ ys) → Below base w0 w1 → W.grownBy w1 v.ownBlock → (v1.ownBlock = v.ownBlock ∨ ∃ b, v1.ownBlock = some b ∧ W.heap.size ≤ b) → Kc (a.put o.dst v1) w1) :
    if Region.wanted o (yielded ops a.tmps) = true then Oper.wp P o a W Kc Q else E := by
  have hw : Region.wanted o (yielded ops a.tmps) = true := by simp [Region.wanted, hgd]
  rw [if_pos hw]
  have := R_append_rows_step (P := P) (ops := ops) (o := o) (a := a) (Q := Q) (Kc := Kc) d base hw s x t e z bytes ho ht hinfo hz hs0 hb0 v xs ys A m c ok okp hs hx HO HR hKM hokp hfresh HB hbase hl h
  rwa [if_pos hw] at this
end

theorem reads_box {W : World} {b : Nat} {x : Int} {t : TypeId} {fr : Nat × Nat} (h : W.heap[b]? = some (.cells #[.int .i64 x] t fr)) : ReadsRow (fun (x : Int) cs => cs = [Value.int .i64 x]) 1 W (some ⟨b, 0, none⟩) 1 [x] := by
  refine Kd.C_of_reads (enc := Value.int .i64) (d := 0) (h1 := fun _ => rfl) ?_
  refine ⟨rfl, by omega, fun _ => ⟨_, rfl, fun j hj => ?_⟩⟩
  obtain rfl : j = 0 := by omega
  simp [World.cell?, h, Addr.add]

/-- What a region carries from world to world. -/
structure Sv (w : World) (g base : Nat) (ad : Addr) (n wc : Nat) (m best cnt : Int) (fv : Value) (fl : List Int) (i : Nat) (x : Int) (W : World) : Prop where
  st : St W g (.slice (some ad) n wc) m best fv cnt
  own : Kd.R (Kd.int .i64) 3 W base (fun k => k ≠ g) fv fl
  keep : KeepBut w W g none
  cell : W.cell? (ad.add i) = some (.int .i64 x)
theorem Sv.below {w : World} {g base : Nat} {ad : Addr} {n wc : Nat} {m best cnt : Int} {fv : Value} {fl : List Int} {i : Nat} {x : Int} {W W1 : World} (h : Sv w g base ad n wc m best cnt fv fl i x W) (hb : Below W.heap.size W W1) : Sv w g base ad n wc m best cnt fv fl i x W1 :=
  ⟨h.st.below hb, Kd.R_below h.own hb, KeepBut.trans h.keep (KeepBut.of_below hb g none) (.inl rfl), pw_cell_below hb h.cell⟩
theorem Sv.alloc {w : World} {g base : Nat} {ad : Addr} {n wc : Nat} {m best cnt : Int} {fv : Value} {fl : List Int} {i : Nat} {x : Int} {W : World} (h : Sv w g base ad n wc m best cnt fv fl i x W) (o : Obj) : Sv w g base ad n wc m best cnt fv fl i x (W.alloc o) :=
  h.below ((Below.refl _ _).alloc (Nat.le_refl _) o)
theorem Sv.drew {w : World} {g base : Nat} {ad : Addr} {n wc : Nat} {m best cnt : Int} {fv : Value} {fl : List Int} {i : Nat} {x : Int} {W : World} (h : Sv w g base ad n wc m best cnt fv fl i x W) : Sv w g base ad n wc m best cnt fv fl i x W.drew :=
  h.below (below_drew (Below.refl _ _))
theorem Sv.drewN {w : World} {g base : Nat} {ad : Addr} {n wc : Nat} {m best cnt : Int} {fv : Value} {fl : List Int} {i : Nat} {x : Int} {W : World} (h : Sv w g base ad n wc m best cnt fv fl i x W) (k : Nat) : Sv w g base ad n wc m best cnt fv fl i x (W.drewN k) :=
  h.below (pw_below_drewN (Below.refl _ _) k)
theorem Sv.all {w : World} {g base : Nat} {ad : Addr} {n wc : Nat} {m best cnt : Int} {fv : Value} {fl : List Int} {i : Nat} {x : Int} {W : World} (h : Sv w g base ad n wc m best cnt fv fl i x W) :
    W.cell? ⟨g, 0, none⟩ = some (.slice (some ad) n wc) ∧ W.cell? ⟨g, 1, none⟩ = some (.int .i64 m) ∧ W.cell? (ad.add i) = some (.int .i64 x) ∧ Sv w g base ad n wc m best cnt fv fl i x W :=
  ⟨h.st.cells.1, h.st.cells.2.1, h.cell, h⟩

theorem Sv.three {w : World} {g base : Nat} {ad : Addr} {n wc : Nat} {m best cnt : Int} {fv : Value} {fl : List Int} {i : Nat} {x : Int} {W : World} (h : Sv w g base ad n wc m best cnt fv fl i x W) :
    W.cell? ⟨g, 0, none⟩ = some (.slice (some ad) n wc) ∧ W.cell? ⟨g, 1, none⟩ = some (.int .i64 m) ∧ W.cell? (ad.add i) = some (.int .i64 x) :=
  ⟨h.st.cells.1, h.st.cells.2.1, h.cell⟩

set_option maxHeartbeats 4000000 in
set_option maxRecDepth 100000 in
theorem try_calls (m : Int) (hm : 2 ≤ m ∧ m ≤ 3) (ws : List Int) (hws : ∀ x ∈ ws, 0 ≤ x ∧ x ≤ 100) (hwl : ws.length ≤ 12) (base : Nat) (g : Nat) (hbg : base ≤ g) (WA : Option Addr) (wc : Nat) (best : Int) (d : Nat) :
    ∀ (fl : List Int) (A : Option Addr) (c : Nat) (l : List Int) (share cost : Int) (cnt : Int) (fv : Value) (w : World), l.length + d = ws.length →
    -1000000 ≤ share ∧ share ≤ 1000000000000 → -1000000 ≤ cost ∧ cost ≤ 1000000000000 → 0 ≤ cnt ∧ cnt + 11 ^ d ≤ 4000000000000 → base ≤ w.heap.size →
    St w g (.slice WA ws.length wc) m best fv cnt → Kd.R (Kd.int .i64) 3 w base (fun k => k ≠ g) fv fl →
    (∀ W', KeepBut w W' g none → Kd.C (Kd.int .i64) W' WA ws.length ws) → (∀ W', KeepBut w W' g none → Kd.C (Kd.int .i64) W' A l.length l) → l.length ≤ c →
    Calls Try.prog 20 #[.pointer (some ⟨g, 0, none⟩), .slice A l.length c, .int .i64 share, .int .i64 cost] w (TryPost (tryAll m (ws.drop l.length) l share cost) g (.slice WA ws.length wc) m best cnt base fl w) := by
  induction d with
  | zero =>
    intro fl A c l share cost cnt fv w hd hsh hco hcnt hbase hS hR hW hL hc
    by_cases hneg : cost < 0 ∨ share < 0
    · rw [tryAll_neg _ _ _ _ _ hneg]
      exact try_none m ws base fl g A c l share cost WA wc best cnt fv w hneg hS hR
    · rw [List.drop_eq_nil_of_le (by omega)]
      simp only [tryAll, if_neg hneg]
      exact try_full m ws base fl g A c l share cost WA wc best cnt fv w (by omega) (by omega) (by omega) (by have : 11 ^ 0 = 1 := rfl; omega) (by omega) hbase hbg hS hR (hL _ (KeepBut.refl _ _ _)) hc
  | succ d ih =>
    intro fl A c l share cost cnt fv w hd hsh hco hcnt hbase hS hR hW hL hc
    by_cases hneg : cost < 0 ∨ share < 0
    · rw [tryAll_neg _ _ _ _ _ hneg]
      exact try_none m ws base fl g A c l share cost WA wc best cnt fv w hneg hS hR
    have hx : ws.drop l.length = rd ws l.length :: ws.drop (l.length + 1) := by
      rw [List.drop_eq_getElem_cons (by omega)]
      congr 1
      simp [rd, List.getD_eq_getElem?_getD, List.getElem?_eq_getElem (show l.length < ws.length by omega)]
    have hxw : 0 ≤ rd ws l.length ∧ rd ws l.length ≤ 100 := by
      have : rd ws l.length = ws[l.length]'(by omega) := by simp [rd, List.getD_eq_getElem?_getD, List.getElem?_eq_getElem (show l.length < ws.length by omega)]
      rw [this]
      exact hws _ (List.getElem_mem _)
    have hrest : (ws.drop (l.length + 1)).length = d := by simp; omega
    rw [hx]
    simp only [tryAll, if_neg hneg]
    show Calls _ _ _ _ (TryPost (part m (rd ws l.length) (ws.drop (l.length + 1)) l share cost 11) g (.slice WA ws.length wc) m best cnt base fl w)
    have HX := Aside0.mk hx; clear hx
    have HREST := Aside0.mk hrest; clear hrest
    have HD := Aside0.mk hd; clear hd
    have h1' : decide (cost < 0) = false := by simp; omega
    have h2' : decide (share < 0) = false := by simp; omega
    have hlt : l.length < ws.length := by have := HD.out; omega
    have h3' : ((l.length : Int) == (ws.length : Int)) = false := by simp; omega
    obtain ⟨c0, c1, c3, c4, f3, f4⟩ := hS.cells
    have HS := Aside0.mk hS; clear hS
    have HL := Aside0.mk hL; clear hL
    have HW := Aside0.mk hW; clear hW
    have HRR := Aside0.mk hR; clear hR
    have HWS := Aside0.mk hws; clear hws
    have IH := Aside0.mk ih; clear ih
    go_enter Try.func20, Try.ntmps20
    go_wp2_with fail
    go_loopw [8] (fun v8 wr => ∃ i : Nat, i ≤ 11 ∧ v8 = .int .i64 ((i : Int) + 1) ∧ Aside0 (Mid w wr g base (.slice WA ws.length wc) m best cnt fl (part m (rd ws l.length) (ws.drop (l.length + 1)) l share cost i))) (fun v8 _ => 12 - (intOf v8).toNat)
    case atStart => exact ⟨0, by omega, rfl, ⟨⟨⟨fv, by simpa [part] using HS.out, by simpa [part] using HRR.out⟩, KeepBut.refl _ _ _, Below.refl _ _⟩⟩⟩
    case round =>
      obtain ⟨i, hi, rfl, HM⟩ := hrel
      by_cases hlast : i = 11
      · subst hlast
        go_wp2
        go_end0
        obtain ⟨⟨fv', hs, hr⟩, hk, hbl⟩ := HM.out
        exact ⟨rfl, fv', hs, hr, hk, hbl⟩
      · obtain ⟨⟨fv', hs, hr⟩, hk, hbl⟩ := HM.out
        have HBL := Aside0.mk hbl; clear hbl
        obtain ⟨e0, e1, e3, e4, k3, k4⟩ := hs.cells
        obtain ⟨ad, ea, hcell⟩ := Kd.at_int (HW.out wr hk) l.length (by omega) (by omega)
        subst ea
        have hile : (i : Int) + 1 ≤ 11 := by omega
        have HSr := Aside0.mk hs; clear hs
        have HRr := Aside0.mk hr; clear hr
        have HK := Aside0.mk hk; clear hk
        rw [Int.toNat_natCast] at hcell
        have hlw : ad.block < wr.heap.size := by have := World.block_lt_of_cell? wr _ hcell; rwa [add_block] at this
        have hgw : g < wr.heap.size := World.block_lt_of_cell? wr _ e0
        go_wp2
        have HP : Aside0 (Go.Proofs.Ytmbkdapofcgccaa.Pr.spec_krPower.f 12 m (IntKind.i64.wrap (11 - ((i : Int) + 1))) = some (m ^ (10 - i))) := ⟨by
          have := krPower_eq m hm (10 - i) (by omega)
          rw [show IntKind.i64.wrap (11 - ((i : Int) + 1)) = 11 - ((i : Int) + 1) from IntWalk.i64_in _ (by omega)]
          rwa [show ((10 - i : Nat) : Int) = 11 - ((i : Int) + 1) by omega] at this⟩
        have hpb := pow_bd m hm (10 - i) (by omega)
        have hmul : 0 ≤ ((i : Int) + 1) * rd ws l.length ∧ ((i : Int) + 1) * rd ws l.length ≤ 1100 := by
          have := Int.mul_le_mul (show (i : Int) + 1 ≤ 11 by omega) hxw.2 hxw.1 (by omega)
          exact ⟨Int.mul_nonneg (by omega) hxw.1, by omega⟩
        have W1 : Aside0 (IntKind.i64.wrap (share - m ^ (10 - i)) = share - m ^ (10 - i)) := ⟨IntWalk.i64_in _ (by omega)⟩
        have W2 : Aside0 (IntKind.i64.wrap (((i : Int) + 1) * rd ws l.length) = ((i : Int) + 1) * rd ws l.length) := ⟨IntWalk.i64_in _ (by omega)⟩
        have W3 : Aside0 (IntKind.i64.wrap (cost - ((i : Int) + 1) * rd ws l.length) = cost - ((i : Int) + 1) * rd ws l.length) := ⟨IntWalk.i64_in _ (by omega)⟩
        have PB := Aside0.mk hpb; clear hpb
        have MB := Aside0.mk hmul; clear hmul
        have sv : Sv w g base ad ws.length wc m best (cnt + (part m (rd ws l.length) (ws.drop (l.length + 1)) l share cost i).length) fv' (if cnt = 0 then (part m (rd ws l.length) (ws.drop (l.length + 1)) l share cost i).head?.getD fl else fl) l.length (rd ws l.length) wr := ⟨HSr.out, HRr.out, HK.out, hcell⟩
        have HNE : Aside0 (ad.block ≠ g) := ⟨Kd.foot_ne HW.out (by omega) (by decide)⟩
        have IH2 : Aside0 (∀ (A1 : Option Addr) (k1 : Nat) (W : World), Sv w g base ad ws.length wc m best (cnt + (part m (rd ws l.length) (ws.drop (l.length + 1)) l share cost i).length) fv' (if cnt = 0 then (part m (rd ws l.length) (ws.drop (l.length + 1)) l share cost i).head?.getD fl else fl) l.length (rd ws l.length) W →
            (∀ W', KeepBut W W' g none → Kd.C (Kd.int .i64) W' A1 (l.length + 1) (l ++ [(i : Int) + 1])) → l.length + 1 ≤ k1 →
            Calls Try.prog 20 #[.pointer (some ⟨g, 0, none⟩), .slice A1 (l.length + 1) k1, .int .i64 (share - m ^ (10 - i)), .int .i64 (cost - ((i : Int) + 1) * rd ws l.length)] W
              (TryPost (tryAll m (ws.drop (l.length + 1)) (l ++ [(i : Int) + 1]) (share - m ^ (10 - i)) (cost - ((i : Int) + 1) * rd ws l.length)) g (.slice (some ad) ws.length wc) m best (cnt + (part m (rd ws l.length) (ws.drop (l.length + 1)) l share cost i).length) base (if cnt = 0 then (part m (rd ws l.length) (ws.drop (l.length + 1)) l share cost i).head?.getD fl else fl) W)) := by
          refine ⟨?_⟩
          intro A1 k1 W svW hC hk1
          have hbd : 0 ≤ cnt + ((part m (rd ws l.length) (ws.drop (l.length + 1)) l share cost i).length : Int) ∧ cnt + ((part m (rd ws l.length) (ws.drop (l.length + 1)) l share cost i).length : Int) + 11 ^ d ≤ 4000000000000 := by
            have h1 := part_len m (rd ws l.length) (ws.drop (l.length + 1)) l share cost i
            rw [HREST.out] at h1
            have h2 : i * 11 ^ d ≤ 10 * 11 ^ d := Nat.mul_le_mul_right _ (by omega)
            have h3 : 11 ^ (d + 1) = 10 * 11 ^ d + 11 ^ d := by rw [Nat.pow_succ]; omega
            have h4 : ((11 ^ d : Nat) : Int) = (11 : Int) ^ d := by simp
            have h5 : ((11 ^ (d + 1) : Nat) : Int) = (11 : Int) ^ (d + 1) := by simp
            omega
          have := IH.out (if cnt = 0 then (part m (rd ws l.length) (ws.drop (l.length + 1)) l share cost i).head?.getD fl else fl) A1 k1 (l ++ [(i : Int) + 1]) (share - m ^ (10 - i)) (cost - ((i : Int) + 1) * rd ws l.length) _ fv' W (by have := HD.out; simp; omega) (by have := PB.out; omega) (by have := MB.out; omega) hbd (by have := keep_size svW.keep; omega) svW.st svW.own
            (fun W' hk => HW.out W' (svW.keep.trans hk (.inl rfl))) (by simpa using hC) (by simpa using hk1)
          simpa using this
        clear IH
        go_region_held3 (fun w' => w'.cell? ⟨g, 0, none⟩ = some (.slice (some ad) ws.length wc) ∧ w'.cell? ⟨g, 1, none⟩ = some (.int .i64 m) ∧ w'.cell? (ad.add l.length) = some (.int .i64 (rd ws l.length)))
          ((go_split_ands; first | exact (Sv.below sv (by assumption)).three | exact (Sv.below (Sv.drew sv) (by assumption)).three | exact (Sv.below (Sv.drew (Sv.alloc sv _)) (by assumption)).three | exact ⟨hs2.cells.1, hs2.cells.2.1, keep_cell hk2 (by assumption) (by rw [add_block]; exact HNE.out)⟩ | exact (Sv.drew sv).three | exact (Sv.drew (Sv.alloc sv _)).three | exact (Sv.alloc (Sv.below (Sv.drew sv) (by assumption)) _).three | exact (Sv.drewN (Sv.below sv (by assumption)) _).three))
          (first
            | (go_at_call 31; refine (Go.Proofs.Ytmbkdapofcgccaa.Pr.spec_l1Own.calls A c l l _ (HL.out _ ?ha) hc ?hb).mono ?_; (case ha => first | exact (Sv.drew sv).keep | exact (Sv.drew (Sv.alloc sv _)).keep); (case hb => simp [Go.Proofs.Ytmbkdapofcgccaa.Pr.spec_l1Own.f]; omega); rintro e w1 ⟨v0, rfl, hR1, hb1⟩; obtain ⟨A0, k0, rfl⟩ := Kd.R_slice hR1)
            | (go_at_call 21; refine (Go.Proofs.Ytmbkdapofcgccaa.Pr.spec_krPower.calls 12 m (IntKind.i64.wrap (11 - ((i : Int) + 1))) (m ^ (10 - i)) _ HP.out).mono ?_; rintro e w3 ⟨rfl, ⟨nd, rfl⟩⟩)
            | (go_at_call 20; rw [W1.out, W2.out, W3.out]; refine (IH2.out A1 k1 _ ((Sv.below sv hb2).drewN nd) ?hf ?hg).mono ?_; (case hf => exact Kd.C_foot_own (Kd.R_mono (Kd.R_bound (Kd.R_below hR2 (pw_below_drewN (Below.refl _ _) nd))) (fun k hk => Nat.ne_of_gt (Nat.lt_of_lt_of_le hgw hk.2.1))) (fun _ hk => hk)); (case hg => exact hlek); rintro e w5 ⟨rfl, fv2, hs2, hr2, hk2, hbl2⟩)
            | (refine step_rows (Kd.int .i64) (Rr := fun x cs => cs = [.int .i64 x]) (w0 := wr) wr.heap.size rfl (.tmp 48) (.tmp 50) 22 3 (.int .i64 0) 8 rfl Try.underlying22 Go.Proofs.Ytmbkdapofcgccaa.Pr.info3 rfl (by decide) (by decide) _ l [(i : Int) + 1] _ 1 1 (fun _ => True) (fun _ => False) rfl rfl ?h1 ?h2 ?h3 ?h4 ?h5 ?h6 ?h7 ?h8 ?_; (case h1 => first | exact Kd.R_below hR1 ((Below.refl _ _).alloc (Nat.le_refl _) _) | exact Kd.R_lower hR1 (by simp)); (case h2 => first | exact reads_box (blk_new _ _) | exact reads_box (blk_below (blk_drew (blk_new _ _)) hb1)); (case h3 => exact fun _ _ h => h); (case h4 => exact fun _ h => h.elim); (case h5 => exact fun _ _ => trivial); (case h6 => first | exact below_alloc (below_then (below_drew (Below.refl _ wr)) (Nat.le_refl _) hb1) _ | exact below_then (below_drew (below_alloc (Below.refl _ wr) _)) (by simp) hb1); (case h7 => have := hb1.size; simp at this ⊢; omega); (case h8 => omega); intro v1 w2 hR2 hb2 _ _; obtain ⟨A1, k1, rfl, hlek, _⟩ := Kd.R_reads hR2; rw [show (l ++ [(i : Int) + 1]).length = l.length + 1 by simp] at hR2 hlek))
        all_goals
          go_wp2
          go_roundw
          case rel =>
            refine ⟨i + 1, by omega, by go_num, ⟨⟨⟨fv2, ?_, ?_⟩, ?_, (HBL.out.trans (pw_below_drewN (hb2.mono (by have := keep_size HK.out; omega)) nd)).trans hbl2⟩⟩⟩
            · rw [part_succ, List.length_append]
              simpa [Int.add_assoc] using hs2
            · rw [part_succ]
              exact first_step _ hcnt.1 _ _ _ hr2
            · exact (((Sv.below sv hb2).drewN nd).keep).trans hk2 (.inl rfl)
          case measure => simp [intOf]; omega

end Go.Proofs.Ytmbkdapofcgccaa.BeTry
