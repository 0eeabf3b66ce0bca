/- impl.allBest's closure: an append to a slice that may lie in its caller's row, and slices.Clone at []int. -/
import Derived.Test.YtmbkdapofcgccaaPr3
import Derived.Test.YtmbkdapofcgccaaPr11
import Derived.Deep.RegionHeld3
import Derived.Deep.RegionLawGrows
import Derived.StillTailTactics
namespace Go.Proofs.Ytmbkdapofcgccaa.AddPush
open Go.RowKit Go.Proofs.YtmbkdapofcgccaaW.PrintWords Go.Proofs.YtmbkdapofcgccaaW.PrintLast Go.Proofs.YtmbkdapofcgccaaW.PrintMore
set_option linter.unusedVariables false
set_option linter.unusedSimpArgs false

/-- A row of ints at the front of block g. -/
def Own (W : World) (base g cap : Nat) (l : List Int) : Prop := W.ownsRow base 3 1 (.slice (some ⟨g, 0, none⟩) l.length cap) l.length (l.map (Value.int .i64))

theorem Own.parts {W : World} {base g cap : Nat} {l : List Int} (h : Own W base g cap l) : ∃ cur, base ≤ g ∧ W.heap[g]? = some (.cells cur 3 (0, 0)) ∧ l.length ≤ cap ∧ cap ≤ maxLen ∧ cur.size = cap ∧ cur.toList.take l.length = l.map (Value.int .i64) := by
  rcases h.2 with ⟨h1, _⟩ | ⟨g', cap', cur, hv, h1, h2, h3, h4, h5, h6⟩
  · cases h1
  · injection hv with ha hn hc
    injection ha with ha
    injection ha with hg _ _
    subst hg hc
    rw [Nat.mul_one] at h5 h6
    exact ⟨cur, h1, h2, h3, h4, h5, h6⟩
theorem Own.mk' {W : World} {base g cap : Nat} {l : List Int} {cur : Array Value} (h1 : base ≤ g) (h2 : W.heap[g]? = some (.cells cur 3 (0, 0))) (h3 : l.length ≤ cap) (h4 : cap ≤ maxLen) (h5 : cur.size = cap) (h6 : cur.toList.take l.length = l.map (Value.int .i64)) : Own W base g cap l :=
  ⟨by simp, .inr ⟨g, cap, cur, rfl, h1, h2, h3, h4, by rw [Nat.mul_one]; exact h5, by rw [Nat.mul_one]; exact h6⟩⟩
theorem Own.lt {W : World} {base g cap : Nat} {l : List Int} (h : Own W base g cap l) : g < W.heap.size := by
  obtain ⟨cur, _, h2, _⟩ := h.parts
  exact (Array.getElem?_eq_some_iff.1 h2).1
theorem Own.front {W : World} {base g cap : Nat} {l ys : List Int} (h : Own W base g cap (l ++ ys)) : Own W base g cap l := by
  obtain ⟨cur, h1, h2, h3, h4, h5, h6⟩ := h.parts
  rw [List.length_append] at h3
  refine Own.mk' h1 h2 (by omega) h4 h5 ?_
  have : cur.toList.take l.length = (cur.toList.take (l ++ ys).length).take l.length := by rw [List.take_take]; congr 1; simp
  rw [this, h6]
  simp
theorem Own.move {W W' : World} {base g cap : Nat} {l : List Int} (h : Own W base g cap l) (hm : W'.heap[g]? = W.heap[g]?) : Own W' base g cap l := by
  obtain ⟨cur, h1, h2, h3, h4, h5, h6⟩ := h.parts
  exact Own.mk' h1 (hm.trans h2) h3 h4 h5 h6
theorem Own.below {W W' : World} {base g cap : Nat} {l : List Int} (h : Own W base g cap l) (hb : Below W.heap.size W W') : Own W' base g cap l := h.move (hb.block g h.lt)
theorem Own.R {W : World} {base g cap : Nat} {l : List Int} (h : Own W base g cap l) : Kd.R (Kd.int .i64) 3 W base (fun _ => True) (.slice (some ⟨g, 0, none⟩) l.length cap) l :=
  ⟨fun _ _ => trivial, l.map (Value.int .i64), h, Kd.reps_scalar l⟩
theorem Own.C {W : World} {base g cap : Nat} {l : List Int} (h : Own W base g cap l) : l.length ≤ cap ∧ Kd.C (Kd.int .i64) W (some ⟨g, 0, none⟩) l.length l := (Kd.R_reads' h.R).2

/-- Behind an append to the row in block g: it lies in block g', there or anew. -/
structure Aft (W W' : World) (g cap g' cap' : Nat) : Prop where
  at_ : (g' = g ∧ cap' = cap) ∨ (W.heap.size ≤ g' ∧ W'.heap[g]? = W.heap[g]?)
  kept : ∀ k, k < W.heap.size → k ≠ g → W'.heap[k]? = W.heap[k]?
  size : W.heap.size ≤ W'.heap.size
  os : W'.os = W.os
  tape : W'.tape = W.tape
  output : W'.output = W.output

theorem step_push {ops : Array Oper} {o : Oper} {a : Act} {Q : Exit → Act → World → Prop} {Kc : Act → World → Prop} {E : Prop} {W : World} (base : Nat) (hgd : o.guard = none) (s x : Operand)
    (ho : o.op = .call { callee := .builtin .append, args := #[s, x], argTypes := #[22, 22] }) (g cap : Nat) (l : List Int) (y : Int) (b : Nat)
    (hs : a.eval s = .slice (some ⟨g, 0, none⟩) l.length cap) (hx : a.eval x = .slice (some ⟨b, 0, none⟩) 1 1) (hO : Own W base g cap l) (hb : W.cell? ⟨b, 0, none⟩ = some (.int .i64 y)) (hl : l.length < 1000) (hbase : base ≤ W.heap.size)
    (h : ∀ g' cap' W', Own W' base g' cap' (l ++ [y]) → Aft W W' g cap g' cap' → Kc (a.put o.dst (.slice (some ⟨g', 0, none⟩) (l.length + 1) cap')) W') :
    if Region.wanted o (yielded ops a.tmps) = true then Oper.wp Try.prog o a W Kc Q else E := by
  obtain ⟨i0, hi, hzz⟩ := Option.map_eq_some_iff.1 Go.Proofs.Ytmbkdapofcgccaa.Pr.info3
  simp only [Prod.mk.injEq] at hzz
  obtain ⟨hz0, hz1, hz2⟩ := hzz
  obtain ⟨cur, h1, h2, h3, h4, h5, h6⟩ := hO.parts
  have hnews : ∀ j u, ([Value.int .i64 y] : List Value)[j]? = some u → W.cell? ((⟨b, 0, none⟩ : Addr).add j) = some u := by
    intro j u hj
    cases j with
    | zero =>
      simp at hj
      subst hj
      simpa [Addr.add] using hb
    | succ j => simp at hj
  by_cases hroom : l.length + 1 ≤ cap
  · refine step_append_room hgd s x 22 ho 3 i0 1 Try.underlying22 hi hz1 g 0 l.length cap hs ⟨b, 0, none⟩ 1 1 [.int .i64 y] hx rfl hnews (by simp [Value.oneCell']) hroom (fun j hj => ?_) ?_
    · obtain rfl : j = 0 := by simpa using hj
      have : l.length < cur.size := by omega
      simp [World.cell?, World.frozen?, h2, this]
    · have e : W.setCells g (0 + l.length * 1) [.int .i64 y] = W.setCell ⟨g, l.length, none⟩ (.int .i64 y) := by simp [World.setCells]
      rw [e]
      have hlt := hO.lt
      have hh : (W.setCell ⟨g, l.length, none⟩ (.int .i64 y)).heap[g]? = some (.cells (cur.setIfInBounds l.length (.int .i64 y)) 3 (0, 0)) := blk_put h2 l.length (.int .i64 y) rfl
      refine h g cap _ (Own.mk' (cur := cur.setIfInBounds l.length (.int .i64 y)) h1 hh (by simpa using hroom) h4 (by simpa using h5) ?_) ⟨.inl ⟨rfl, rfl⟩, fun k hk hne => Below.heap_setCell W _ _ k hne, by simp [World.setCell], rfl, rfl, rfl⟩
      apply List.ext_getElem?
      intro j
      by_cases hj : j < l.length
      · have e6 : (cur.toList.take l.length)[j]? = (l.map (Value.int .i64))[j]? := by rw [h6]
        rw [List.getElem?_take_of_lt hj] at e6
        have hne : ¬ l.length = j := by omega
        rw [List.getElem?_take_of_lt (by simp; omega)]
        simp only [Array.toList_setIfInBounds, List.getElem?_set, if_neg hne]
        rw [e6]
        rw [List.map_append, List.getElem?_append_left (by simpa using hj)]
      · by_cases hj2 : j = l.length
        · subst hj2
          have : l.length < cur.size := by omega
          rw [List.getElem?_take_of_lt (by simp)]
          simp [this]
        · rw [List.getElem?_eq_none (by simp; omega), List.getElem?_eq_none (by simp; omega)]
  · have hall : ∀ j u, (l.map (Value.int .i64))[j]? = some u → W.cell? ((⟨g, 0, none⟩ : Addr).add j) = some u := by
      intro j u hj
      have hjl : j < l.length := by have := (List.getElem?_eq_some_iff.1 hj).1; simpa using this
      have e6 : (cur.toList.take l.length)[j]? = (l.map (Value.int .i64))[j]? := by rw [h6]
      rw [List.getElem?_take_of_lt hjl, hj, Array.getElem?_toList] at e6
      have : (⟨g, 0, none⟩ : Addr).add j = ⟨g, j, none⟩ := by
        unfold Addr.add
        split
        · subst_vars; rfl
        · simp
      rw [this]
      simp [World.cell?, h2, e6]
    refine step_append_grows hgd s x 22 ho 3 i0 (.int .i64 0) 1 8 Try.underlying22 hi hz0 hz1 hz2 rfl (by decide) (some ⟨g, 0, none⟩) l.length cap (l.map (Value.int .i64)) hs (by simp) (by simp) (fun b' hb' => by injection hb' with hb'; subst hb'; exact hall) ⟨b, 0, none⟩ 1 1 [.int .i64 y] hx rfl hnews (by simp [Value.oneCell']) (by omega) (by simp [maxLen]; omega) (by omega) ?_
    intro v' w' hown hgr
    obtain ⟨g', cap', rfl, hg1, hg2⟩ := hown.form (by omega)
    refine h g' cap' w' ?_ ⟨.inr ⟨hg1, hgr.block g hO.lt (by simp)⟩, fun k hk _ => hgr.block k hk (by simp), hgr.size, hgr.os, hgr.tape, hgr.output⟩
    have := own_weaken hown hbase
    simpa [Own] using this

end Go.Proofs.Ytmbkdapofcgccaa.AddPush
