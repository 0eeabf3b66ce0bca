/- slices.Sort at []int on a row of the call's own, and slices.Sorted(slices.Values(xs)): sorted rows. -/
import Derived.Test.YtmbkdapofcgccaaPr0
import Derived.Test.YtmbkdapofcgccaaShelf
import Derived.Test.YtmbkdapofcgccaaIterI
namespace Go.Proofs.Ytmbkdapofcgccaa.SortI
open Go.RowKit Go.Sort Go.Proofs.YtmbkdapofcgccaaW.PrintWords Go.Proofs.YtmbkdapofcgccaaW.PrintLast Go.Proofs.YtmbkdapofcgccaaW.PrintMore
set_option linter.unusedVariables false
set_option linter.unusedSimpArgs false

/-- The sorted list. -/
def srt (xs : List Int) : List Int := xs.mergeSort fun x y => decide (x ≤ y)
theorem srt_length (xs : List Int) : (srt xs).length = xs.length := by simp [srt]

theorem heap_sorted {w : World} {g o n : Nat} {os : Array Obj} {cur : Array Value} {e : TypeId} {fr : Nat × Nat} (d : Array Int) (hb : w.heap[g]? = some (.cells cur e fr)) :
    (grow (putRow (Value.int .i64) (Sort.ahead w n) g o d) os).heap[g]? = some (.cells (putCells (Value.int .i64) o d cur) e fr) := by
  have hg : g < w.heap.size := (Array.getElem?_eq_some_iff.1 hb).1
  rw [heap_grow_old _ _ (by simpa using hg)]
  simp [putRow, mapBlock, Sort.ahead, Array.getElem?_modify, hb, onCells]
theorem grown_sorted {w : World} {g o n : Nat} {os : Array Obj} (d : Array Int) : w.grownBy (grow (putRow (Value.int .i64) (Sort.ahead w n) g o d) os) (some g) := by
  refine ⟨rfl, rfl, rfl, by simp, fun k hk hne => ?_⟩
  rw [heap_grow_old _ _ (by simpa using hk)]
  have : g ≠ k := fun e => hne (by rw [e])
  simp [putRow, mapBlock, Sort.ahead, Array.getElem?_modify, this]
theorem take_put (cur : Array Value) (o : Nat) (ts : List Int) (h : o + ts.length ≤ cur.size) : ((putCells (Value.int .i64) o ts.toArray cur).toList.drop o).take ts.length = ts.map (Value.int .i64) := by
  apply List.ext_getElem?
  intro j
  by_cases hj : j < ts.length
  · rw [List.getElem?_take_of_lt hj, List.getElem?_drop, Array.getElem?_toList]
    have h1 : o + j < cur.size := by omega
    simp [putCells, hj, h1]
  · rw [List.getElem?_take_eq_none (by omega), List.getElem?_eq_none (by simp; omega)]

/-- slices.Sort on a row of the call's own (perhaps cut at its front). -/
theorem sort_Q {W : World} {base g o n cap : Nat} {ok : Nat → Prop} {xs : List Int} (hQ : Kd.Q (Kd.int .i64) 3 W base ok (.slice (some ⟨g, o, none⟩) n cap) xs) (hn : xs.length = n) (hp : 0 < n) (hlen : n < 4611686018427387904) :
    Calls Try.prog 40 #[.slice (some ⟨g, o, none⟩) n cap] W fun e w' => e = .returned (.tuple #[]) ∧ Kd.Q (Kd.int .i64) 3 w' base ok (.slice (some ⟨g, o, none⟩) n cap) (srt xs) ∧ W.grownBy w' (some g) := by
  subst hn
  obtain ⟨hok, inner, ⟨hl, hr⟩, hreps⟩ := hQ
  have hinner : inner = xs.map (Value.int .i64) := Kd.reps_encs hreps
  subst hinner
  rcases hr with ⟨h0, _⟩ | ⟨g', off, cap', cur, hv, hb, hh, h1, h2, h3, h4⟩
  · omega
  injection hv with ha hn hc
  injection ha with ha
  injection ha with hg ho _
  subst hg hc
  have hsz : (Kd.int .i64).sz = 1 := rfl
  rw [hsz] at ho h3 h4
  rw [Nat.mul_one] at ho
  subst ho
  rw [Nat.mul_one] at h3 h4
  rw [Nat.mul_one] at h4
  have hH : Holds (Value.int .i64) W g o xs.toArray := by
    intro j hj
    have hj' : j < xs.length := by simpa using hj
    refine ⟨?_, by simp [World.frozen?, hh]⟩
    have e1 : ((cur.toList.drop o).take xs.length)[j]? = (xs.map (Value.int .i64))[j]? := by rw [h4]
    rw [List.getElem?_take_of_lt hj', List.getElem?_drop] at e1
    simp only [World.cell?, hh]
    simp only [Option.isSome_none, Bool.false_eq_true, if_false]
    rw [← Array.getElem?_toList, e1]
    simp [hj']
  refine (Try.slices_Sort_int g o cap xs W hH (Array.getElem?_eq_some_iff.1 hh).1 hlen).mono ?_
  rintro e w' ⟨rfl, nn, os, rfl⟩
  refine ⟨rfl, ⟨hok, (srt xs).map (Value.int .i64), ⟨by simp [srt, hsz], .inr ⟨g, o, cap, _, by rw [hsz, Nat.mul_one, srt_length], hb, heap_sorted _ hh, by rw [srt_length]; exact h1, h2, ?_, ?_⟩⟩, ?_⟩, grown_sorted _⟩
  · rw [hsz, Nat.mul_one]
    simpa [putCells] using h3
  · rw [hsz, Nat.mul_one, Nat.mul_one]
    exact take_put cur o (srt xs) (by rw [srt_length]; omega)
  · exact Kd.reps_scalar _

theorem R_of_ints {W : World} {base : Nat} {v : Value} {zs : List Int} {ok : Nat → Prop} (h : W.ownsRow base 3 1 v zs.length (zs.map (Value.int .i64))) (hok : ∀ k, v.ownBlock = some k → ok k) : Kd.R (Kd.int .i64) 3 W base ok v zs :=
  ⟨hok, zs.map (Value.int .i64), h, Kd.reps_scalar zs⟩

set_option maxHeartbeats 2000000 in
/-- slices.Sorted(slices.Values(zs)) for zs not empty: a new sorted row. -/
theorem sorted_calls (Bs : Nat) (sv : Value) (zs : List Int) (hz : zs ≠ []) (hbytes : zs.length * 8 ≤ 140737488355328) (w : World) (hBs : Bs < w.heap.size) (hc0 : w.cell? ⟨Bs, 0, none⟩ = some sv) (hI : IterI.Ints w.heap.size w sv zs) :
    Calls Try.prog 38 #[.func (.func 42) #[] #[.pointer (some ⟨Bs, 0, none⟩)]] w fun e w' => ∃ g c, e = .returned (.slice (some ⟨g, 0, none⟩) zs.length c) ∧ Kd.Q (Kd.int .i64) 3 w' w.heap.size (fun _ => True) (.slice (some ⟨g, 0, none⟩) zs.length c) (srt zs) ∧ Below w.heap.size w w' := by
  have HI := Aside0.mk hI; clear hI
  have HZ := Aside0.mk hz; clear hz
  have hpos : 0 < zs.length := by have := HZ.out; cases zs with | nil => exact absurd rfl this | cons a l => simp
  go_enter Try.func38, Try.ntmps38
  go_wp2_with (first
    | (go_at_call 41; refine (IterI.collect Bs sv zs hbytes w hBs hc0 HI.out).mono ?_; rintro e w1 ⟨v, rfl, hrow, hnil, hb⟩; obtain ⟨g, c, rfl, hgb, hgl⟩ := hrow.form hpos; have HQ := Aside0.mk (Kd.Q_of_R (R_of_ints (ok := fun _ => True) hrow (fun _ _ => trivial))); have HB := Aside0.mk hb; clear hrow hnil hb)
    | (go_at_call 40; refine (sort_Q HQ.out rfl hpos (by omega)).mono ?_; rintro e w2 ⟨rfl, hq2, hg2⟩; have HQ2 := Aside0.mk hq2; have HG2 := Aside0.mk hg2; clear hq2 hg2))
  go_ret
  exact ⟨g, c, rfl, HQ2.out, HB.out.grown HG2.out HB.out.size (fun k hk => by cases hk; exact hgb)⟩

end Go.Proofs.Ytmbkdapofcgccaa.SortI
