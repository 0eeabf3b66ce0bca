/- AreLetterAlike in plain terms: both sides tell whether the counts are the same. -/
import Derived.Test.YtmdaggnfgghnfaaDoorSrt
import Derived.Test.YtmdaggnfgghnfaaDoorLets
import Derived.Test.YtmdaggnfgghnfaaDoorPeM0
import Derived.Test.YtmdaggnfgghnfaaDoorPlM0
namespace Go.Proofs.YtmdaggnfgghnfaaDoor.Ala
open Go.RowKit Go.Proofs.YtmdaggnfgghnfaaDoorW.PrintWords Go.Proofs.YtmdaggnfgghnfaaDoorW.PrintLast Go.Proofs.YtmdaggnfgghnfaaDoorW.PrintMore Go.Proofs.YtmdaggnfgghnfaaDoor.Wd Go.Proofs.YtmdaggnfgghnfaaDoor.Wset Go.Proofs.YtmdaggnfgghnfaaDoor.Lets Go.Proofs.YtmdaggnfgghnfaaDoor.SrtL
set_option linter.unusedVariables false
set_option linter.unusedSimpArgs false
theorem dec_eq {α : Type} [DecidableEq α] {a b : α} (h : a = b) (l r : List α) : decide (l = r) = decide (a :: l = b :: r) := by
  subst h
  by_cases c : l = r
  · rw [decide_eq_true c, decide_eq_true (by rw [c])]
  · rw [decide_eq_false c, decide_eq_false (fun e => c (List.cons.inj e).2)]
theorem dec_ne {α : Type} [DecidableEq α] {a b : α} (h : ¬ a = b) (l r : List α) : false = decide (a :: l = b :: r) := (decide_eq_false (fun e => h (List.cons.inj e).1)).symm
theorem same_loop (x y : List Int) (hl : x.length = y.length) (hb : x.length ≤ 1000000) : ∀ (j i k : Nat), i + j = x.length → j < k → Go.Proofs.YtmdaggnfgghnfaaDoor.Pe.spec_l1Same.l0 k x y (x.length : Int) (i : Int) = some (decide (x.drop i = y.drop i)) := by
  intro j
  induction j with
  | zero =>
    intro i k hi hk
    obtain ⟨k, rfl⟩ : ∃ q, k = q + 1 := ⟨k - 1, by omega⟩
    simp only [Go.Proofs.YtmdaggnfgghnfaaDoor.Pe.spec_l1Same.l0]
    rw [if_neg (by omega), List.drop_of_length_le (by omega), List.drop_of_length_le (by omega)]
    rfl
  | succ j ih =>
    intro i k hi hk
    obtain ⟨k, rfl⟩ : ∃ q, k = q + 1 := ⟨k - 1, by omega⟩
    have h1 : i < x.length := by omega
    have h2 : i < y.length := by omega
    simp only [Go.Proofs.YtmdaggnfgghnfaaDoor.Pe.spec_l1Same.l0]
    rw [if_pos (by omega), if_pos (by omega), if_pos (by omega), if_pos (by omega), rd_lt x i h1, rd_lt y i h2, List.drop_eq_getElem_cons h1, List.drop_eq_getElem_cons h2, wrap_succ i (by omega)]
    by_cases c : x[i] = y[i]
    · rw [if_pos c, ih (i + 1) k (by omega) (by omega)]
      exact congrArg some (dec_eq c _ _)
    · rw [if_neg c]
      exact congrArg some (dec_ne c _ _)
theorem same_ev (x y : List Int) (hb : x.length ≤ 1000000) : Ev (fun k => Go.Proofs.YtmdaggnfgghnfaaDoor.Pe.spec_l1Same.f k x y) (decide (x = y)) := by
  unfold Go.Proofs.YtmdaggnfgghnfaaDoor.Pe.spec_l1Same.f
  by_cases h : x.length = y.length
  · simp only [if_pos (show (x.length : Int) = (y.length : Int) by omega)]
    exact ev_ge x.length fun k hk => same_loop x y h hb x.length 0 k (by omega) hk
  · simp only [if_neg (show ¬ (x.length : Int) = (y.length : Int) by omega)]
    rw [decide_eq_false (fun e => h (by rw [e]))]
    exact ev_some _
theorem eq_loop (x y : List Int) (hl : x.length = y.length) (hb : x.length ≤ 1000000) : ∀ (j i k : Nat), i + j = x.length → j < k → Go.Proofs.YtmdaggnfgghnfaaDoor.Pe.slices_Equal_int_int.l0 k x y (x.length : Int) (i : Int) = some (decide (x.drop i = y.drop i)) := by
  intro j
  induction j with
  | zero =>
    intro i k hi hk
    obtain ⟨k, rfl⟩ : ∃ q, k = q + 1 := ⟨k - 1, by omega⟩
    simp only [Go.Proofs.YtmdaggnfgghnfaaDoor.Pe.slices_Equal_int_int.l0]
    rw [if_neg (by omega), List.drop_of_length_le (by omega), List.drop_of_length_le (by omega)]
    rfl
  | succ j ih =>
    intro i k hi hk
    obtain ⟨k, rfl⟩ : ∃ q, k = q + 1 := ⟨k - 1, by omega⟩
    have h1 : i < x.length := by omega
    have h2 : i < y.length := by omega
    simp only [Go.Proofs.YtmdaggnfgghnfaaDoor.Pe.slices_Equal_int_int.l0]
    rw [if_pos (by omega), if_pos (by omega), if_pos (by omega), if_pos (by omega), rd_lt x i h1, rd_lt y i h2, List.drop_eq_getElem_cons h1, List.drop_eq_getElem_cons h2, wrap_succ i (by omega)]
    by_cases c : x[i] = y[i]
    · rw [if_pos c, ih (i + 1) k (by omega) (by omega)]
      exact congrArg some (dec_eq c _ _)
    · rw [if_neg c]
      exact congrArg some (dec_ne c _ _)
theorem eq_ev (x y : List Int) (hb : x.length ≤ 1000000) : Ev (fun k => Go.Proofs.YtmdaggnfgghnfaaDoor.Pe.slices_Equal_int_int.f k x y) (decide (x = y)) := by
  unfold Go.Proofs.YtmdaggnfgghnfaaDoor.Pe.slices_Equal_int_int.f
  by_cases h : x.length = y.length
  · simp only [if_pos (show (x.length : Int) = (y.length : Int) by omega)]
    exact ev_ge x.length fun k hk => eq_loop x y h hb x.length 0 k (by omega) hk
  · simp only [if_neg (show ¬ (x.length : Int) = (y.length : Int) by omega)]
    rw [decide_eq_false (fun e => h (by rw [e]))]
    exact ev_some _
abbrev EqF := Go.Proofs.YtmdaggnfgghnfaaDoor.Pl.slices_EqualFunc_int_int_int_int_at_slices_Equal_int_int.f
theorem all_loop (x y : List (List Int)) (hl : x.length = y.length) (hb : x.length ≤ 1000000) (hx : ∀ l ∈ x, l.length ≤ 1000000) : ∀ (j i : Nat), i + j = x.length → Ev (fun k => Go.Proofs.YtmdaggnfgghnfaaDoor.Pl.slices_EqualFunc_int_int_int_int_at_slices_Equal_int_int.l0 k y x (x.length : Int) (i : Int)) (decide (x.drop i = y.drop i)) := by
  intro j
  induction j with
  | zero =>
    intro i hi
    refine ev_ge 0 fun k hk => ?_
    obtain ⟨k, rfl⟩ : ∃ q, k = q + 1 := ⟨k - 1, by omega⟩
    simp only [Go.Proofs.YtmdaggnfgghnfaaDoor.Pl.slices_EqualFunc_int_int_int_int_at_slices_Equal_int_int.l0]
    rw [if_neg (by omega), List.drop_of_length_le (by omega), List.drop_of_length_le (by omega)]
    rfl
  | succ j ih =>
    intro i hi
    have h1 : i < x.length := by omega
    have h2 : i < y.length := by omega
    obtain ⟨K1, hK1⟩ := ih (i + 1) (by omega)
    obtain ⟨K2, hK2⟩ := eq_ev x[i] y[i] (hx _ (List.getElem_mem h1))
    have e1 : Go.Proofs.YtmdaggnfgghnfaaDoor.Pl.rd_L2 x (i : Int) = x[i] := by simp [Go.Proofs.YtmdaggnfgghnfaaDoor.Pl.rd_L2, List.getD_eq_getElem?_getD, List.getElem?_eq_getElem h1]
    have e2 : Go.Proofs.YtmdaggnfgghnfaaDoor.Pl.rd_L2 y (i : Int) = y[i] := by simp [Go.Proofs.YtmdaggnfgghnfaaDoor.Pl.rd_L2, List.getD_eq_getElem?_getD, List.getElem?_eq_getElem h2]
    refine ev_ge (max K1 K2) fun k hk => ?_
    obtain ⟨k, rfl⟩ : ∃ q, k = q + 1 := ⟨k - 1, by omega⟩
    have hK1 := hK1 k (by omega)
    have hK2 := hK2 k (by omega)
    simp only [] at hK1 hK2
    simp only [Go.Proofs.YtmdaggnfgghnfaaDoor.Pl.slices_EqualFunc_int_int_int_int_at_slices_Equal_int_int.l0]
    rw [if_pos (by omega), if_pos (by omega), if_pos (by omega), if_pos (by omega), e1, e2, hK2, Option.bind_some, List.drop_eq_getElem_cons h1, List.drop_eq_getElem_cons h2, wrap_succ i (by omega)]
    by_cases c : x[i] = y[i]
    · rw [if_pos (decide_eq_true c), hK1]
      exact congrArg some (dec_eq c _ _)
    · rw [decide_eq_false c, if_neg Bool.false_ne_true]
      exact congrArg some (dec_ne c _ _)
theorem eqf_ev (x y : List (List Int)) (hb : x.length ≤ 1000000) (hx : ∀ l ∈ x, l.length ≤ 1000000) : Ev (fun k => EqF k x y) (decide (x = y)) := by
  unfold EqF Go.Proofs.YtmdaggnfgghnfaaDoor.Pl.slices_EqualFunc_int_int_int_int_at_slices_Equal_int_int.f
  by_cases h : x.length = y.length
  · simp only [if_pos (show (x.length : Int) = (y.length : Int) by omega)]
    have := all_loop x y h hb hx x.length 0 (by omega)
    exact this
  · simp only [if_neg (show ¬ (x.length : Int) = (y.length : Int) by omega)]
    rw [decide_eq_false (fun e => h (by rw [e]))]
    exact ev_some _
def cnts (l : List ByteArray) : List (List Int) := l.map lets
theorem counts_ev {l : List ByteArray} (hf : Fit l) (hs : Set l) : Ev (fun k => Go.Proofs.YtmdaggnfgghnfaaDoor.Pe.impl_LetterCounts.f k l) (cnts l, true) := by
  unfold Go.Proofs.YtmdaggnfgghnfaaDoor.Pe.impl_LetterCounts.f
  refine Ev.bind (isSet_ev l hf) ?_
  simp only [hs, decide_true, if_true]
  have hl := hs.1
  have key : ∀ (j i : Nat), i + j = l.length → Ev (fun k => Go.Proofs.YtmdaggnfgghnfaaDoor.Pe.impl_LetterCounts.l0 k ((l.take i).map lets) l (l.length : Int) (i : Int)) (cnts l, true) := by
    intro j
    induction j with
    | zero =>
      intro i hi
      refine ev_ge 0 fun k hk => ?_
      obtain ⟨k, rfl⟩ : ∃ q, k = q + 1 := ⟨k - 1, by omega⟩
      simp only [Go.Proofs.YtmdaggnfgghnfaaDoor.Pe.impl_LetterCounts.l0]
      rw [if_neg (by omega), List.take_of_length_le (by omega)]
      rfl
    | succ j ih =>
      intro i hi
      have h1 : i < l.length := by omega
      obtain ⟨K1, hK1⟩ := ih (i + 1) (by omega)
      obtain ⟨K2, hK2⟩ := lettersOf_ev l[i]
      refine ev_ge (max K1 K2) fun k hk => ?_
      obtain ⟨k, rfl⟩ : ∃ q, k = q + 1 := ⟨k - 1, by omega⟩
      have hK1 := hK1 k (by omega)
      have hK2 := hK2 k (by omega)
      simp only [] at hK1 hK2
      rw [List.take_succ_eq_append_getElem h1, List.map_append] at hK1
      simp only [Go.Proofs.YtmdaggnfgghnfaaDoor.Pe.impl_LetterCounts.l0]
      rw [if_pos (by omega), if_pos (by omega), if_pos (by omega), rdOf_lt l i h1, hK2, Option.bind_some, if_pos (by rw [List.length_map, List.length_take]; omega), wrap_succ i (by omega)]
      exact hK1
  have := key l.length 0 (by omega)
  exact this
theorem sorted_ev {l : List ByteArray} (hf : Fit l) (hs : Set l) : Ev (fun k => Srt.impl_sortedCounts.f k l) (srtL (cnts l)) := by
  unfold Srt.impl_sortedCounts.f
  refine Ev.bind (counts_ev hf hs) ?_
  have hl := hs.1
  simp only [if_pos (show (cnts l).length < 4611686018427387904 by unfold cnts; rw [List.length_map]; omega)]
  exact ev_some _
open Classical in
noncomputable def tells (a b : List ByteArray) : Bool × Bool := if Set a then if Set b then (decide ((cnts a).Perm (cnts b)), true) else (false, false) else (false, false)
theorem impl_ev {a b : List ByteArray} (ha : Fit a) (hb : Fit b) : Ev (fun k => Go.Proofs.YtmdaggnfgghnfaaDoor.Pl.impl_AreLetterAlike.f k a b) (tells a b) := by
  unfold Go.Proofs.YtmdaggnfgghnfaaDoor.Pl.impl_AreLetterAlike.f tells
  refine Ev.bind (isSet_ev a ha) ?_
  by_cases sa : Set a
  · simp only [sa, decide_true, if_true]
    refine Ev.bind (isSet_ev b hb) ?_
    by_cases sb : Set b
    · simp only [sb, decide_true, if_true, Bool.not_true]
      refine Ev.step (f := fun k => (Srt.impl_sortedCounts.f k a).bind fun t114 => (Srt.impl_sortedCounts.f k b).bind fun t117 => (EqF k t114 t117).bind fun t120 => some (t120, true)) (fun k => ?_) ?_
      · simp only [Go.Proofs.YtmdaggnfgghnfaaDoor.Pl.impl_AreLetterAlike.j0]
        rw [if_neg Bool.false_ne_true]
      · refine Ev.bind (sorted_ev ha sa) ?_
        refine Ev.bind (sorted_ev hb sb) ?_
        have hla := sa.1
        have hlen : (srtL (cnts a)).length ≤ 1000000 := by rw [(srtL_perm _).length_eq]; unfold cnts; rw [List.length_map]; omega
        refine Ev.bind (eqf_ev _ _ hlen (fun l hl => ?_)) ?_
        · have := (srtL_perm (cnts a)).mem_iff.1 hl
          unfold cnts at this
          obtain ⟨s, _, rfl⟩ := List.mem_map.1 this
          show 3 ≤ 1000000
          omega
        · have e : decide (srtL (cnts a) = srtL (cnts b)) = decide ((cnts a).Perm (cnts b)) := by
            by_cases h : (cnts a).Perm (cnts b)
            · rw [decide_eq_true h, decide_eq_true ((srtL_iff _ _).2 h)]
            · rw [decide_eq_false h, decide_eq_false (fun hh => h ((srtL_iff _ _).1 hh))]
          rw [e]
          exact ev_some _
    · simp only [sb, decide_false, if_false, Bool.not_false]
      refine Ev.step (f := fun k => some (false, false)) (fun k => ?_) (ev_some _)
      simp only [Go.Proofs.YtmdaggnfgghnfaaDoor.Pl.impl_AreLetterAlike.j0]
      rw [if_pos trivial]
  · simp only [sa, decide_false, if_false, Bool.false_eq_true]
    refine Ev.step (f := fun k => some (false, false)) (fun k => ?_) (ev_some _)
    simp only [Go.Proofs.YtmdaggnfgghnfaaDoor.Pl.impl_AreLetterAlike.j0]
    rw [if_pos trivial]
end Go.Proofs.YtmdaggnfgghnfaaDoor.Ala
