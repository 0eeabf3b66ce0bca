/- Lists of numbers in their order. -/
import Derived.Test.YtmdaggnfgghnfaaDoorCmpWords
namespace Go.Proofs.YtmdaggnfgghnfaaDoor.SrtL
open Go Go.RowKit Go.Sort
set_option linter.unusedVariables false
set_option linter.unusedSimpArgs false
def cmpL : List Int → List Int → Int
  | [], [] => 0
  | [], _ :: _ => -1
  | _ :: _, [] => 1
  | a :: l, b :: r => if a < b then -1 else if b < a then 1 else cmpL l r
def ltL (a b : List Int) : Bool := decide (cmpL a b < 0)
theorem ltL_irr : ∀ a : List Int, ltL a a = false
  | [] => rfl
  | a :: l => by
    have ih := ltL_irr l
    unfold ltL at *
    unfold cmpL
    rw [if_neg (by omega), if_neg (by omega)]
    exact ih
theorem ltL_cons (a b : Int) (l r : List Int) : ltL (a :: l) (b :: r) = (decide (a < b) || (decide (a = b) && ltL l r)) := by
  unfold ltL
  rw [cmpL]
  by_cases h : a < b
  · simp [h]
  · by_cases h2 : b < a
    · have : ¬ a = b := by omega
      simp [h, h2, this]
    · have : a = b := by omega
      simp [h, h2, this]
theorem ltL_trans : ∀ a b c : List Int, ltL a b = true → ltL b c = true → ltL a c = true
  | [], [], c, h, _ => by simp [ltL, cmpL] at h
  | [], b :: r, [], _, h => by simp [ltL, cmpL] at h
  | [], b :: r, c :: s, _, _ => by simp [ltL, cmpL]
  | a :: l, [], c, h, _ => by simp [ltL, cmpL] at h
  | a :: l, b :: r, [], _, h => by simp [ltL, cmpL] at h
  | a :: l, b :: r, c :: s, h1, h2 => by
    rw [ltL_cons] at *
    simp only [Bool.or_eq_true, Bool.and_eq_true, decide_eq_true_eq] at *
    rcases h1 with h1 | ⟨h1, h3⟩
    · rcases h2 with h2 | ⟨h2, h4⟩
      · exact .inl (by omega)
      · exact .inl (by omega)
    · rcases h2 with h2 | ⟨h2, h4⟩
      · exact .inl (by omega)
      · exact .inr ⟨by omega, ltL_trans l r s h3 h4⟩
theorem ltL_tri : ∀ a b : List Int, ltL a b = true ∨ a = b ∨ ltL b a = true
  | [], [] => .inr (.inl rfl)
  | [], b :: r => .inl (by simp [ltL, cmpL])
  | a :: l, [] => .inr (.inr (by simp [ltL, cmpL]))
  | a :: l, b :: r => by
    rw [ltL_cons, ltL_cons]
    simp only [Bool.or_eq_true, Bool.and_eq_true, decide_eq_true_eq]
    by_cases h : a < b
    · exact .inl (.inl h)
    · by_cases h2 : b < a
      · exact .inr (.inr (.inl h2))
      · have : a = b := by omega
        subst this
        rcases ltL_tri l r with h3 | h3 | h3
        · exact .inl (.inr ⟨rfl, h3⟩)
        · exact .inr (.inl (by rw [h3]))
        · exact .inr (.inr (.inr ⟨rfl, h3⟩))
def leL (a b : List Int) : Bool := !ltL b a
theorem leL_trans (a b c : List Int) (h1 : leL a b = true) (h2 : leL b c = true) : leL a c = true := by
  unfold leL at *
  simp only [Bool.not_eq_true'] at *
  cases h : ltL c a with
  | false => rfl
  | true =>
    rcases ltL_tri a b with h3 | h3 | h3
    · have := ltL_trans c a b h h3
      rw [h2] at this; cases this
    · subst h3; rw [h2] at h; cases h
    · rw [h1] at h3; cases h3
theorem leL_total (a b : List Int) : (leL a b || leL b a) = true := by
  unfold leL
  cases h : ltL b a with
  | false => rfl
  | true =>
    cases h2 : ltL a b with
    | false => rfl
    | true => have := ltL_trans a b a h2 h; rw [ltL_irr] at this; cases this
theorem leL_anti (a b : List Int) (h1 : leL a b = true) (h2 : leL b a = true) : a = b := by
  unfold leL at *
  simp only [Bool.not_eq_true'] at *
  rcases ltL_tri a b with h | h | h
  · rw [h2] at h; cases h
  · exact h
  · rw [h1] at h; cases h
def srtL (xs : List (List Int)) : List (List Int) := xs.mergeSort leL
theorem srtL_perm (xs : List (List Int)) : (srtL xs).Perm xs := List.mergeSort_perm xs leL
theorem srtL_sorted (xs : List (List Int)) : (srtL xs).Pairwise fun a b => leL a b = true := List.pairwise_mergeSort leL_trans leL_total xs
theorem sorted_uniq {xs ys : List (List Int)} (h : xs.Perm ys) (h1 : xs.Pairwise fun a b => leL a b = true) (h2 : ys.Pairwise fun a b => leL a b = true) : xs = ys := h.eq_of_pairwise (fun a b _ _ => leL_anti a b) h1 h2
theorem srtL_of {xs ys : List (List Int)} (h : ys.Perm xs) (h1 : ys.Pairwise fun a b => leL a b = true) : ys = srtL xs := sorted_uniq (h.trans (srtL_perm xs).symm) h1 (srtL_sorted xs)
theorem srtL_iff (xs ys : List (List Int)) : srtL xs = srtL ys ↔ xs.Perm ys :=
  ⟨fun h => (srtL_perm xs).symm.trans (h ▸ srtL_perm ys), fun h => srtL_of ((srtL_perm xs).trans h) (srtL_sorted xs)⟩
/-- As often in both, for each of the first ones: the same. -/
theorem perm_of : ∀ (xs ys : List (List Int)), xs.length = ys.length → (∀ x ∈ xs, xs.count x = ys.count x) → xs.Perm ys
  | [], ys, hl, _ => by
    have : ys = [] := List.length_eq_zero_iff.1 hl.symm
    rw [this]
  | a :: l, ys, hl, h => by
    have h0 := h a List.mem_cons_self
    have ha : a ∈ ys := by
      apply List.count_pos_iff.1
      rw [← h0, List.count_cons_self]
      omega
    refine (List.Perm.cons a (perm_of l (ys.erase a) ?_ fun x hx => ?_)).trans (List.perm_cons_erase ha).symm
    · rw [List.length_erase_of_mem ha, ← hl]
      simp
    · have := h x (List.mem_cons_of_mem _ hx)
      rw [List.count_cons] at this
      rw [List.count_erase]
      have e : (a == x) = (x == a) := BEq.comm
      omega
theorem perm_iff (xs ys : List (List Int)) (hl : xs.length = ys.length) : xs.Perm ys ↔ ∀ x ∈ xs, xs.count x = ys.count x := ⟨fun h x _ => h.count_eq x, perm_of xs ys hl⟩
end Go.Proofs.YtmdaggnfgghnfaaDoor.SrtL
