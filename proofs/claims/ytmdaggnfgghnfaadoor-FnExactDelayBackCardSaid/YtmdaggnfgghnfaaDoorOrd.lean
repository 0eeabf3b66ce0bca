/- Words in order, each once: one list for each set of words; the reference's way of putting a word in. -/
import Derived.Test.YtmdaggnfgghnfaaDoorSortS
import Derived.Test.YtmdaggnfgghnfaaDoorPfM0
namespace Go.Proofs.YtmdaggnfgghnfaaDoor.Ord
open Go.RowKit Go.Lib Go.Sort Go.Proofs.YtmdaggnfgghnfaaDoorW.PrintWords Go.Proofs.YtmdaggnfgghnfaaDoorW.PrintLast Go.Proofs.YtmdaggnfgghnfaaDoorW.PrintMore Go.Proofs.YtmdaggnfgghnfaaDoor.Wd Go.Proofs.YtmdaggnfgghnfaaDoor.Wset Go.Proofs.YtmdaggnfgghnfaaDoor.CmpWords Go.Proofs.YtmdaggnfgghnfaaDoor.SortS
set_option linter.unusedVariables false
set_option linter.unusedSimpArgs false

/-- Each word is less than all behind it. -/
def Str (l : List ByteArray) : Prop := l.Pairwise fun a b => ltB a b = true
theorem lt_ne {a b : ByteArray} (h : ltB a b = true) : a ≠ b := by
  rintro rfl
  rw [ltB_irr] at h
  cases h
theorem lt_asym {a b : ByteArray} (h : ltB a b = true) : ltB b a = false := by
  cases h2 : ltB b a with
  | false => rfl
  | true =>
    have := ltB_trans a b a h h2
    rw [ltB_irr] at this
    cases this
theorem str_uniq : ∀ {l l' : List ByteArray}, Str l → Str l' → (∀ x, x ∈ l ↔ x ∈ l') → l = l'
  | [], [], _, _, _ => rfl
  | [], b :: l', _, _, h => absurd ((h b).2 List.mem_cons_self) (by simp)
  | a :: l, [], _, _, h => absurd ((h a).1 List.mem_cons_self) (by simp)
  | a :: l, b :: l', h1, h2, h => by
    have h1' := List.pairwise_cons.1 h1
    have h2' := List.pairwise_cons.1 h2
    have e : a = b := by
      rcases List.mem_cons.1 ((h a).1 List.mem_cons_self) with e | ha
      · exact e
      rcases List.mem_cons.1 ((h b).2 List.mem_cons_self) with e | hb
      · exact e.symm
      have x1 := h1'.1 b hb
      have x2 := h2'.1 a ha
      rw [lt_asym x1] at x2
      cases x2
    subst e
    congr 1
    refine str_uniq h1'.2 h2'.2 fun x => ?_
    constructor
    · intro hx
      rcases List.mem_cons.1 ((h x).1 (List.mem_cons_of_mem _ hx)) with e | hx'
      · exact absurd e.symm (lt_ne (h1'.1 x hx))
      · exact hx'
    · intro hx
      rcases List.mem_cons.1 ((h x).2 (List.mem_cons_of_mem _ hx)) with e | hx'
      · exact absurd e.symm (lt_ne (h2'.1 x hx))
      · exact hx'

theorem mem_srtW (l : List ByteArray) (x : ByteArray) : x ∈ srtW l ↔ x ∈ l := List.mem_mergeSort
theorem srtW_sorted (l : List ByteArray) : (srtW l).Pairwise fun a b => ltB b a = false := by
  have := List.pairwise_mergeSort (le := fun x y : ByteArray => !(ltOf cmpW) y x) (fun a b c h1 h2 => ?_) (fun a b => ?_) l
  · exact this.imp fun {a b} h => by rw [ltOf_eq] at h; simpa using h
  · rw [ltOf_eq] at h1 h2 ⊢
    simp only [Bool.not_eq_true'] at *
    have := swo.ntrans c b a (by rw [ltOf_eq]; exact h2) (by rw [ltOf_eq]; exact h1)
    rwa [ltOf_eq] at this
  · rw [ltOf_eq, ltOf_eq]
    cases h : ltB b a with
    | false => simp
    | true => simp [lt_asym h]
section
variable {l : List ByteArray}
theorem get_bang (l : List ByteArray) (i : Nat) (h : i < l.length) : l.toArray[i]! = l[i] := by simp [getElem!_pos, h]
theorem keep_first (l : List ByteArray) (x : ByteArray) : ∀ j, j < l.length → l.toArray[j]! = x → ∃ i, i < l.length ∧ Lib.keeps l.toArray i = true ∧ l.toArray[i]! = x
  | 0, h, e => ⟨0, h, by simp [Lib.keeps], e⟩
  | j + 1, h, e => by
    by_cases hk : l.toArray[j + 1]! = l.toArray[j]!
    · exact keep_first l x j (by omega) (hk.symm.trans e)
    · exact ⟨j + 1, h, by simp only [Lib.keeps, Nat.add_sub_cancel]; exact decide_eq_true (.inr hk), e⟩
theorem mem_compact (l : List ByteArray) (x : ByteArray) : x ∈ Lib.compact l ↔ x ∈ l := by
  unfold Lib.compact Lib.compactUpTo
  simp only [List.mem_map, List.mem_filter, List.mem_range]
  constructor
  · rintro ⟨i, ⟨hi, _⟩, rfl⟩
    rw [get_bang l i hi]
    exact List.getElem_mem hi
  · intro h
    obtain ⟨j, hj, e⟩ := List.getElem_of_mem h
    obtain ⟨i, h1, h2, h3⟩ := keep_first l x j hj (by rw [get_bang l j hj]; exact e)
    exact ⟨i, ⟨h1, h2⟩, h3⟩
theorem compact_str (l : List ByteArray) (hs : l.Pairwise fun a b => ltB b a = false) : Str (Lib.compact l) := by
  have hg := List.pairwise_iff_getElem.1 hs
  unfold Str Lib.compact Lib.compactUpTo
  rw [List.pairwise_map, List.pairwise_filter]
  refine List.Pairwise.imp_of_mem ?_ List.pairwise_lt_range
  intro i j hi hj hij hki hkj
  rw [List.mem_range] at hi hj
  rw [get_bang l i hi, get_bang l j hj]
  have hk : l[j] ≠ l[j - 1]'(by omega) := by
    simp only [Lib.keeps, decide_eq_true_eq] at hkj
    rcases hkj with h | h
    · omega
    · rwa [get_bang l j hj, get_bang l (j - 1) (by omega)] at h
  have h1 : ltB (l[j - 1]'(by omega)) l[j] = true := by
    have := hg (j - 1) j (by omega) hj (by omega)
    rcases ltB_tri (l[j - 1]'(by omega)) l[j] with h | h | h
    · exact h
    · exact absurd h.symm hk
    · rw [this] at h; cases h
  by_cases e : i = j - 1
  · subst e; exact h1
  · have h2 := hg i (j - 1) hi (by omega) (by omega)
    rcases ltB_tri l[i] (l[j - 1]'(by omega)) with h | h | h
    · exact ltB_trans _ _ _ h h1
    · rw [h]; exact h1
    · rw [h2] at h; cases h
end
theorem ordW_str (l : List ByteArray) : Str (ordW l) := compact_str _ (srtW_sorted l)
theorem mem_ordW (l : List ByteArray) (x : ByteArray) : x ∈ ordW l ↔ x ∈ l := (mem_compact _ _).trans (mem_srtW l x)
theorem ordW_congr {l l' : List ByteArray} (h : ∀ x, x ∈ l ↔ x ∈ l') : ordW l = ordW l' :=
  str_uniq (ordW_str l) (ordW_str l') fun x => by rw [mem_ordW, mem_ordW, h]
theorem ordW_of_str {l : List ByteArray} (h : Str l) : ordW l = l := str_uniq (ordW_str l) h fun x => mem_ordW l x
theorem eq_ordW {l l' : List ByteArray} (h : Str l) (hm : ∀ x, x ∈ l ↔ x ∈ l') : l = ordW l' := str_uniq h (ordW_str l') fun x => by rw [mem_ordW, hm]

/-! ### a word is put in -/
theorem str_put {l : List ByteArray} {s : ByteArray} {i : Nat} (hs : Str l) (hi : i ≤ l.length) (h1 : ∀ q (h : q < l.length), q < i → ltB l[q] s = true) (h2 : ∀ h : i < l.length, ltB s l[i] = true) : Str (l.take i ++ [s] ++ l.drop i) := by
  have hlow : ∀ x ∈ l.take i, ltB x s = true := by
    intro x hx
    obtain ⟨q, hq, rfl⟩ := List.getElem_of_mem hx
    rw [List.length_take] at hq
    rw [List.getElem_take]
    exact h1 q (by omega) (by omega)
  have hg := List.pairwise_iff_getElem.1 hs
  have hhigh : ∀ x ∈ l.drop i, ltB s x = true := by
    intro x hx
    obtain ⟨q, hq, rfl⟩ := List.getElem_of_mem hx
    rw [List.length_drop] at hq
    rw [List.getElem_drop]
    by_cases e : q = 0
    · subst e
      exact h2 (by omega)
    · exact ltB_trans _ _ _ (h2 (by omega)) (hg i (i + q) (by omega) (by omega) (by omega))
  refine List.pairwise_append.2 ⟨List.pairwise_append.2 ⟨List.Pairwise.sublist (List.take_sublist _ _) hs, List.pairwise_singleton _ _, ?_⟩, List.Pairwise.sublist (List.drop_sublist _ _) hs, ?_⟩
  · intro a ha b hb
    rw [List.mem_singleton.1 hb]
    exact hlow a ha
  · intro a ha b hb
    rcases List.mem_append.1 ha with ha | ha
    · exact ltB_trans _ _ _ (hlow a ha) (hhigh b hb)
    · rw [List.mem_singleton.1 ha]
      exact hhigh b hb
theorem mem_put (l : List ByteArray) (s : ByteArray) (i : Nat) (x : ByteArray) : x ∈ l.take i ++ [s] ++ l.drop i ↔ x ∈ s :: l := by
  have : x ∈ l ↔ x ∈ l.take i ∨ x ∈ l.drop i := by
    rw [← List.mem_append, List.take_append_drop]
  simp only [List.mem_append, List.mem_singleton, List.mem_cons, List.mem_nil_iff, or_false, this]
  constructor
  · rintro ((h | h) | h)
    · exact .inr (.inl h)
    · exact .inl h
    · exact .inr (.inr h)
  · rintro (h | h | h)
    · exact .inl (.inr h)
    · exact .inl (.inl h)
    · exact .inr h
theorem wdPut_loop (l : List ByteArray) (s : ByteArray) (hs : Str l) (hl : l.length ≤ 8000000000000) : ∀ (j i k : Nat), i + j = l.length → j < k → (∀ q (h : q < l.length), q < i → ltB l[q] s = true) → Go.Proofs.YtmdaggnfgghnfaaDoor.Pf.spec_wdPut.l0 k l s i = some (ordW (s :: l)) := by
  intro j
  induction j with
  | zero =>
    intro i k hi hk hlow
    obtain ⟨k, rfl⟩ : ∃ q, k = q + 1 := ⟨k - 1, by omega⟩
    have hput := eq_ordW (str_put hs (i := i) (by omega) hlow (fun h => by omega)) (mem_put l s i)
    have ht : (l.take i).length = i := by rw [List.length_take]; omega
    simp only [Go.Proofs.YtmdaggnfgghnfaaDoor.Pf.spec_wdPut.l0]
    rw [if_neg (by omega), Option.bind_some, if_pos (by omega), if_pos (by omega), Int.toNat_natCast, Option.bind_some]
    simp only [List.nil_append, List.length_nil, Nat.zero_add, Option.bind_some, List.length_append, List.length_singleton, List.length_drop, ht]
    rw [if_pos (by omega), if_pos (by omega), if_pos (by omega)]
    exact congrArg some hput
  | succ j ih =>
    intro i k hi hk hlow
    obtain ⟨k, rfl⟩ : ∃ q, k = q + 1 := ⟨k - 1, by omega⟩
    have hlt : i < l.length := by omega
    simp only [Go.Proofs.YtmdaggnfgghnfaaDoor.Pf.spec_wdPut.l0]
    rw [if_pos (by omega), if_pos (by omega), rdOf_lt l i hlt, wdLess_eq, Option.bind_some, wrap_succ i (by omega)]
    cases hl1 : ltB l[i] s with
    | true =>
      rw [if_pos rfl]
      refine ih (i + 1) k (by omega) (by omega) fun q h hq => ?_
      by_cases e : q = i
      · subst e; exact hl1
      · exact hlow q h (by omega)
    | false =>
      rw [if_neg (by decide)]
      by_cases he : l[i] = s
      · rw [if_pos (by rw [he])]
        refine congrArg some (eq_ordW hs fun x => ?_)
        rw [List.mem_cons]
        constructor
        · exact .inr
        · rintro (rfl | h)
          · rw [← he]; exact List.getElem_mem hlt
          · exact h
      · rw [if_neg (by rw [ByteArray.toList_eq, ByteArray.toList_eq]; exact fun h => he (Go.WideShapes.bytes_inj h))]
        have hgt : ltB s l[i] = true := by
          rcases ltB_tri s l[i] with h | h | h
          · exact h
          · exact absurd h.symm he
          · rw [hl1] at h; cases h
        have hput := eq_ordW (str_put hs (i := i) (by omega) hlow (fun h => hgt)) (mem_put l s i)
        have ht : (l.take i).length = i := by rw [List.length_take]; omega
        rw [Option.bind_some, if_pos (by omega), Int.toNat_natCast, Option.bind_some]
        simp only [List.nil_append, List.length_nil, Nat.zero_add, Option.bind_some, List.length_append, List.length_singleton, List.length_drop, ht]
        rw [if_pos (by omega), if_pos (by omega), if_pos (by omega)]
        exact congrArg some hput
theorem wdPut_ev (l : List ByteArray) (s : ByteArray) (hs : Str l) (hl : l.length ≤ 8000000000000) : Ev (fun k => Go.Proofs.YtmdaggnfgghnfaaDoor.Pf.spec_wdPut.f k l s) (ordW (s :: l)) :=
  ev_ge l.length fun k hk => wdPut_loop l s hs hl l.length 0 k (by omega) (by omega) (fun q h hq => by omega)
/-- What was put in so far, one word more. -/
theorem put_ord (L : List ByteArray) (s : ByteArray) : ordW (s :: ordW L) = ordW (L ++ [s]) := ordW_congr fun x => by
  simp only [List.mem_cons, mem_ordW, List.mem_append, List.mem_nil_iff, or_false]
  exact or_comm
theorem ordered_eq (l : List ByteArray) (h : l.length ≤ 8000000000000) : SortS.impl_ordered.f l = some (ordW l) := by
  unfold SortS.impl_ordered.f
  rw [if_pos h]
end Go.Proofs.YtmdaggnfgghnfaaDoor.Ord
