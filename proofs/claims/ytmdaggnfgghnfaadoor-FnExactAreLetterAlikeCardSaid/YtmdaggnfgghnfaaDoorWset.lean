/- Sets of words in plain terms: both sides ask the same of a list. -/
import Derived.Test.YtmdaggnfgghnfaaDoorWd
import Derived.Test.YtmdaggnfgghnfaaDoorPcM0
namespace Go.Proofs.YtmdaggnfgghnfaaDoor.Wset
open Go.RowKit Go.Proofs.YtmdaggnfgghnfaaDoorW.PrintWords Go.Proofs.YtmdaggnfgghnfaaDoorW.PrintLast Go.Proofs.YtmdaggnfgghnfaaDoorW.PrintMore Go.Proofs.YtmdaggnfgghnfaaDoor.Wd
set_option linter.unusedVariables false
set_option linter.unusedSimpArgs false

/-- The order of words, as a number. -/
def cmpW (a b : ByteArray) : Int := if a.size < b.size then -1 else if b.size < a.size then 1 else Lib.compareBytes a.data.toList b.data.toList
theorem cmpInt_eq (a b : Int) : Go.Proofs.YtmdaggnfgghnfaaDoor.Pc.cmp_Compare_int.f a b = some (if a < b then -1 else if b < a then 1 else 0) := by
  unfold Go.Proofs.YtmdaggnfgghnfaaDoor.Pc.cmp_Compare_int.f Go.Proofs.YtmdaggnfgghnfaaDoor.Pc.cmp_isNaN_int.f
  simp only [bne_self_eq_false, Option.bind_some, Bool.false_eq_true, if_false]
  split
  · rfl
  · by_cases h : a > b
    · rw [if_pos h, if_pos h]
    · rw [if_neg h, if_neg h]
theorem or_loop (x y : Int) (k : Nat) : Go.Proofs.YtmdaggnfgghnfaaDoor.Pc.cmp_Or_int.f (k + 3) [x, y] = some (if x = 0 then y else x) := by
  unfold Go.Proofs.YtmdaggnfgghnfaaDoor.Pc.cmp_Or_int.f
  have w1 : wrap64 (0 + 1) = 1 := by unfold wrap64; omega
  have w2 : wrap64 (1 + 1) = 2 := by unfold wrap64; omega
  simp only [Go.Proofs.YtmdaggnfgghnfaaDoor.Pc.cmp_Or_int.l0, List.length_cons, List.length_nil, w1, w2]
  by_cases h : x = 0
  · by_cases h2 : y = 0
    · simp [rd, h, h2]
    · simp [rd, h, h2]
  · simp [rd, h]
theorem compareWords_ev (a b : ByteArray) : Ev (fun k => Go.Proofs.YtmdaggnfgghnfaaDoor.Pc.impl_compareWords.f k a b) (cmpW a b) := by
  refine ⟨3, fun k hk => ?_⟩
  obtain ⟨k, rfl⟩ : ∃ q, k = q + 3 := ⟨k - 3, by omega⟩
  show Go.Proofs.YtmdaggnfgghnfaaDoor.Pc.impl_compareWords.f (k + 3) a b = _
  unfold Go.Proofs.YtmdaggnfgghnfaaDoor.Pc.impl_compareWords.f Gs.strings_Compare.f
  simp only [cmpInt_eq, Option.bind_some, or_loop]
  congr 1
  unfold cmpW
  by_cases h1 : a.size < b.size
  · rw [if_pos h1, if_pos (show (a.size : Int) < b.size by omega)]; rfl
  · rw [if_neg h1, if_neg (show ¬ (a.size : Int) < b.size by omega)]
    by_cases h2 : b.size < a.size
    · rw [if_pos h2, if_pos (show (b.size : Int) < a.size by omega)]; rfl
    · rw [if_neg h2, if_neg (show ¬ (b.size : Int) < a.size by omega)]; rfl
theorem cmpB_bd : ∀ x y : List UInt8, Lib.compareBytes x y = -1 ∨ Lib.compareBytes x y = 0 ∨ Lib.compareBytes x y = 1
  | [], [] => by simp [Lib.compareBytes]
  | [], _ :: _ => by simp [Lib.compareBytes]
  | _ :: _, [] => by simp [Lib.compareBytes]
  | a :: xs, b :: ys => by
    unfold Lib.compareBytes
    split
    · simp
    · split
      · simp
      · exact cmpB_bd xs ys
theorem cmpB_lt : ∀ x y : List UInt8, (Lib.compareBytes x y < 0) ↔ Op.bytesLess x y = true
  | [], [] => by simp [Lib.compareBytes, Op.bytesLess]
  | [], _ :: _ => by simp [Lib.compareBytes, Op.bytesLess]
  | _ :: _, [] => by simp [Lib.compareBytes, Op.bytesLess]
  | a :: xs, b :: ys => by
    unfold Lib.compareBytes Op.bytesLess
    by_cases h1 : a < b
    · simp [h1]
    · by_cases h2 : b < a
      · have : ¬ a = b := by rintro rfl; exact absurd h2 h1
        simp [h1, h2, this]
      · have : a = b := by
          have e1 := UInt8.not_lt.1 h1
          have e2 := UInt8.not_lt.1 h2
          exact UInt8.le_antisymm e2 e1
        simp [h1, h2, this, cmpB_lt xs ys]
theorem cmpB_eq : ∀ x y : List UInt8, (Lib.compareBytes x y = 0) ↔ x = y
  | [], [] => by simp [Lib.compareBytes]
  | [], _ :: _ => by simp [Lib.compareBytes]
  | _ :: _, [] => by simp [Lib.compareBytes]
  | a :: xs, b :: ys => by
    unfold Lib.compareBytes
    by_cases h1 : a < b
    · simp [h1]; rintro rfl; exact absurd h1 (UInt8.lt_irrefl _)
    · by_cases h2 : b < a
      · simp [h1, h2]; rintro rfl; exact absurd h2 (UInt8.lt_irrefl _)
      · have : a = b := UInt8.le_antisymm (UInt8.not_lt.1 h2) (UInt8.not_lt.1 h1)
        simp [h1, h2, this, cmpB_eq xs ys]
theorem cmpW_lt (a b : ByteArray) : cmpW a b < 0 ↔ ltB a b = true := by
  unfold cmpW ltB
  by_cases h1 : a.size < b.size
  · simp [h1]
  · by_cases h2 : b.size < a.size
    · have : ¬ a.size = b.size := by omega
      simp [h1, h2, this]
    · have : a.size = b.size := by omega
      simp [h1, h2, this, cmpB_lt]
theorem cmpW_eq (a b : ByteArray) : cmpW a b = 0 ↔ a = b := by
  unfold cmpW
  by_cases h1 : a.size < b.size
  · simp [h1]; rintro rfl; omega
  · by_cases h2 : b.size < a.size
    · simp [h1, h2]; rintro rfl; omega
    · simp only [h1, h2, if_false, cmpB_eq]
      exact ⟨fun h => Go.WideShapes.bytes_inj h, fun h => by rw [h]⟩

/-- A word at its place. -/
def okAt (l : List ByteArray) (i : Nat) : Bool := shortB (l.getD i ByteArray.empty) && (decide (i = 0) || ltB (l.getD (i - 1) ByteArray.empty) (l.getD i ByteArray.empty))
def Set (l : List ByteArray) : Prop := l.length ≤ 12 ∧ ∀ i, i < l.length → okAt l i = true
theorem rdOf_nat (l : List ByteArray) (i : Nat) : rdOf ByteArray.empty l (i : Int) = l.getD i ByteArray.empty := by simp [rdOf]
theorem getD_mem {l : List ByteArray} {i : Nat} (h : i < l.length) : l.getD i ByteArray.empty ∈ l := by
  rw [List.getD_eq_getElem?_getD, List.getElem?_eq_getElem h]
  exact List.getElem_mem h
theorem okAt_zero (l : List ByteArray) : okAt l 0 = shortB (l.getD 0 ByteArray.empty) := by simp [okAt]
theorem okAt_pos (l : List ByteArray) (i : Nat) (h : 0 < i) : okAt l i = (shortB (l.getD i ByteArray.empty) && ltB (l.getD (i - 1) ByteArray.empty) (l.getD i ByteArray.empty)) := by
  have : ¬ i = 0 := by omega
  simp [okAt, this]
/-- From i on. -/
def From (l : List ByteArray) (i : Nat) : Prop := ∀ q, i ≤ q → q < l.length → okAt l q = true
theorem from_end {l : List ByteArray} {i : Nat} (h : l.length ≤ i) : From l i := fun q h1 h2 => by omega
theorem from_step {l : List ByteArray} {i : Nat} (h : i < l.length) : From l i ↔ okAt l i = true ∧ From l (i + 1) := by
  constructor
  · exact fun hh => ⟨hh i (Nat.le_refl _) h, fun q h1 h2 => hh q (by omega) h2⟩
  · rintro ⟨h0, hh⟩ q h1 h2
    by_cases e : q = i
    · subst e; exact h0
    · exact hh q (by omega) h2
open Classical in
theorem wdSet_loop (l : List ByteArray) (hl : Fit l) : ∀ (j i : Nat), i + j = l.length → Ev (fun k => Go.Proofs.YtmdaggnfgghnfaaDoor.Pc.spec_wdSet.l0 k l l l.length i) (decide (From l i)) := by
  intro j
  induction j with
  | zero =>
    intro i hi
    refine ev_ge 0 fun k hk => ?_
    obtain ⟨k, rfl⟩ : ∃ q, k = q + 1 := ⟨k - 1, by omega⟩
    simp only [Go.Proofs.YtmdaggnfgghnfaaDoor.Pc.spec_wdSet.l0]
    rw [if_neg (by omega), decide_eq_true (from_end (by omega))]
  | succ j ih =>
    intro i hi
    have hlen := hl.1
    have hsz := hl.2 _ (getD_mem (l := l) (i := i) (by omega))
    obtain ⟨K1, h1⟩ := wdShort_ev _ hsz
    obtain ⟨K2, h2⟩ := ih (i + 1) (by omega)
    refine ev_ge (max K1 K2) fun k hk => ?_
    obtain ⟨k, rfl⟩ : ∃ q, k = q + 1 := ⟨k - 1, by omega⟩
    have h1' := h1 k (by omega)
    have h2' := h2 k (by omega)
    simp only [] at h1' h2'
    simp only [Go.Proofs.YtmdaggnfgghnfaaDoor.Pc.spec_wdSet.l0]
    rw [if_pos (by omega), if_pos (by omega), if_pos (by omega), rdOf_nat, h1', Option.bind_some, wrap_succ i (by omega), h2']
    have key := from_step (l := l) (i := i) (by omega)
    cases hs : shortB (l.getD i ByteArray.empty) with
    | false =>
      rw [if_neg (by decide)]
      have : ¬ From l i := fun h => by
        have := (key.1 h).1
        unfold okAt at this
        rw [hs, Bool.false_and] at this
        cases this
      rw [decide_eq_false this]
    | true =>
      rw [if_pos rfl]
      by_cases h0 : 0 < i
      · rw [if_pos (by omega)]
        have e : wrap64 ((i : Int) - 1) = ((i - 1 : Nat) : Int) := by unfold wrap64; omega
        rw [e, if_pos (by omega), if_pos (by omega), rdOf_nat, wdLess_eq, Option.bind_some]
        have hk : okAt l i = ltB (l.getD (i - 1) ByteArray.empty) (l.getD i ByteArray.empty) := by rw [okAt_pos l i h0, hs]; rfl
        cases hlt : ltB (l.getD (i - 1) ByteArray.empty) (l.getD i ByteArray.empty) with
        | true =>
          rw [if_pos rfl]
          congr 1
          rw [decide_eq_decide, key, hk, hlt]
          simp
        | false =>
          rw [if_neg (by decide)]
          have : ¬ From l i := fun h => by
            have := (key.1 h).1
            rw [hk, hlt] at this
            cases this
          rw [decide_eq_false this]
      · obtain rfl : i = 0 := by omega
        rw [if_neg (by omega)]
        congr 1
        rw [decide_eq_decide, key, okAt_zero, hs]
        simp
open Classical in
theorem isSet_loop (l : List ByteArray) (hl : Fit l) : ∀ (j i : Nat), i + j = l.length → Ev (fun k => Go.Proofs.YtmdaggnfgghnfaaDoor.Pc.impl_isSet.l0 k l l l.length i) (decide (From l i) && decide (l.length ≤ 12)) := by
  intro j
  induction j with
  | zero =>
    intro i hi
    refine ev_ge 0 fun k hk => ?_
    obtain ⟨k, rfl⟩ : ∃ q, k = q + 1 := ⟨k - 1, by omega⟩
    simp only [Go.Proofs.YtmdaggnfgghnfaaDoor.Pc.impl_isSet.l0]
    rw [if_neg (by omega), decide_eq_true (from_end (by omega))]
    simp
    omega
  | succ j ih =>
    intro i hi
    have hlen := hl.1
    have hsz := hl.2 _ (getD_mem (l := l) (i := i) (by omega))
    obtain ⟨K1, h1⟩ := compareWords_ev (l.getD (i - 1) ByteArray.empty) (l.getD i ByteArray.empty)
    obtain ⟨K2, h2⟩ := ih (i + 1) (by omega)
    refine ev_ge (max K1 K2) fun k hk => ?_
    obtain ⟨k, rfl⟩ : ∃ q, k = q + 1 := ⟨k - 1, by omega⟩
    have h1' := h1 k (by omega)
    have h2' := h2 k (by omega)
    simp only [] at h1' h2'
    simp only [Go.Proofs.YtmdaggnfgghnfaaDoor.Pc.impl_isSet.l0]
    rw [if_pos (by omega), if_pos (by omega), if_pos (by omega), rdOf_nat, isShort_eq _ hsz, Option.bind_some, wrap_succ i (by omega), h2']
    have key := from_step (l := l) (i := i) (by omega)
    cases hs : shortB (l.getD i ByteArray.empty) with
    | false =>
      rw [if_neg (by decide)]
      have : ¬ From l i := fun h => by
        have := (key.1 h).1
        unfold okAt at this
        rw [hs, Bool.false_and] at this
        cases this
      rw [decide_eq_false this]
      rfl
    | true =>
      rw [if_pos rfl]
      by_cases h0 : 0 < i
      · rw [if_pos (by omega)]
        have e : wrap64 ((i : Int) - 1) = ((i - 1 : Nat) : Int) := by unfold wrap64; omega
        rw [e, if_pos (by omega), if_pos (by omega), rdOf_nat, h1', Option.bind_some]
        have hk : okAt l i = ltB (l.getD (i - 1) ByteArray.empty) (l.getD i ByteArray.empty) := by rw [okAt_pos l i h0, hs]; rfl
        have hc := cmpW_lt (l.getD (i - 1) ByteArray.empty) (l.getD i ByteArray.empty)
        cases hlt : ltB (l.getD (i - 1) ByteArray.empty) (l.getD i ByteArray.empty) with
        | true =>
          rw [if_neg (by have := hc.2 hlt; omega)]
          congr 2
          rw [decide_eq_decide, key, hk, hlt]
          simp
        | false =>
          rw [if_pos (by
            have : ¬ cmpW (l.getD (i - 1) ByteArray.empty) (l.getD i ByteArray.empty) < 0 := fun h => by rw [hc.1 h] at hlt; cases hlt
            omega)]
          have : ¬ From l i := fun h => by
            have := (key.1 h).1
            rw [hk, hlt] at this
            cases this
          rw [decide_eq_false this]
          rfl
      · obtain rfl : i = 0 := by omega
        rw [if_neg (by omega)]
        congr 2
        rw [decide_eq_decide, key, okAt_zero, hs]
        simp
theorem set_from (l : List ByteArray) : Set l ↔ l.length ≤ 12 ∧ From l 0 := ⟨fun h => ⟨h.1, fun q _ h2 => h.2 q h2⟩, fun h => ⟨h.1, fun i hi => h.2 i (Nat.zero_le _) hi⟩⟩
open Classical in
theorem wdSet_ev (l : List ByteArray) (hl : Fit l) : Ev (fun k => Go.Proofs.YtmdaggnfgghnfaaDoor.Pc.spec_wdSet.f k l) (decide (Set l)) := by
  unfold Go.Proofs.YtmdaggnfgghnfaaDoor.Pc.spec_wdSet.f
  by_cases h : l.length ≤ 12
  · simp only [if_neg (show ¬ (l.length : Int) > 12 by omega)]
    have e : decide (Set l) = decide (From l 0) := by rw [decide_eq_decide, set_from]; simp [h]
    rw [e]
    exact wdSet_loop l hl l.length 0 (by omega)
  · simp only [if_pos (show (l.length : Int) > 12 by omega)]
    have e : decide (Set l) = false := decide_eq_false fun hs => h hs.1
    rw [e]
    exact ev_some _
open Classical in
theorem isSet_ev (l : List ByteArray) (hl : Fit l) : Ev (fun k => Go.Proofs.YtmdaggnfgghnfaaDoor.Pc.impl_isSet.f k l) (decide (Set l)) := by
  have e : decide (Set l) = (decide (From l 0) && decide (l.length ≤ 12)) := by
    rw [Bool.eq_iff_iff]
    simp only [Bool.and_eq_true, decide_eq_true_eq, set_from]
    exact and_comm
  rw [e]
  exact isSet_loop l hl l.length 0 (by omega)
end Go.Proofs.YtmdaggnfgghnfaaDoor.Wset
