/- First and next rests in plain terms: both sides have the same ones. -/
import Derived.Test.YtmdaggnfgghnfaaDoorDlP
import Derived.Test.YtmdaggnfgghnfaaDoorPfM0
import Derived.Test.YtmdaggnfgghnfaaDoorPfM1
namespace Go.Proofs.YtmdaggnfgghnfaaDoor.DlQ
open Go.RowKit Go.Proofs.YtmdaggnfgghnfaaDoorW.PrintWords Go.Proofs.YtmdaggnfgghnfaaDoorW.PrintLast Go.Proofs.YtmdaggnfgghnfaaDoorW.PrintMore Go.Proofs.YtmdaggnfgghnfaaDoor.Wd Go.Proofs.YtmdaggnfgghnfaaDoor.Wset Go.Proofs.YtmdaggnfgghnfaaDoor.SortS Go.Proofs.YtmdaggnfgghnfaaDoor.Ord Go.Proofs.YtmdaggnfgghnfaaDoor.DlP
set_option linter.unusedVariables false
set_option linter.unusedSimpArgs false

/-- A walk by rows and columns. -/
theorem two_loop {β X : Type} (n m : Nat) (st : Nat → Nat → X) (F0 : Nat → X → Nat → Option β) (F1 : Nat → X → Nat → Nat → Option β) (r : β)
    (hst : ∀ i, st i m = st (i + 1) 0)
    (hend : Ev (fun k => F0 k (st n 0) n) r)
    (h0 : ∀ i, i < n → Ev (fun k => F1 k (st i 0) i 0) r → Ev (fun k => F0 k (st i 0) i) r)
    (h1 : ∀ i j, i < n → j < m → Ev (fun k => F1 k (st i (j + 1)) i (j + 1)) r → Ev (fun k => F1 k (st i j) i j) r)
    (h2 : ∀ i, i < n → Ev (fun k => F0 k (st (i + 1) 0) (i + 1)) r → Ev (fun k => F1 k (st i m) i m) r) : Ev (fun k => F0 k (st 0 0) 0) r := by
  have key : ∀ (q i : Nat), i + q = n → Ev (fun k => F0 k (st i 0) i) r := by
    intro q
    induction q with
    | zero => intro i hi; obtain rfl : i = n := by omega
              exact hend
    | succ q ih =>
      intro i hi
      have row : ∀ (p j : Nat), j + p = m → Ev (fun k => F1 k (st i j) i j) r := by
        intro p
        induction p with
        | zero => intro j hj; obtain rfl : j = m := by omega
                  exact h2 i (by omega) (ih (i + 1) (by omega))
        | succ p ihp => intro j hj; exact h1 i j (by omega) (by omega) (ihp (j + 1) (by omega))
      exact h0 i (by omega) (row m 0 (by omega))
  exact key n 0 (by omega)

/-- What stands ahead of the cell at i, j. -/
def part {α : Type} (m : Nat) (g : Nat → Nat → List α) (i j : Nat) : List α := ((List.range i).flatMap fun i' => (List.range m).flatMap (g i')) ++ (List.range j).flatMap (g i)
theorem part_row {α : Type} (m : Nat) (g : Nat → Nat → List α) (i : Nat) : part m g i m = part m g (i + 1) 0 := by
  simp [part, List.range_succ, List.flatMap_append]
theorem part_col {α : Type} (m : Nat) (g : Nat → Nat → List α) (i j : Nat) : part m g i (j + 1) = part m g i j ++ g i j := by
  simp [part, List.range_succ, List.flatMap_append]
theorem part_len {α : Type} (m : Nat) (g : Nat → Nat → List α) (B : Nat) (hg : ∀ i j, (g i j).length ≤ B) (i j : Nat) : (part m g i j).length ≤ (i * m + j) * B := by
  have h1 : ∀ i, ((List.range m).flatMap (g i)).length ≤ m * B := fun i => by
    have := flatMap_len (g i) B (List.range m) (fun a _ => hg i a)
    rwa [List.length_range] at this
  have h2 := flatMap_len (fun i' => (List.range m).flatMap (g i')) (m * B) (List.range i) (fun a _ => h1 a)
  have h3 := flatMap_len (g i) B (List.range j) (fun a _ => hg i a)
  rw [List.length_range] at h2 h3
  unfold part
  rw [List.length_append, Nat.add_mul, Nat.mul_assoc]
  omega
theorem part_all {α : Type} (n m : Nat) (g : Nat → Nat → List α) (x : α) : x ∈ part m g n 0 ↔ ∃ i, i < n ∧ ∃ j, j < m ∧ x ∈ g i j := by
  simp [part, List.mem_flatMap, List.mem_range]

/-! ### what is left behind a word -/
def beh (set : List ByteArray) (w left : ByteArray) : List ByteArray := if bg left w = true then [rest left w] else if bg w left = true then cov 9 set (rest w left) else []
theorem beh_len {set : List ByteArray} (hs : Short set) (w left : ByteArray) : (beh set w left).length ≤ 5159780352 := by
  unfold beh
  split
  · simp
  · split
    · exact Nat.le_trans (cov_len hs.1 9 _) (pow_bd (Nat.le_refl _))
    · simp
theorem behind_ev {set : List ByteArray} (hs : Short set) (w left : ByteArray) (hw : w.size ≤ 8) : Ev (fun k => Go.Proofs.YtmdaggnfgghnfaaDoor.Pf.impl_behind.f k set w left) (beh set w left) := by
  unfold beh
  by_cases b1 : bg left w = true
  · rw [if_pos b1]
    refine ev_of fun k => ?_
    unfold Go.Proofs.YtmdaggnfgghnfaaDoor.Pf.impl_behind.f
    rw [cut_eq, if_pos b1, Option.bind_some, if_pos rfl]
  · rw [if_neg b1]
    by_cases b2 : bg w left = true
    · rw [if_pos b2]
      obtain ⟨K, hK⟩ := cover_ev hs 9 (rest w left) (by omega) (by rw [rest_size]; omega)
      refine ev_ge K fun k hk => ?_
      have h := hK k (by omega)
      simp only [] at h
      unfold Go.Proofs.YtmdaggnfgghnfaaDoor.Pf.impl_behind.f
      rw [cut_eq, if_neg b1, Option.bind_some, if_neg Bool.false_ne_true, cut_eq, if_pos b2, Option.bind_some, if_pos rfl]
      simp only []
      rw [h, Option.bind_some]
    · rw [if_neg b2]
      refine ev_of fun k => ?_
      unfold Go.Proofs.YtmdaggnfgghnfaaDoor.Pf.impl_behind.f
      rw [cut_eq, if_neg b1, Option.bind_some, if_neg Bool.false_ne_true, cut_eq, if_neg b2, Option.bind_some, if_neg Bool.false_ne_true]
theorem dlBegin_ev {set : List ByteArray} (hs : Short set) (w left : ByteArray) (hw : w.size ≤ 8) : Ev (fun k => Go.Proofs.YtmdaggnfgghnfaaDoor.Pf.spec_dlBegin.f k set w left) (ordW (beh set w left)) := by
  unfold beh
  by_cases b1 : bg left w = true
  · have hz := bg_size b1
    rw [if_pos b1]
    refine ev_of fun k => ?_
    unfold Go.Proofs.YtmdaggnfgghnfaaDoor.Pf.spec_dlBegin.f
    rw [wdBegins_eq, Option.bind_some, if_pos b1, if_pos (by omega), if_pos (by omega), Int.toNat_natCast]
    refine congrArg some ?_
    rw [ordW_of_str (List.pairwise_singleton _ _)]
    rfl
  · have b1' : bg left w = false := by simpa using b1
    rw [if_neg b1]
    by_cases b2 : bg w left = true
    · have hz := bg_less b1' b2
      rw [if_pos b2]
      obtain ⟨K, hK⟩ := dlCover_ev hs 9 (rest w left) (by omega) (by rw [rest_size]; omega) (by rw [rest_size]; omega)
      refine ev_ge K fun k hk => ?_
      have h := hK k (by omega)
      simp only [] at h
      unfold Go.Proofs.YtmdaggnfgghnfaaDoor.Pf.spec_dlBegin.f
      rw [wdBegins_eq, Option.bind_some, if_neg b1, wdBegins_eq, Option.bind_some, if_pos b2, if_pos (by omega), if_pos (by omega), Int.toNat_natCast, show w.extract left.size w.size = rest w left from rfl, h, Option.bind_some]
    · rw [if_neg b2]
      refine ev_of fun k => ?_
      unfold Go.Proofs.YtmdaggnfgghnfaaDoor.Pf.spec_dlBegin.f
      rw [wdBegins_eq, Option.bind_some, if_neg b1, wdBegins_eq, Option.bind_some, if_neg b2, ord_nil]

/-! ### the first ones -/
def wd (l : List ByteArray) (i : Nat) : ByteArray := l.getD i ByteArray.empty
theorem wd_lt {l : List ByteArray} {i : Nat} (h : i < l.length) : wd l i = l[i] := by simp [wd, List.getD_eq_getElem?_getD, List.getElem?_eq_getElem h]
theorem rdOf_wd (l : List ByteArray) (i : Nat) : rdOf ByteArray.empty l (i : Int) = wd l i := by simp [rdOf, wd]
theorem short_wd {set : List ByteArray} (hs : Short set) {i : Nat} (h : i < set.length) : (wd set i).size ≤ 8 := by
  rw [wd_lt h]
  exact (hs.2 _ (List.getElem_mem h)).2
def cell1 (set : List ByteArray) (i j : Nat) : List ByteArray := if i = j then [] else beh set (wd set i) (wd set j)
theorem cell1_len {set : List ByteArray} (hs : Short set) (i j : Nat) : (cell1 set i j).length ≤ 5159780352 := by
  unfold cell1
  split
  · simp
  · exact beh_len hs _ _
def fst (set : List ByteArray) : List ByteArray := ordW (part set.length (cell1 set) set.length 0)
theorem part1_len {set : List ByteArray} (hs : Short set) {g : Nat → Nat → List ByteArray} (hg : ∀ i j, (g i j).length ≤ 5159780352) {i j : Nat} (hi : i ≤ set.length) (hj : j ≤ set.length) : (part set.length g i j).length ≤ 1000000000000 := by
  have h1 := part_len set.length g 5159780352 hg i j
  have hl := hs.1
  have h2 : i * set.length ≤ 12 * 12 := Nat.mul_le_mul (by omega) (by omega)
  have h3 : (i * set.length + j) * 5159780352 ≤ 156 * 5159780352 := Nat.mul_le_mul_right _ (by omega)
  omega
theorem ord_part (m : Nat) (g : Nat → Nat → List ByteArray) (n : Nat) : ordW (part m (fun i j => ordW (g i j)) n 0) = ordW (part m g n 0) := ordW_congr fun x => by
  rw [part_all, part_all]
  simp only [mem_ordW]
theorem cell1o_len {set : List ByteArray} (hs : Short set) (i j : Nat) : (ordW (cell1 set i j)).length ≤ 5159780352 := Nat.le_trans (ordW_le _) (cell1_len hs i j)
theorem firstRests_ev {set : List ByteArray} (hs : Short set) : Ev (fun k => Go.Proofs.YtmdaggnfgghnfaaDoor.Pf.impl_firstRests.f k set) (fst set) := by
  have hl := hs.1
  have := two_loop set.length set.length (part set.length (fun i j => ordW (cell1 set i j))) (fun k a i => Go.Proofs.YtmdaggnfgghnfaaDoor.Pf.impl_firstRests.l0 k set a (set.length : Int) (i : Int)) (fun k a i j => Go.Proofs.YtmdaggnfgghnfaaDoor.Pf.impl_firstRests.l1 k set a (i : Int) (set.length : Int) (i : Int) (set.length : Int) (j : Int)) (fst set) (part_row _ _) ?_ ?_ ?_ ?_
  · exact this
  · refine ev_ge 0 fun k hk => ?_
    obtain ⟨k, rfl⟩ : ∃ q, k = q + 1 := ⟨k - 1, by omega⟩
    simp only [Go.Proofs.YtmdaggnfgghnfaaDoor.Pf.impl_firstRests.l0]
    rw [if_neg (by omega), ordered_eq _ (by have := part1_len hs (cell1o_len hs) (i := set.length) (j := 0) (Nat.le_refl _) (by omega); omega), ord_part]
    rfl
  · rintro i hi ⟨K, hK⟩
    refine ev_ge K fun k hk => ?_
    obtain ⟨k, rfl⟩ : ∃ q, k = q + 1 := ⟨k - 1, by omega⟩
    have h := hK k (by omega)
    simp only [Go.Proofs.YtmdaggnfgghnfaaDoor.Pf.impl_firstRests.l0]
    rw [if_pos (by omega)]
    exact h
  · rintro i j hi hj ⟨K, hK⟩
    have hlen := part1_len hs (cell1o_len hs) (i := i) (j := j) (by omega) (by omega)
    have hc := cell1o_len hs i j
    by_cases e : i = j
    · refine ev_ge K fun k hk => ?_
      obtain ⟨k, rfl⟩ : ∃ q, k = q + 1 := ⟨k - 1, by omega⟩
      have h := hK k (by omega)
      simp only [] at h
      rw [part_col, show ordW (cell1 set i j) = [] by simp [cell1, e, ord_nil], List.append_nil] at h
      simp only [Go.Proofs.YtmdaggnfgghnfaaDoor.Pf.impl_firstRests.l1]
      rw [if_pos (by omega), if_pos (by omega), wrap_succ j (by omega)]
      exact h
    · obtain ⟨K1, h1⟩ := behind_ev hs (wd set i) (wd set j) (short_wd hs hi)
      have hb := beh_len hs (wd set i) (wd set j)
      have hcell : cell1 set i j = beh set (wd set i) (wd set j) := by simp [cell1, e]
      refine ev_ge (max K K1) fun k hk => ?_
      obtain ⟨k, rfl⟩ : ∃ q, k = q + 1 := ⟨k - 1, by omega⟩
      have h := hK k (by omega)
      have h1 := h1 k (by omega)
      simp only [] at h h1
      rw [part_col] at h
      simp only [Go.Proofs.YtmdaggnfgghnfaaDoor.Pf.impl_firstRests.l1, Go.Proofs.YtmdaggnfgghnfaaDoor.Pf.impl_restsOf.f]
      rw [if_pos (by omega), if_neg (by omega), if_pos (by omega), if_pos (by omega), if_pos (by omega), if_pos (by omega), rdOf_wd, rdOf_wd, h1, Option.bind_some, ordered_eq _ (by omega), Option.bind_some, Option.bind_some, ← hcell, if_pos (by omega), wrap_succ j (by omega)]
      exact h
  · rintro i hi ⟨K, hK⟩
    refine ev_ge K fun k hk => ?_
    obtain ⟨k, rfl⟩ : ∃ q, k = q + 1 := ⟨k - 1, by omega⟩
    have h := hK k (by omega)
    simp only [] at h
    simp only [Go.Proofs.YtmdaggnfgghnfaaDoor.Pf.impl_firstRests.l1]
    rw [if_neg (by omega), wrap_succ i (by omega), part_row]
    exact h
theorem dlFirst_ev {set : List ByteArray} (hs : Short set) : Ev (fun k => Go.Proofs.YtmdaggnfgghnfaaDoor.Pf.spec_dlFirst.f k set) (fst set) := by
  have hl := hs.1
  have := two_loop set.length set.length (fun i j => ordW (part set.length (cell1 set) i j)) (fun k a i => Go.Proofs.YtmdaggnfgghnfaaDoor.Pf.spec_dlFirst.l0 k set a set (set.length : Int) (i : Int)) (fun k a i j => Go.Proofs.YtmdaggnfgghnfaaDoor.Pf.spec_dlFirst.l1 k set a (i : Int) (rdOf ByteArray.empty set (i : Int)) set (set.length : Int) (i : Int) set (set.length : Int) (j : Int)) (fst set) (fun i => by simp only [part_row]) ?_ ?_ ?_ ?_
  · rw [show ordW (part set.length (cell1 set) 0 0) = [] by simp [part, ord_nil]] at this
    exact this
  · refine ev_ge 0 fun k hk => ?_
    obtain ⟨k, rfl⟩ : ∃ q, k = q + 1 := ⟨k - 1, by omega⟩
    simp only [Go.Proofs.YtmdaggnfgghnfaaDoor.Pf.spec_dlFirst.l0]
    rw [if_neg (by omega)]
    rfl
  · rintro i hi ⟨K, hK⟩
    refine ev_ge K fun k hk => ?_
    obtain ⟨k, rfl⟩ : ∃ q, k = q + 1 := ⟨k - 1, by omega⟩
    have h := hK k (by omega)
    simp only [Go.Proofs.YtmdaggnfgghnfaaDoor.Pf.spec_dlFirst.l0]
    rw [if_pos (by omega), if_pos (by omega), if_pos (by omega)]
    exact h
  · rintro i j hi hj hK
    have hlen := part1_len hs (cell1_len hs) (i := i) (j := j) (by omega) (by omega)
    have hc := cell1_len hs i j
    by_cases e : i = j
    · obtain ⟨K, hK⟩ := hK
      refine ev_ge K fun k hk => ?_
      obtain ⟨k, rfl⟩ : ∃ q, k = q + 1 := ⟨k - 1, by omega⟩
      have h := hK k (by omega)
      simp only [] at h
      rw [part_col, show cell1 set i j = [] by simp [cell1, e], List.append_nil] at h
      simp only [Go.Proofs.YtmdaggnfgghnfaaDoor.Pf.spec_dlFirst.l1]
      rw [if_pos (by omega), if_pos (by omega), if_pos (by omega), if_pos (by omega), wrap_succ j (by omega)]
      exact h
    · obtain ⟨K1, h1⟩ := dlBegin_ev hs (wd set i) (wd set j) (short_wd hs hi)
      have hcell : cell1 set i j = beh set (wd set i) (wd set j) := by simp [cell1, e]
      simp only [part_col] at hK
      rw [← hcell] at h1
      rw [← ord_app_ord] at hK
      have hle := ordW_le (cell1 set i j)
      obtain ⟨K3, h3⟩ := put_all (ordW (cell1 set i j)) (fun k acc q => Go.Proofs.YtmdaggnfgghnfaaDoor.Pf.spec_dlFirst.l2 k set acc (i : Int) (rdOf ByteArray.empty set (i : Int)) set (set.length : Int) (i : Int) set (set.length : Int) (j : Int) (ordW (cell1 set i j)) ((ordW (cell1 set i j)).length : Int) q)
        (fun k acc => Go.Proofs.YtmdaggnfgghnfaaDoor.Pf.spec_dlFirst.l1 k set acc (i : Int) (rdOf ByteArray.empty set (i : Int)) set (set.length : Int) (i : Int) set (set.length : Int) (wrap64 ((j : Int) + 1)))
        (fun k acc q => by simp only [Go.Proofs.YtmdaggnfgghnfaaDoor.Pf.spec_dlFirst.l2]) (part set.length (cell1 set) i j) (by omega) (fst set) (by rw [wrap_succ j (by omega)]; exact hK)
      refine ev_ge (max K3 K1) fun k hk => ?_
      obtain ⟨k, rfl⟩ : ∃ q, k = q + 1 := ⟨k - 1, by omega⟩
      have h3 := h3 k (by omega)
      have h1 := h1 k (by omega)
      simp only [] at h3 h1
      simp only [Go.Proofs.YtmdaggnfgghnfaaDoor.Pf.spec_dlFirst.l1]
      rw [if_pos (by omega), if_pos (by omega), if_pos (by omega), if_neg (by omega), rdOf_wd, rdOf_wd, h1, Option.bind_some]
      rw [rdOf_wd] at h3
      exact h3
  · rintro i hi ⟨K, hK⟩
    refine ev_ge K fun k hk => ?_
    obtain ⟨k, rfl⟩ : ∃ q, k = q + 1 := ⟨k - 1, by omega⟩
    have h := hK k (by omega)
    simp only [] at h
    simp only [Go.Proofs.YtmdaggnfgghnfaaDoor.Pf.spec_dlFirst.l1]
    rw [if_neg (by omega), wrap_succ i (by omega), part_row]
    exact h

/-! ### the next ones -/
def cell2 (set rests : List ByteArray) (i j : Nat) : List ByteArray := beh set (wd set j) (wd rests i)
def nxt (set rests : List ByteArray) : List ByteArray := ordW (part set.length (cell2 set rests) rests.length 0)
theorem part2_len {set rests : List ByteArray} (hs : Short set) (hr : rests.length ≤ 96) {i j : Nat} (hi : i ≤ rests.length) (hj : j ≤ set.length) : (part set.length (cell2 set rests) i j).length ≤ 6500000000000 := by
  have h1 := part_len set.length (cell2 set rests) 5159780352 (fun i j => beh_len hs _ _) i j
  have hl := hs.1
  have h2 : i * set.length ≤ 96 * 12 := Nat.mul_le_mul (by omega) (by omega)
  have h3 : (i * set.length + j) * 5159780352 ≤ 1164 * 5159780352 := Nat.mul_le_mul_right _ (by omega)
  omega
theorem nextRests_ev {set rests : List ByteArray} (hs : Short set) (hr : rests.length ≤ 96) : Ev (fun k => Go.Proofs.YtmdaggnfgghnfaaDoor.Pf.impl_nextRests.f k set rests) (nxt set rests) := by
  have hl := hs.1
  have := two_loop rests.length set.length (part set.length (cell2 set rests)) (fun k a i => Go.Proofs.YtmdaggnfgghnfaaDoor.Pf.impl_nextRests.l0 k set a rests (rests.length : Int) (i : Int)) (fun k a i j => Go.Proofs.YtmdaggnfgghnfaaDoor.Pf.impl_nextRests.l1 k set a (rdOf ByteArray.empty rests (i : Int)) rests (rests.length : Int) (i : Int) set (set.length : Int) (j : Int)) (nxt set rests) (part_row _ _) ?_ ?_ ?_ ?_
  · exact this
  · refine ev_ge 0 fun k hk => ?_
    obtain ⟨k, rfl⟩ : ∃ q, k = q + 1 := ⟨k - 1, by omega⟩
    simp only [Go.Proofs.YtmdaggnfgghnfaaDoor.Pf.impl_nextRests.l0]
    rw [if_neg (by omega), ordered_eq _ (by have := part2_len hs hr (i := rests.length) (j := 0) (Nat.le_refl _) (by omega); omega)]
    rfl
  · rintro i hi ⟨K, hK⟩
    refine ev_ge K fun k hk => ?_
    obtain ⟨k, rfl⟩ : ∃ q, k = q + 1 := ⟨k - 1, by omega⟩
    have h := hK k (by omega)
    simp only [Go.Proofs.YtmdaggnfgghnfaaDoor.Pf.impl_nextRests.l0]
    rw [if_pos (by omega), if_pos (by omega), if_pos (by omega)]
    exact h
  · rintro i j hi hj ⟨K, hK⟩
    have hlen := part2_len hs hr (i := i) (j := j) (by omega) (by omega)
    obtain ⟨K1, h1⟩ := behind_ev hs (wd set j) (wd rests i) (short_wd hs hj)
    have hb := beh_len hs (wd set j) (wd rests i)
    refine ev_ge (max K K1) fun k hk => ?_
    obtain ⟨k, rfl⟩ : ∃ q, k = q + 1 := ⟨k - 1, by omega⟩
    have h := hK k (by omega)
    have h1 := h1 k (by omega)
    simp only [] at h h1
    rw [part_col, show cell2 set rests i j = beh set (wd set j) (wd rests i) from rfl, rdOf_wd] at h
    simp only [Go.Proofs.YtmdaggnfgghnfaaDoor.Pf.impl_nextRests.l1]
    rw [if_pos (by omega), if_pos (by omega), if_pos (by omega), rdOf_wd, rdOf_wd, h1, Option.bind_some, if_pos (by omega), wrap_succ j (by omega)]
    exact h
  · rintro i hi ⟨K, hK⟩
    refine ev_ge K fun k hk => ?_
    obtain ⟨k, rfl⟩ : ∃ q, k = q + 1 := ⟨k - 1, by omega⟩
    have h := hK k (by omega)
    simp only [] at h
    simp only [Go.Proofs.YtmdaggnfgghnfaaDoor.Pf.impl_nextRests.l1]
    rw [if_neg (by omega), wrap_succ i (by omega), part_row]
    exact h
theorem dlNext_ev {set rests : List ByteArray} (hs : Short set) (hr : rests.length ≤ 96) : Ev (fun k => Go.Proofs.YtmdaggnfgghnfaaDoor.Pf.spec_dlNext.f k set rests) (nxt set rests) := by
  have hl := hs.1
  have := two_loop rests.length set.length (fun i j => ordW (part set.length (cell2 set rests) i j)) (fun k a i => Go.Proofs.YtmdaggnfgghnfaaDoor.Pf.spec_dlNext.l0 k set a rests (rests.length : Int) (i : Int)) (fun k a i j => Go.Proofs.YtmdaggnfgghnfaaDoor.Pf.spec_dlNext.l1 k set a (rdOf ByteArray.empty rests (i : Int)) rests (rests.length : Int) (i : Int) set (set.length : Int) (j : Int)) (nxt set rests) (fun i => by simp only [part_row]) ?_ ?_ ?_ ?_
  · rw [show ordW (part set.length (cell2 set rests) 0 0) = [] by simp [part, ord_nil]] at this
    exact this
  · refine ev_ge 0 fun k hk => ?_
    obtain ⟨k, rfl⟩ : ∃ q, k = q + 1 := ⟨k - 1, by omega⟩
    simp only [Go.Proofs.YtmdaggnfgghnfaaDoor.Pf.spec_dlNext.l0]
    rw [if_neg (by omega)]
    rfl
  · rintro i hi ⟨K, hK⟩
    refine ev_ge K fun k hk => ?_
    obtain ⟨k, rfl⟩ : ∃ q, k = q + 1 := ⟨k - 1, by omega⟩
    have h := hK k (by omega)
    simp only [Go.Proofs.YtmdaggnfgghnfaaDoor.Pf.spec_dlNext.l0]
    rw [if_pos (by omega), if_pos (by omega), if_pos (by omega)]
    exact h
  · rintro i j hi hj hK
    have hlen := part2_len hs hr (i := i) (j := j) (by omega) (by omega)
    have hw := short_wd hs hj
    have hb := beh_len hs (wd set j) (wd rests i)
    simp only [part_col, rdOf_wd] at hK
    rw [show cell2 set rests i j = beh set (wd set j) (wd rests i) from rfl] at hK
    by_cases b1 : bg (wd rests i) (wd set j) = true
    · have hz := bg_size b1
      rw [show beh set (wd set j) (wd rests i) = [rest (wd rests i) (wd set j)] by simp [beh, b1]] at hK
      obtain ⟨K1, h1⟩ := wdPut_ev (ordW (part set.length (cell2 set rests) i j)) (rest (wd rests i) (wd set j)) (ordW_str _) (by have := ordW_le (part set.length (cell2 set rests) i j); omega)
      obtain ⟨K, hK⟩ := hK
      refine ev_ge (max K K1) fun k hk => ?_
      obtain ⟨k, rfl⟩ : ∃ q, k = q + 1 := ⟨k - 1, by omega⟩
      have h := hK k (by omega)
      have h1 := h1 k (by omega)
      simp only [] at h h1
      rw [put_ord] at h1
      simp only [Go.Proofs.YtmdaggnfgghnfaaDoor.Pf.spec_dlNext.l1]
      rw [if_pos (by omega), if_pos (by omega), if_pos (by omega), rdOf_wd, rdOf_wd, wdBegins_eq, Option.bind_some, if_pos b1, if_pos (by omega), if_pos (by omega), Int.toNat_natCast, show (wd rests i).extract (wd set j).size (wd rests i).size = rest (wd rests i) (wd set j) from rfl, h1, Option.bind_some, wrap_succ j (by omega)]
      exact h
    · have b1' : bg (wd rests i) (wd set j) = false := by simpa using b1
      by_cases b2 : bg (wd set j) (wd rests i) = true
      · have hz := bg_less b1' b2
        rw [show beh set (wd set j) (wd rests i) = cov 9 set (rest (wd set j) (wd rests i)) by simp [beh, b1', b2]] at hK hb
        obtain ⟨K1, h1⟩ := dlCover_ev hs 9 (rest (wd set j) (wd rests i)) (by omega) (by rw [rest_size]; omega) (by rw [rest_size]; omega)
        rw [← ord_app_ord] at hK
        have hle := ordW_le (cov 9 set (rest (wd set j) (wd rests i)))
        obtain ⟨K3, h3⟩ := put_all (ordW (cov 9 set (rest (wd set j) (wd rests i)))) (fun k acc q => Go.Proofs.YtmdaggnfgghnfaaDoor.Pf.spec_dlNext.l2 k set acc (wd rests i) rests (rests.length : Int) (i : Int) set (set.length : Int) (j : Int) (ordW (cov 9 set (rest (wd set j) (wd rests i)))) ((ordW (cov 9 set (rest (wd set j) (wd rests i)))).length : Int) q)
          (fun k acc => Go.Proofs.YtmdaggnfgghnfaaDoor.Pf.spec_dlNext.l1 k set acc (wd rests i) rests (rests.length : Int) (i : Int) set (set.length : Int) (wrap64 ((j : Int) + 1)))
          (fun k acc q => by simp only [Go.Proofs.YtmdaggnfgghnfaaDoor.Pf.spec_dlNext.l2]) (part set.length (cell2 set rests) i j) (by omega) (nxt set rests) (by rw [wrap_succ j (by omega)]; exact hK)
        refine ev_ge (max K3 K1) fun k hk => ?_
        obtain ⟨k, rfl⟩ : ∃ q, k = q + 1 := ⟨k - 1, by omega⟩
        have h3 := h3 k (by omega)
        have h1 := h1 k (by omega)
        simp only [] at h3 h1
        simp only [Go.Proofs.YtmdaggnfgghnfaaDoor.Pf.spec_dlNext.l1]
        rw [if_pos (by omega), if_pos (by omega), if_pos (by omega), rdOf_wd, rdOf_wd, wdBegins_eq, Option.bind_some, if_neg b1, wdBegins_eq, Option.bind_some, if_pos b2, if_pos (by omega), if_pos (by omega), Int.toNat_natCast, show (wd set j).extract (wd rests i).size (wd set j).size = rest (wd set j) (wd rests i) from rfl, h1, Option.bind_some]
        exact h3
      · rw [show beh set (wd set j) (wd rests i) = [] by simp [beh, b1, b2], List.append_nil] at hK
        obtain ⟨K, hK⟩ := hK
        refine ev_ge K fun k hk => ?_
        obtain ⟨k, rfl⟩ : ∃ q, k = q + 1 := ⟨k - 1, by omega⟩
        have h := hK k (by omega)
        simp only [] at h
        simp only [Go.Proofs.YtmdaggnfgghnfaaDoor.Pf.spec_dlNext.l1]
        rw [if_pos (by omega), if_pos (by omega), if_pos (by omega), rdOf_wd, rdOf_wd, wdBegins_eq, Option.bind_some, if_neg b1, wdBegins_eq, Option.bind_some, if_neg b2, wrap_succ j (by omega)]
        exact h
  · rintro i hi ⟨K, hK⟩
    refine ev_ge K fun k hk => ?_
    obtain ⟨k, rfl⟩ : ∃ q, k = q + 1 := ⟨k - 1, by omega⟩
    have h := hK k (by omega)
    simp only [] at h
    simp only [Go.Proofs.YtmdaggnfgghnfaaDoor.Pf.spec_dlNext.l1]
    rw [if_neg (by omega), wrap_succ i (by omega), part_row]
    exact h
end Go.Proofs.YtmdaggnfgghnfaaDoor.DlQ
