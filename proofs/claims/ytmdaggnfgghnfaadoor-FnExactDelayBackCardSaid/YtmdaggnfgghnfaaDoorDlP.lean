/- Rests in plain terms: both sides have the same ones. -/
import Derived.Test.YtmdaggnfgghnfaaDoorOrd
import Derived.Test.YtmdaggnfgghnfaaDoorPfM0
import Derived.Test.YtmdaggnfgghnfaaDoorPfM1
namespace Go.Proofs.YtmdaggnfgghnfaaDoor.DlP
open Go.RowKit Go.Proofs.YtmdaggnfgghnfaaDoorW.PrintWords Go.Proofs.YtmdaggnfgghnfaaDoorW.PrintLast Go.Proofs.YtmdaggnfgghnfaaDoorW.PrintMore Go.Proofs.YtmdaggnfgghnfaaDoor.Wd Go.Proofs.YtmdaggnfgghnfaaDoor.Wset Go.Proofs.YtmdaggnfgghnfaaDoor.SortS Go.Proofs.YtmdaggnfgghnfaaDoor.Ord
set_option linter.unusedVariables false
set_option linter.unusedSimpArgs false

/-- s begins with t. -/
def bg (s t : ByteArray) : Bool := decide (t.size ≤ s.size) && ((s.extract 0 t.size).toList == t.toList)
def rest (s t : ByteArray) : ByteArray := s.extract t.size s.size
theorem bg_size {s t : ByteArray} (h : bg s t = true) : t.size ≤ s.size := by
  simp only [bg, Bool.and_eq_true, decide_eq_true_eq] at h
  exact h.1
theorem bg_same {s t : ByteArray} (h : bg s t = true) (hs : s.size = t.size) : s = t := by
  simp only [bg, Bool.and_eq_true, decide_eq_true_eq, beq_iff_eq] at h
  have h2 := h.2
  rw [ByteArray.toList_eq, ByteArray.toList_eq] at h2
  have h3 := Go.WideShapes.bytes_inj h2
  rw [← hs] at h3
  have : s.extract 0 s.size = s := by
    apply Go.WideShapes.bytes_inj
    rw [ByteArray.data_extract]
    simp
    exact List.take_of_length_le (by simp)
  rw [this] at h3
  exact h3
theorem bg_self (s : ByteArray) : bg s s = true := by
  simp only [bg, Bool.and_eq_true, decide_eq_true_eq, beq_iff_eq]
  refine ⟨Nat.le_refl _, ?_⟩
  rw [ByteArray.toList_eq, ByteArray.toList_eq, ByteArray.data_extract]
  simp
  exact List.take_of_length_le (by simp)
theorem rest_size (s t : ByteArray) : (rest s t).size = s.size - t.size := by
  unfold rest
  rw [ByteArray.size_extract]
  omega
theorem bg_less {s t : ByteArray} (h1 : bg s t = false) (h2 : bg t s = true) : s.size < t.size := by
  have := bg_size h2
  by_cases e : t.size = s.size
  · rw [bg_same h2 e, bg_self] at h1
    cases h1
  · omega
theorem wdBegins_eq (s t : ByteArray) : Go.Proofs.YtmdaggnfgghnfaaDoor.Pf.spec_wdBegins.f s t = some (bg s t) := by
  unfold Go.Proofs.YtmdaggnfgghnfaaDoor.Pf.spec_wdBegins.f bg
  by_cases h : t.size ≤ s.size
  · rw [if_pos (by omega), if_pos (by omega)]
    simp [h]
  · rw [if_neg (by omega)]
    simp [h]
theorem cut_eq (s t : ByteArray) : Go.Proofs.YtmdaggnfgghnfaaDoor.Pf.strings_CutPrefix.f s t = some (if bg s t = true then (rest s t, true) else (s, false)) := by
  unfold Go.Proofs.YtmdaggnfgghnfaaDoor.Pf.strings_CutPrefix.f Go.Proofs.YtmdaggnfgghnfaaDoor.Pf.stringslite_CutPrefix.f Go.Proofs.YtmdaggnfgghnfaaDoor.Pf.stringslite_HasPrefix.f bg rest
  by_cases h : t.size ≤ s.size
  · rw [if_pos (by omega), if_pos (by omega), if_pos (by omega), Option.bind_some]
    simp only [h, decide_true, Bool.true_and, Int.toNat_natCast]
    cases hb : (s.extract 0 t.size).toList == t.toList with
    | true =>
      rw [if_pos rfl, if_pos (by omega), if_pos (by omega), if_pos rfl]
      rfl
    | false =>
      rw [if_neg (by decide), if_neg (by decide)]
      rfl
  · rw [if_neg (by omega), Option.bind_some]
    simp [h]

/-- What is left of words put behind each other until they begin with f. -/
def cov : Nat → List ByteArray → ByteArray → List ByteArray
  | 0, _, _ => []
  | n + 1, set, f => set.flatMap fun z => if bg z f = true then [rest z f] else if bg f z = true then cov n set (rest f z) else []
def Short (set : List ByteArray) : Prop := set.length ≤ 12 ∧ ∀ z ∈ set, 1 ≤ z.size ∧ z.size ≤ 8
theorem flatMap_len {α β : Type} (f : α → List β) (B : Nat) : ∀ l : List α, (∀ a ∈ l, (f a).length ≤ B) → (l.flatMap f).length ≤ l.length * B
  | [], _ => by simp
  | a :: l, h => by
    have ih := flatMap_len f B l (fun x hx => h x (List.mem_cons_of_mem _ hx))
    have h0 := h a List.mem_cons_self
    simp only [List.flatMap_cons, List.length_append, List.length_cons, Nat.succ_mul]
    omega
theorem cov_len {set : List ByteArray} (hs : set.length ≤ 12) : ∀ (n : Nat) (f : ByteArray), (cov n set f).length ≤ 12 ^ n
  | 0, f => by simp [cov]
  | n + 1, f => by
    have := flatMap_len (fun z => if bg z f = true then [rest z f] else if bg f z = true then cov n set (rest f z) else []) (12 ^ n) set (fun z hz => by
      split
      · simp only [List.length_singleton]
        exact Nat.pow_pos (by omega)
      · split
        · exact cov_len hs n _
        · exact Nat.zero_le _)
    have h2 : set.length * 12 ^ n ≤ 12 * 12 ^ n := Nat.mul_le_mul_right _ hs
    have h3 : 12 ^ (n + 1) = 12 * 12 ^ n := by rw [Nat.pow_succ]; exact Nat.mul_comm _ _
    simp only [cov]
    omega
theorem flat_drop {α β : Type} (g : α → List β) (l : List α) (i : Nat) (h : i < l.length) : (l.drop i).flatMap g = g l[i] ++ (l.drop (i + 1)).flatMap g := by
  rw [List.drop_eq_getElem_cons h, List.flatMap_cons]
theorem flat_take {α β : Type} (g : α → List β) (l : List α) (i : Nat) (h : i < l.length) : (l.take (i + 1)).flatMap g = (l.take i).flatMap g ++ g l[i] := by
  rw [List.take_succ_eq_append_getElem h, List.flatMap_append]
  simp
theorem take_len {α β : Type} (g : α → List β) (B : Nat) (l : List α) (i : Nat) (hl : l.length ≤ 12) (h : ∀ a ∈ l, (g a).length ≤ B) : ((l.take i).flatMap g).length ≤ 12 * B := by
  have := flatMap_len g B (l.take i) (fun a ha => h a (List.mem_of_mem_take ha))
  have h2 : (l.take i).length * B ≤ 12 * B := Nat.mul_le_mul_right _ (by rw [List.length_take]; omega)
  omega
theorem pow_bd {n : Nat} (hn : n ≤ 9) : 12 ^ n ≤ 5159780352 := Nat.le_trans (Nat.pow_le_pow_right (by omega) hn) (by decide)

theorem cover_ev {set : List ByteArray} (hs : Short set) : ∀ (n : Nat) (f : ByteArray), n ≤ 9 → f.size < n → Ev (fun k => Go.Proofs.YtmdaggnfgghnfaaDoor.Pf.impl_cover.f k set f) (cov n set f)
  | 0, f, _, h => by omega
  | n + 1, f, hn, hf => by
    have hl := hs.1
    have hB := pow_bd (n := n) (by omega)
    have key : ∀ (j i : Nat), i + j = set.length → Ev (fun k => Go.Proofs.YtmdaggnfgghnfaaDoor.Pf.impl_cover.l0 k set f ((set.take i).flatMap fun z => if bg z f = true then [rest z f] else if bg f z = true then cov n set (rest f z) else []) set (set.length : Int) (i : Int)) (cov (n + 1) set f) := by
      intro j
      induction j with
      | zero =>
        intro i hi
        refine ev_ge 0 fun k hk => ?_
        obtain ⟨k, rfl⟩ : ∃ q, k = q + 1 := ⟨k - 1, by omega⟩
        simp only [Go.Proofs.YtmdaggnfgghnfaaDoor.Pf.impl_cover.l0]
        rw [if_neg (by omega), List.take_of_length_le (by omega)]
        rfl
      | succ j ih =>
        intro i hi
        have hlt : i < set.length := by omega
        obtain ⟨z1, z2⟩ := hs.2 _ (List.getElem_mem hlt)
        have hlen := take_len (fun z => if bg z f = true then [rest z f] else if bg f z = true then cov n set (rest f z) else []) (12 ^ n) set i hl (fun z hz => by
          split
          · simp only [List.length_singleton]
            exact Nat.pow_pos (by omega)
          · split
            · exact cov_len hl n _
            · exact Nat.zero_le _)
        have hq := cov_len hl n (rest f set[i])
        obtain ⟨K2, h2⟩ := ih (i + 1) (by omega)
        rw [flat_take _ _ _ hlt] at h2
        by_cases b1 : bg set[i] f = true
        · refine ev_ge K2 fun k hk => ?_
          obtain ⟨k, rfl⟩ : ∃ q, k = q + 1 := ⟨k - 1, by omega⟩
          have h2' := h2 k (by omega)
          simp only [b1, if_true] at h2'
          simp only [Go.Proofs.YtmdaggnfgghnfaaDoor.Pf.impl_cover.l0]
          rw [if_pos (by omega), if_pos (by omega), if_pos (by omega), rdOf_lt set i hlt, cut_eq, if_pos b1, Option.bind_some, if_pos rfl, if_pos (by omega), wrap_succ i (by omega)]
          exact h2'
        · have b1' : bg set[i] f = false := by simpa using b1
          by_cases b2 : bg f set[i] = true
          · have hless := bg_size b2
            obtain ⟨K1, h1⟩ := cover_ev hs n (rest f set[i]) (by omega) (by rw [rest_size]; omega)
            refine ev_ge (max K1 K2) fun k hk => ?_
            obtain ⟨k, rfl⟩ : ∃ q, k = q + 1 := ⟨k - 1, by omega⟩
            have h1' := h1 k (by omega)
            have h2' := h2 k (by omega)
            simp only [b1', b2, if_true, Bool.false_eq_true, if_false] at h1' h2'
            simp only [Go.Proofs.YtmdaggnfgghnfaaDoor.Pf.impl_cover.l0]
            rw [if_pos (by omega), if_pos (by omega), if_pos (by omega), rdOf_lt set i hlt, cut_eq, if_neg b1, Option.bind_some, if_neg Bool.false_ne_true, cut_eq, if_pos b2, Option.bind_some, if_pos rfl, h1', Option.bind_some, if_pos (by omega), wrap_succ i (by omega)]
            exact h2'
          · have b2' : bg f set[i] = false := by simpa using b2
            refine ev_ge K2 fun k hk => ?_
            obtain ⟨k, rfl⟩ : ∃ q, k = q + 1 := ⟨k - 1, by omega⟩
            have h2' := h2 k (by omega)
            simp only [b1', b2', Bool.false_eq_true, if_false, List.append_nil] at h2'
            simp only [Go.Proofs.YtmdaggnfgghnfaaDoor.Pf.impl_cover.l0]
            rw [if_pos (by omega), if_pos (by omega), if_pos (by omega), rdOf_lt set i hlt, cut_eq, if_neg b1, Option.bind_some, if_neg Bool.false_ne_true, cut_eq, if_neg b2, Option.bind_some, if_neg Bool.false_ne_true, wrap_succ i (by omega)]
            exact h2'
    obtain ⟨K, hK⟩ := key set.length 0 (by omega)
    refine ev_ge K fun k hk => ?_
    obtain ⟨k, rfl⟩ : ∃ q, k = q + 1 := ⟨k - 1, by omega⟩
    have := hK k (by omega)
    simp only [List.take_zero, List.flatMap_nil] at this
    simp only [Go.Proofs.YtmdaggnfgghnfaaDoor.Pf.impl_cover.f]
    exact this

/-! ### the reference's side -/
/-- A loop that puts all words of a list in. -/
theorem put_all {β : Type} (t : List ByteArray) (F : Nat → List ByteArray → Int → Option β) (G : Nat → List ByteArray → Option β)
    (hF : ∀ k acc (j : Nat), F (k + 1) acc (j : Int) = if (j : Int) < (t.length : Int) then (if 0 ≤ (j : Int) then (if (j : Int) < (t.length : Int) then (Go.Proofs.YtmdaggnfgghnfaaDoor.Pf.spec_wdPut.f k acc (rdOf ByteArray.empty t (j : Int))).bind fun a => F k a (wrap64 ((j : Int) + 1)) else none) else none) else G k acc)
    (L : List ByteArray) (hb : L.length + t.length ≤ 8000000000000) (r : β) (hG : Ev (fun k => G k (ordW (L ++ t))) r) : Ev (fun k => F k (ordW L) 0) r := by
  have key : ∀ (n j : Nat), j + n = t.length → Ev (fun k => F k (ordW (L ++ t.take j)) (j : Int)) r := by
    intro n
    induction n with
    | zero =>
      intro j hj
      obtain ⟨K, hK⟩ := hG
      refine ev_ge K fun k hk => ?_
      obtain ⟨k, rfl⟩ : ∃ q, k = q + 1 := ⟨k - 1, by omega⟩
      have := hK k (by omega)
      simp only [] at this
      rw [hF, if_neg (by omega), List.take_of_length_le (by omega)]
      exact this
    | succ n ih =>
      intro j hj
      have hlt : j < t.length := by omega
      obtain ⟨K2, h2⟩ := ih (j + 1) (by omega)
      have hle := ordW_le (L ++ t.take j)
      rw [List.length_append, List.length_take] at hle
      obtain ⟨K1, h1⟩ := wdPut_ev (ordW (L ++ t.take j)) t[j] (ordW_str _) (by omega)
      refine ev_ge (max K1 K2) fun k hk => ?_
      obtain ⟨k, rfl⟩ : ∃ q, k = q + 1 := ⟨k - 1, by omega⟩
      have h1' := h1 k (by omega)
      have h2' := h2 k (by omega)
      simp only [] at h1' h2'
      rw [put_ord, List.append_assoc] at h1'
      rw [List.take_succ_eq_append_getElem hlt] at h2'
      rw [hF, if_pos (by omega), if_pos (by omega), if_pos (by omega), rdOf_lt t j hlt, h1', Option.bind_some, wrap_succ j (by omega)]
      exact h2'
  have := key t.length 0 (by omega)
  rw [List.take_zero, List.append_nil] at this
  exact this
theorem ord_app_ord (L C : List ByteArray) : ordW (L ++ ordW C) = ordW (L ++ C) := ordW_congr fun x => by simp only [List.mem_append, mem_ordW]
theorem ord_ord_app (L C : List ByteArray) : ordW (ordW L ++ C) = ordW (L ++ C) := ordW_congr fun x => by simp only [List.mem_append, mem_ordW]
theorem nil_size (s : ByteArray) : s.toList = [] ↔ s.size = 0 := by
  rw [ByteArray.toList_eq]
  have := size_len s
  constructor
  · intro h; rw [h] at this; simpa using this.symm
  · intro h; exact List.length_eq_zero_iff.1 (by omega)

theorem dlCover_ev {set : List ByteArray} (hs : Short set) : ∀ (n : Nat) (f : ByteArray), n ≤ 9 → f.size < n → 1 ≤ f.size → Ev (fun k => Go.Proofs.YtmdaggnfgghnfaaDoor.Pf.spec_dlCover.f k set f) (ordW (cov n set f))
  | 0, f, _, h, _ => by omega
  | n + 1, f, hn, hf, hf1 => by
    have hl := hs.1
    have hB := pow_bd (n := n) (by omega)
    have key : ∀ (j i : Nat), i + j = set.length → Ev (fun k => Go.Proofs.YtmdaggnfgghnfaaDoor.Pf.spec_dlCover.l0 k set f (ordW ((set.take i).flatMap fun z => if bg z f = true then [rest z f] else if bg f z = true then cov n set (rest f z) else [])) set (set.length : Int) (i : Int)) (ordW (cov (n + 1) set f)) := by
      intro j
      induction j with
      | zero =>
        intro i hi
        refine ev_ge 0 fun k hk => ?_
        obtain ⟨k, rfl⟩ : ∃ q, k = q + 1 := ⟨k - 1, by omega⟩
        simp only [Go.Proofs.YtmdaggnfgghnfaaDoor.Pf.spec_dlCover.l0]
        rw [if_neg (by omega), List.take_of_length_le (by omega)]
        rfl
      | succ j ih =>
        intro i hi
        have hlt : i < set.length := by omega
        obtain ⟨z1, z2⟩ := hs.2 _ (List.getElem_mem hlt)
        have hlen := take_len (fun z => if bg z f = true then [rest z f] else if bg f z = true then cov n set (rest f z) else []) (12 ^ n) set i hl (fun z hz => by
          split
          · simp only [List.length_singleton]
            exact Nat.pow_pos (by omega)
          · split
            · exact cov_len hl n _
            · exact Nat.zero_le _)
        have hle := ordW_le ((set.take i).flatMap fun z => if bg z f = true then [rest z f] else if bg f z = true then cov n set (rest f z) else [])
        have hq := cov_len hl n (rest f set[i])
        have hq2 := ordW_le (cov n set (rest f set[i]))
        have h2 := ih (i + 1) (by omega)
        rw [flat_take _ _ _ hlt] at h2
        by_cases b1 : bg set[i] f = true
        · have hfs := bg_size b1
          obtain ⟨K1, h1⟩ := wdPut_ev (ordW ((set.take i).flatMap fun z => if bg z f = true then [rest z f] else if bg f z = true then cov n set (rest f z) else [])) (rest set[i] f) (ordW_str _) (by omega)
          obtain ⟨K2, h2⟩ := h2
          refine ev_ge (max K1 K2) fun k hk => ?_
          obtain ⟨k, rfl⟩ : ∃ q, k = q + 1 := ⟨k - 1, by omega⟩
          have h1' := h1 k (by omega)
          have h2' := h2 k (by omega)
          simp only [] at h1' h2'
          rw [put_ord] at h1'
          rw [if_pos b1] at h2'
          simp only [Go.Proofs.YtmdaggnfgghnfaaDoor.Pf.spec_dlCover.l0]
          rw [if_pos (by omega), if_pos (by omega), if_pos (by omega), rdOf_lt set i hlt, wdBegins_eq, Option.bind_some, if_pos b1, if_pos (by omega), if_pos (by omega), Int.toNat_natCast]
          rw [show set[i].extract f.size set[i].size = rest set[i] f from rfl, h1', Option.bind_some, wrap_succ i (by omega)]
          exact h2'
        · have b1' : bg set[i] f = false := by simpa using b1
          by_cases b2 : bg f set[i] = true
          · have hless := bg_less b1' b2
            obtain ⟨K1, h1⟩ := dlCover_ev hs n (rest f set[i]) (by omega) (by rw [rest_size]; omega) (by rw [rest_size]; omega)
            rw [if_neg b1, if_pos b2, ← ord_app_ord] at h2
            have h3 := put_all (ordW (cov n set (rest f set[i]))) (fun k acc j => Go.Proofs.YtmdaggnfgghnfaaDoor.Pf.spec_dlCover.l1 k set f acc set (set.length : Int) (i : Int) (ordW (cov n set (rest f set[i]))) ((ordW (cov n set (rest f set[i]))).length : Int) j) (fun k acc => Go.Proofs.YtmdaggnfgghnfaaDoor.Pf.spec_dlCover.l0 k set f acc set (set.length : Int) (wrap64 ((i : Int) + 1)))
              (fun k acc j => by simp only [Go.Proofs.YtmdaggnfgghnfaaDoor.Pf.spec_dlCover.l1]) ((set.take i).flatMap fun z => if bg z f = true then [rest z f] else if bg f z = true then cov n set (rest f z) else []) (by omega) (ordW (cov (n + 1) set f)) (by rw [wrap_succ i (by omega)]; exact h2)
            obtain ⟨K3, h3⟩ := h3
            refine ev_ge (max K1 K3) fun k hk => ?_
            obtain ⟨k, rfl⟩ : ∃ q, k = q + 1 := ⟨k - 1, by omega⟩
            have h1' := h1 k (by omega)
            have h3' := h3 k (by omega)
            simp only [] at h1' h3'
            simp only [Go.Proofs.YtmdaggnfgghnfaaDoor.Pf.spec_dlCover.l0]
            rw [if_pos (by omega), if_pos (by omega), if_pos (by omega), rdOf_lt set i hlt, wdBegins_eq, Option.bind_some, if_neg b1, wdBegins_eq, Option.bind_some, if_pos b2, if_pos (by omega), if_pos (by omega), Int.toNat_natCast]
            rw [show f.extract set[i].size f.size = rest f set[i] from rfl, h1', Option.bind_some]
            exact h3'
          · rw [if_neg b1, if_neg b2, List.append_nil] at h2
            obtain ⟨K2, h2⟩ := h2
            refine ev_ge K2 fun k hk => ?_
            obtain ⟨k, rfl⟩ : ∃ q, k = q + 1 := ⟨k - 1, by omega⟩
            have h2' := h2 k (by omega)
            simp only [] at h2'
            simp only [Go.Proofs.YtmdaggnfgghnfaaDoor.Pf.spec_dlCover.l0]
            rw [if_pos (by omega), if_pos (by omega), if_pos (by omega), rdOf_lt set i hlt, wdBegins_eq, Option.bind_some, if_neg b1, wdBegins_eq, Option.bind_some, if_neg b2, wrap_succ i (by omega)]
            exact h2'
    obtain ⟨K, hK⟩ := key set.length 0 (by omega)
    refine ev_ge K fun k hk => ?_
    obtain ⟨k, rfl⟩ : ∃ q, k = q + 1 := ⟨k - 1, by omega⟩
    have := hK k (by omega)
    simp only [List.take_zero, List.flatMap_nil, ord_nil] at this
    simp only [Go.Proofs.YtmdaggnfgghnfaaDoor.Pf.spec_dlCover.f]
    rw [if_neg (by rw [nil_size]; omega)]
    exact this
end Go.Proofs.YtmdaggnfgghnfaaDoor.DlP
