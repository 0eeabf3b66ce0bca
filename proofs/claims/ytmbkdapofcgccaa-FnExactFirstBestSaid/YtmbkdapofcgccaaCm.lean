/- What the small helpers of the laws and of both sides tell, in plain words: copies, equal lists, weights, letters. -/
import Derived.Test.YtmbkdapofcgccaaPr3
import Derived.Test.YtmbkdapofcgccaaPr11
namespace Go.Proofs.Ytmbkdapofcgccaa.Cm
open Go.RowKit Go.Proofs.YtmbkdapofcgccaaW.PrintWords Go.Proofs.YtmbkdapofcgccaaW.PrintLast Go.Proofs.YtmbkdapofcgccaaW.PrintMore
set_option linter.unusedVariables false
set_option linter.unusedSimpArgs false

theorem ev_bind {α β : Type} {g : Nat → Option α} {h : α → Nat → Option β} {x : α} {y : β} (hg : Ev g x) (hh : Ev (h x) y) : Ev (fun k => (g k).bind fun t => h t k) y := by
  obtain ⟨K1, h1⟩ := hg
  obtain ⟨K2, h2⟩ := hh
  refine ⟨max K1 K2, fun k hk => ?_⟩
  show (g k).bind _ = _
  rw [h1 k (by omega)]
  exact h2 k (by omega)
theorem ev_some {α : Type} (x : α) : Ev (fun _ => some x) x := ⟨0, fun _ _ => rfl⟩
theorem ev_of {α : Type} {g : Nat → Option α} {x : α} (h : ∀ k, g k = some x) : Ev g x := ⟨0, fun k _ => h k⟩
theorem ev_succ {α : Type} {g h : Nat → Option α} {x : α} (hg : Ev g x) (hs : ∀ k, h (k + 1) = g k) : Ev h x := by
  obtain ⟨K, hK⟩ := hg
  refine ⟨K + 1, fun k hk => ?_⟩
  obtain ⟨k, rfl⟩ : ∃ q, k = q + 1 := ⟨k - 1, by omega⟩
  rw [hs]
  exact hK k (by omega)

theorem rd_lt (l : List Int) (i : Nat) (h : i < l.length) : rd l (i : Int) = l[i] := by simp [rd, List.getD_eq_getElem?_getD, List.getElem?_eq_getElem h]
theorem wrap_succ (i : Nat) (h : i < 1000000000000000000) : wrap64 ((i : Int) + 1) = ((i + 1 : Nat) : Int) := by unfold wrap64; omega

/-- A copy is the list itself. -/
theorem toIntS_loop (x0 : List Int) (hl : x0.length ≤ 1048576) : ∀ (j i k : Nat) (x3 : List Int), i + j = x0.length → x3.length = x0.length → (∀ q, q < i → x3[q]? = x0[q]?) → j < k → Go.Proofs.Ytmbkdapofcgccaa.Pr.laws_toIntS.l0 k x0 x3 i = some x0 := by
  intro j
  induction j with
  | zero =>
    intro i k x3 hi h3 hq hk
    obtain ⟨k, rfl⟩ : ∃ q, k = q + 1 := ⟨k - 1, by omega⟩
    simp only [Go.Proofs.Ytmbkdapofcgccaa.Pr.laws_toIntS.l0]
    rw [if_neg (by omega)]
    congr 1
    apply List.ext_getElem?
    intro q
    by_cases hq' : q < i
    · exact hq q hq'
    · rw [List.getElem?_eq_none (by omega), List.getElem?_eq_none (by omega)]
  | succ j ih =>
    intro i k x3 hi h3 hq hk
    obtain ⟨k, rfl⟩ : ∃ q, k = q + 1 := ⟨k - 1, by omega⟩
    simp only [Go.Proofs.Ytmbkdapofcgccaa.Pr.laws_toIntS.l0]
    rw [if_pos (by omega), if_pos (by omega), if_pos (by omega), wrap_succ i (by omega)]
    refine ih (i + 1) k _ (by omega) (by simpa using h3) (fun q hq' => ?_) (by omega)
    rw [Int.toNat_natCast, rd_lt x0 i (by omega)]
    by_cases e : q = i
    · subst e
      rw [List.getElem?_set_self (by omega), List.getElem?_eq_getElem]
    · rw [List.getElem?_set_ne (by omega)]
      exact hq q (by omega)
theorem toIntS_ev (x0 : List Int) (hl : x0.length ≤ 1048576) : Ev (fun k => Go.Proofs.Ytmbkdapofcgccaa.Pr.laws_toIntS.f k x0) x0 := by
  refine ⟨x0.length + 1, fun k hk => ?_⟩
  show Go.Proofs.Ytmbkdapofcgccaa.Pr.laws_toIntS.f k x0 = _
  unfold Go.Proofs.Ytmbkdapofcgccaa.Pr.laws_toIntS.f
  rw [if_pos (by omega), if_pos (by omega)]
  exact toIntS_loop x0 hl x0.length 0 k _ (by omega) (by simp) (fun q hq => by omega) (by omega)

/-- A list is equal to itself. -/
theorem eqIntS_loop (x0 : List Int) (hl : x0.length ≤ 1048576) : ∀ (j i k : Nat), i + j = x0.length → j < k → Go.Proofs.Ytmbkdapofcgccaa.Pr.laws_eqIntS.l0 k x0 x0 i = some true := by
  intro j
  induction j with
  | zero =>
    intro i k hi hk
    obtain ⟨k, rfl⟩ : ∃ q, k = q + 1 := ⟨k - 1, by omega⟩
    simp only [Go.Proofs.Ytmbkdapofcgccaa.Pr.laws_eqIntS.l0]
    rw [if_neg (by omega)]
  | succ j ih =>
    intro i k hi hk
    obtain ⟨k, rfl⟩ : ∃ q, k = q + 1 := ⟨k - 1, by omega⟩
    simp only [Go.Proofs.Ytmbkdapofcgccaa.Pr.laws_eqIntS.l0]
    rw [if_pos (by omega), if_pos (by omega), if_pos (by omega), if_pos trivial, wrap_succ i (by omega)]
    exact ih (i + 1) k (by omega) (by omega)
theorem eqIntS_ev (x0 : List Int) (hl : x0.length ≤ 1048576) : Ev (fun k => Go.Proofs.Ytmbkdapofcgccaa.Pr.laws_eqIntS.f k x0 x0) true := by
  refine ⟨x0.length + 1, fun k hk => ?_⟩
  show Go.Proofs.Ytmbkdapofcgccaa.Pr.laws_eqIntS.f k x0 x0 = _
  unfold Go.Proofs.Ytmbkdapofcgccaa.Pr.laws_eqIntS.f
  rw [if_pos rfl]
  exact eqIntS_loop x0 hl x0.length 0 k (by omega) (by omega)

theorem l1In_eq (a b c : Int) : Go.Proofs.Ytmbkdapofcgccaa.Pr.spec_l1In.f a b c = some (decide (b ≤ a ∧ a ≤ c)) := by
  unfold Go.Proofs.Ytmbkdapofcgccaa.Pr.spec_l1In.f
  split
  · rename_i h; congr 1; simp; omega
  · rename_i h; congr 1; simp; omega
theorem in_eq (a b c : Int) : Go.Proofs.Ytmbkdapofcgccaa.Pr.impl_in.f a b c = some (decide (b ≤ a ∧ a ≤ c)) := by
  unfold Go.Proofs.Ytmbkdapofcgccaa.Pr.impl_in.f
  split
  · rename_i h; congr 1; simp; omega
  · rename_i h; congr 1; simp; omega
theorem krLetters_eq (a : Int) : Go.Proofs.Ytmbkdapofcgccaa.Pr.spec_krLetters.f a = some (decide (2 ≤ a ∧ a ≤ 3)) := by
  unfold Go.Proofs.Ytmbkdapofcgccaa.Pr.spec_krLetters.f
  rw [l1In_eq]
  rfl
theorem areLetters_eq (a : Int) : Go.Proofs.Ytmbkdapofcgccaa.Pr.impl_areLetters.f a = some (decide (2 ≤ a ∧ a ≤ 3)) := by
  unfold Go.Proofs.Ytmbkdapofcgccaa.Pr.impl_areLetters.f
  rw [in_eq]
  rfl

theorem drop_all (x : List Int) (i : Nat) (hi : i < x.length) (P : Int → Prop) : (∀ q ∈ x.drop i, P q) ↔ P x[i] ∧ ∀ q ∈ x.drop (i + 1), P q := by
  have e : x.drop i = x[i] :: x.drop (i + 1) := List.drop_eq_getElem_cons hi
  rw [e]
  exact List.forall_mem_cons
theorem l1All_loop (b c : Int) (x : List Int) (hl : x.length ≤ 1048576) : ∀ (j i k : Nat), i + j = x.length → j < k → Go.Proofs.Ytmbkdapofcgccaa.Pr.spec_l1All.l0 k b c x x.length i = some (decide (∀ q ∈ x.drop i, b ≤ q ∧ q ≤ c)) := by
  intro j
  induction j with
  | zero =>
    intro i k hi hk
    obtain ⟨k, rfl⟩ : ∃ q, k = q + 1 := ⟨k - 1, by omega⟩
    simp only [Go.Proofs.Ytmbkdapofcgccaa.Pr.spec_l1All.l0]
    rw [if_neg (by omega), List.drop_eq_nil_of_le (by omega)]
    simp
  | succ j ih =>
    intro i k hi hk
    obtain ⟨k, rfl⟩ : ∃ q, k = q + 1 := ⟨k - 1, by omega⟩
    simp only [Go.Proofs.Ytmbkdapofcgccaa.Pr.spec_l1All.l0]
    rw [if_pos (by omega), if_pos (by omega), if_pos (by omega), l1In_eq, rd_lt x i (by omega), wrap_succ i (by omega), ih (i + 1) k (by omega) (by omega)]
    have key := drop_all x i (by omega) (fun q => b ≤ q ∧ q ≤ c)
    by_cases h : b ≤ x[i] ∧ x[i] ≤ c
    · simp only [h, and_self, decide_true, Option.bind_some, if_true]
      congr 1
      rw [decide_eq_decide]
      exact ⟨fun h2 => key.2 ⟨h, h2⟩, fun h2 => (key.1 h2).2⟩
    · simp only [h, decide_false, Option.bind_some, Bool.false_eq_true, if_false]
      congr 1
      exact (decide_eq_false (fun h2 => h (key.1 h2).1)).symm
theorem l1All_ev (b c : Int) (x : List Int) (hl : x.length ≤ 1048576) : Ev (fun k => Go.Proofs.Ytmbkdapofcgccaa.Pr.spec_l1All.f k x b c) (decide (∀ q ∈ x, b ≤ q ∧ q ≤ c)) :=
  ⟨x.length + 1, fun k hk => l1All_loop b c x hl x.length 0 k (by omega) (by omega)⟩

/-- What a list of weights is. -/
def W (x : List Int) : Prop := (1 ≤ (x.length : Int) ∧ (x.length : Int) ≤ 12) ∧ ∀ q ∈ x, 1 ≤ q ∧ q ≤ 100
instance (x : List Int) : Decidable (W x) := by unfold W; exact inferInstance
theorem beWeights_ev (x : List Int) (hl : x.length ≤ 1048576) : Ev (fun k => Go.Proofs.Ytmbkdapofcgccaa.Pr.spec_beWeights.f k x) (decide (W x)) := by
  unfold Go.Proofs.Ytmbkdapofcgccaa.Pr.spec_beWeights.f
  simp only [l1In_eq, Option.bind_some]
  by_cases h : 1 ≤ (x.length : Int) ∧ (x.length : Int) ≤ 12
  · have e : decide (W x) = decide (∀ q ∈ x, 1 ≤ q ∧ q ≤ 100) := by simp [W, h]
    rw [e]
    simp only [h, and_self, decide_true, if_true]
    exact ev_bind (l1All_ev 1 100 x hl) (ev_some _)
  · have e : decide (W x) = false := by simp only [decide_eq_false_iff_not]; exact fun hw => h hw.1
    rw [e]
    simp only [h, decide_false, Bool.false_eq_true, if_false]
    exact ev_some _

theorem areW1_eq (a : Int) : Go.Proofs.Ytmbkdapofcgccaa.Pr.impl_areWeights_1.f a = some (!decide (1 ≤ a ∧ a ≤ 100)) := by
  unfold Go.Proofs.Ytmbkdapofcgccaa.Pr.impl_areWeights_1.f
  rw [in_eq]
  rfl
theorem index_loop (x : List Int) (hl : x.length ≤ 1048576) : ∀ (j i k : Nat), i + j = x.length → j < k → ∃ r, Go.Proofs.Ytmbkdapofcgccaa.Pr.slices_IndexFunc_int_int_at_impl_areWeights_1.l0 k x x.length i = some r ∧ (0 ≤ r ↔ ¬ ∀ q ∈ x.drop i, 1 ≤ q ∧ q ≤ 100) := by
  intro j
  induction j with
  | zero =>
    intro i k hi hk
    obtain ⟨k, rfl⟩ : ∃ q, k = q + 1 := ⟨k - 1, by omega⟩
    simp only [Go.Proofs.Ytmbkdapofcgccaa.Pr.slices_IndexFunc_int_int_at_impl_areWeights_1.l0]
    rw [if_neg (by omega), List.drop_eq_nil_of_le (by omega)]
    exact ⟨_, rfl, by simp⟩
  | succ j ih =>
    intro i k hi hk
    obtain ⟨k, rfl⟩ : ∃ q, k = q + 1 := ⟨k - 1, by omega⟩
    simp only [Go.Proofs.Ytmbkdapofcgccaa.Pr.slices_IndexFunc_int_int_at_impl_areWeights_1.l0]
    rw [if_pos (by omega), if_pos (by omega), if_pos (by omega), areW1_eq, rd_lt x i (by omega), wrap_succ i (by omega)]
    have key := drop_all x i (by omega) (fun q => 1 ≤ q ∧ q ≤ 100)
    by_cases h : 1 ≤ x[i] ∧ x[i] ≤ 100
    · obtain ⟨r, hr, hr2⟩ := ih (i + 1) k (by omega) (by omega)
      simp only [h, and_self, decide_true, Bool.not_true, Option.bind_some, Bool.false_eq_true, if_false]
      exact ⟨r, hr, hr2.trans (not_congr ⟨fun h2 => key.2 ⟨h, h2⟩, fun h2 => (key.1 h2).2⟩)⟩
    · simp only [h, decide_false, Bool.not_false, Option.bind_some, if_true]
      exact ⟨_, rfl, ⟨fun _ h2 => h (key.1 h2).1, fun _ => by omega⟩⟩
theorem areWeights_ev (x : List Int) (hl : x.length ≤ 1048576) : Ev (fun k => Go.Proofs.Ytmbkdapofcgccaa.Pr.impl_areWeights.f k x) (decide (W x)) := by
  unfold Go.Proofs.Ytmbkdapofcgccaa.Pr.impl_areWeights.f
  simp only [in_eq, Option.bind_some]
  by_cases h : 1 ≤ (x.length : Int) ∧ (x.length : Int) ≤ 12
  · simp only [h, and_self, decide_true, if_true]
    refine ⟨x.length + 1, fun k hk => ?_⟩
    obtain ⟨r, hr, hr2⟩ := index_loop x hl x.length 0 k (by omega) (by omega)
    show (Go.Proofs.Ytmbkdapofcgccaa.Pr.slices_ContainsFunc_int_int_at_impl_areWeights_1.f k x).bind _ = _
    unfold Go.Proofs.Ytmbkdapofcgccaa.Pr.slices_ContainsFunc_int_int_at_impl_areWeights_1.f Go.Proofs.Ytmbkdapofcgccaa.Pr.slices_IndexFunc_int_int_at_impl_areWeights_1.f
    have hr' : Go.Proofs.Ytmbkdapofcgccaa.Pr.slices_IndexFunc_int_int_at_impl_areWeights_1.l0 k x (↑x.length) 0 = some r := hr
    rw [hr']
    simp only [Option.bind_some]
    congr 1
    rw [List.drop_zero] at hr2
    by_cases hw : ∀ q ∈ x, 1 ≤ q ∧ q ≤ 100
    · have : ¬ 0 ≤ r := fun h0 => hr2.1 h0 hw
      have e : decide (W x) = true := by simp only [decide_eq_true_eq]; exact ⟨h, hw⟩
      rw [e]
      simp [this]
    · have : 0 ≤ r := hr2.2 hw
      have e : decide (W x) = false := by simp only [decide_eq_false_iff_not]; exact fun h2 => hw h2.2
      rw [e]
      simp [this]
  · have e : decide (W x) = false := by simp only [decide_eq_false_iff_not]; exact fun hw => h hw.1
    rw [e]
    simp only [h, decide_false, Bool.false_eq_true, if_false]
    exact ev_some _

end Go.Proofs.Ytmbkdapofcgccaa.Cm
