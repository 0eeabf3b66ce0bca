/- The reference's merged sums and the program's are the same list, and so is their sum, the least cost. -/
import Derived.Test.YtmbkdapofcgccaaCm
import Derived.Test.YtmbkdapofcgccaaMergeRun
import Derived.Test.YtmbkdapofcgccaaPq1
namespace Go.Proofs.Ytmbkdapofcgccaa.Cost
open Go.RowKit Go.Proofs.YtmbkdapofcgccaaW.PrintWords Go.Proofs.YtmbkdapofcgccaaW.PrintLast Go.Proofs.YtmbkdapofcgccaaW.PrintMore Go.Proofs.Ytmbkdapofcgccaa.Cm Go.Proofs.Ytmbkdapofcgccaa.MergeRun
open Go.Proofs.Ytmbkdapofcgccaa.SortI (srt srt_length)
set_option linter.unusedVariables false
set_option linter.unusedSimpArgs false

/-- Sorted. -/
def Up (l : List Int) : Prop := l.Pairwise (· ≤ ·)
theorem srt_up (l : List Int) : Up (srt l) := by
  have := List.pairwise_mergeSort (le := fun x y : Int => decide (x ≤ y)) (by intro a b c h1 h2; simp at *; omega) (by intro a b; simp; omega) l
  exact this.imp (by simp)
theorem srt_of (l s : List Int) (h : s.Perm l) (hs : Up s) : s = srt l :=
  List.Perm.eq_of_pairwise (le := fun a b : Int => a ≤ b) (fun a b _ _ h1 h2 => by omega) hs (srt_up l) (h.trans (srt_perm l).symm)
theorem srt_cong {l l' : List Int} (h : l.Perm l') : srt l = srt l' := srt_of l' (srt l) ((srt_perm l).trans h) (srt_up l)
theorem up_drop {l : List Int} (h : Up l) (k : Nat) : Up (l.drop k) := List.Pairwise.sublist (List.drop_sublist k l) h

theorem own_eq (l : List Int) (h : l.length < 1000) : Go.Proofs.Ytmbkdapofcgccaa.Pr.spec_l1Own.f l = some l := by
  unfold Go.Proofs.Ytmbkdapofcgccaa.Pr.spec_l1Own.f
  simp only [Option.bind_some]
  rw [if_pos (by simp; omega)]
  simp

theorem put_done (x0 : List Int) (x1 : Int) (i : Nat) (hi : i ≤ x0.length) (hu : Up x0) (h1 : ∀ q, q < i → (hq : q < x0.length) → x0[q] ≤ x1) (h2 : ∀ hq : i < x0.length, x1 ≤ x0[i]) : x0.take i ++ [x1] ++ x0.drop i = srt (x0 ++ [x1]) := by
  refine srt_of _ _ ?_ ?_
  · have : (x0.take i ++ [x1] ++ x0.drop i).Perm ([x1] ++ (x0.take i ++ x0.drop i)) := by
      rw [List.append_assoc]
      refine (List.perm_append_comm_assoc _ _ _).trans ?_
      exact List.Perm.refl _
    rw [List.take_append_drop] at this
    exact this.trans List.perm_append_comm
  · have hu2 : Up (x0.take i ++ x0.drop i) := by rw [List.take_append_drop]; exact hu
    obtain ⟨a1, a2, a3⟩ := List.pairwise_append.1 hu2
    have ht : ∀ q ∈ x0.take i, q ≤ x1 := by
      intro q hq
      obtain ⟨j, hj, rfl⟩ := List.mem_iff_getElem.1 hq
      rw [List.length_take] at hj
      rw [List.getElem_take]
      exact h1 j (by omega) (by omega)
    have hd : ∀ q ∈ x0.drop i, x1 ≤ q := by
      intro q hq
      by_cases hl : i < x0.length
      · rw [List.drop_eq_getElem_cons hl] at hq a2
        have := h2 hl
        rcases List.mem_cons.1 hq with rfl | hq
        · exact this
        · have := (List.pairwise_cons.1 a2).1 q hq
          omega
      · rw [List.drop_eq_nil_of_le (by omega)] at hq
        simp at hq
    refine List.pairwise_append.2 ⟨List.pairwise_append.2 ⟨a1, List.pairwise_singleton _ _, fun a ha b hb => ?_⟩, a2, fun a ha b hb => ?_⟩
    · rw [List.mem_singleton.1 hb]; exact ht a ha
    · rcases List.mem_append.1 ha with ha | ha
      · exact a3 a ha b hb
      · rw [List.mem_singleton.1 ha]; exact hd b hb
theorem put_loop (x0 : List Int) (x1 : Int) (hl : x0.length ≤ 100) (hu : Up x0) : ∀ (j i k : Nat), i + j = x0.length → (∀ q, q < i → (hq : q < x0.length) → x0[q] ≤ x1) → j < k → Go.Proofs.Ytmbkdapofcgccaa.Pr.spec_bePut.l0 k x0 x1 i = some (srt (x0 ++ [x1])) := by
  intro j
  induction j with
  | zero =>
    intro i k hi h1 hk
    obtain ⟨k, rfl⟩ : ∃ q, k = q + 1 := ⟨k - 1, by omega⟩
    simp only [Go.Proofs.Ytmbkdapofcgccaa.Pr.spec_bePut.l0]
    rw [if_neg (by omega), if_pos (by omega), if_pos (by omega), Int.toNat_natCast, own_eq _ (by rw [List.length_take]; omega)]
    simp only [Option.bind_some]
    rw [if_pos (by rw [List.length_take]; omega), if_pos (by simp; omega), put_done x0 x1 i (by omega) hu h1 (fun hq => by omega)]
  | succ j ih =>
    intro i k hi h1 hk
    obtain ⟨k, rfl⟩ : ∃ q, k = q + 1 := ⟨k - 1, by omega⟩
    simp only [Go.Proofs.Ytmbkdapofcgccaa.Pr.spec_bePut.l0]
    rw [if_pos (by omega), if_pos (by omega), rd_lt x0 i (by omega), wrap_succ i (by omega)]
    by_cases hc : x0[i] ≤ x1
    · rw [if_pos hc]
      refine ih (i + 1) k (by omega) (fun q hq hq2 => ?_) (by omega)
      by_cases e : q = i
      · subst e; exact hc
      · exact h1 q (by omega) hq2
    · rw [if_neg hc, if_pos (by omega), Int.toNat_natCast, own_eq _ (by rw [List.length_take]; omega)]
      simp only [Option.bind_some]
      rw [if_pos (by rw [List.length_take]; omega), if_pos (by simp; omega), put_done x0 x1 i (by omega) hu h1 (fun hq => by omega)]
theorem put_ev (x0 : List Int) (x1 : Int) (hl : x0.length ≤ 100) (hu : Up x0) : Ev (fun k => Go.Proofs.Ytmbkdapofcgccaa.Pr.spec_bePut.f k x0 x1) (srt (x0 ++ [x1])) :=
  ⟨x0.length + 1, fun k hk => put_loop x0 x1 hl hu x0.length 0 k (by omega) (fun q hq => by omega) (by omega)⟩

theorem take_len_sum (ys : List Int) (h : ∀ x ∈ ys, 0 ≤ x) (hs : ys.sum ≤ 1200) (i : Nat) : 0 ≤ (ys.take i).sum ∧ (ys.take i).sum ≤ 1200 := by
  have := sum_take_bd h i
  omega

/-- The reference's inner sum, and what follows. -/
theorem l2_ev (m : Nat) (list out ys : List Int) (take : Nat) (nl R : List Int) (hl : list.length ≤ 100) (hy : ∀ x ∈ ys, 0 ≤ x) (hs : ys.sum ≤ 1200) (hyl : ys.length ≤ 100) (ht : take ≤ list.length) (ho : out.length ≤ 100)
    (hput : Ev (fun k => Go.Proofs.Ytmbkdapofcgccaa.Pr.spec_bePut.f k (list.drop take) ys.sum) nl) (hnext : Ev (fun k => Go.Proofs.Ytmbkdapofcgccaa.Pr.spec_beMerge.l1 k m nl (out ++ [ys.sum]) m) R) :
    ∀ j i : Nat, i + j = ys.length → Ev (fun k => Go.Proofs.Ytmbkdapofcgccaa.Pr.spec_beMerge.l2 k m list out take (ys.take i).sum ys ys.length i) R := by
  intro j
  induction j with
  | zero =>
    intro i hi
    refine Ev.step (f := fun k => (Go.Proofs.Ytmbkdapofcgccaa.Pr.spec_bePut.f k (list.drop take) ys.sum).bind fun t => Go.Proofs.Ytmbkdapofcgccaa.Pr.spec_beMerge.l1 k m t (out ++ [ys.sum]) m) (fun k => ?_) (ev_bind hput (h := fun t k => Go.Proofs.Ytmbkdapofcgccaa.Pr.spec_beMerge.l1 k m t (out ++ [ys.sum]) m) hnext)
    simp only [Go.Proofs.Ytmbkdapofcgccaa.Pr.spec_beMerge.l2]
    rw [if_neg (by omega), if_pos (by omega), if_pos (by omega), Int.toNat_natCast, List.take_of_length_le (by omega)]
    simp only [if_pos (show out.length < 17592186044416 by omega)]
  | succ j ih =>
    intro i hi
    refine Ev.step (f := fun k => Go.Proofs.Ytmbkdapofcgccaa.Pr.spec_beMerge.l2 k m list out take (ys.take (i + 1)).sum ys ys.length ((i + 1 : Nat) : Int)) (fun k => ?_) (ih (i + 1) (by omega))
    simp only [Go.Proofs.Ytmbkdapofcgccaa.Pr.spec_beMerge.l2]
    rw [if_pos (by omega), if_pos (by omega), if_pos (by omega), wrap_succ i (by omega)]
    have e := sum_take_succ ys i (by omega)
    have b1 := take_len_sum ys hy hs (i + 1)
    have b2 := take_len_sum ys hy hs i
    rw [show wrap64 ((ys.take i).sum + rd ys i) = (ys.take (i + 1)).sum by rw [← e]; unfold wrap64; omega]

/-- The reference's rounds. -/
theorem l1_ev (m : Nat) (hm : 2 ≤ m ∧ m ≤ 3) : ∀ (f take : Nat) (list out : List Int), list.length ≤ f → f ≤ 12 → Up list → (∀ x ∈ list, 0 ≤ x) → list.sum ≤ 1200 → 2 ≤ take ∧ take ≤ 3 → (1 < list.length → take ≤ list.length) →
    (m = 3 → 1 < list.length → take = 3 → list.length % 2 = 1) → (m = 3 → take = 2 → list.length % 2 = 0) → out.length + f ≤ 50 →
    Ev (fun k => Go.Proofs.Ytmbkdapofcgccaa.Pr.spec_beMerge.l1 k m list out take) (out ++ mergeGo m f take list) := by
  intro f
  induction f with
  | zero =>
    intro take list out hf _ _ _ _ _ _ _ _ _
    refine Ev.step (f := fun _ => some out) (fun k => ?_) (by simpa [mergeGo] using ev_some out)
    simp only [Go.Proofs.Ytmbkdapofcgccaa.Pr.spec_beMerge.l1]
    rw [if_neg (by omega)]
  | succ f ih =>
    intro take list out hf hf2 hu hn hs ht hle hp he ho
    by_cases hlen : 1 < list.length
    · have hle' := hle hlen
      have hlist : (srt (list.drop take ++ [(list.take take).sum])).length = list.length - take + 1 := by rw [srt_length]; simp
      have hb := sum_take_bd hn take
      have nxt := ih m (srt (list.drop take ++ [(list.take take).sum])) (out ++ [(list.take take).sum]) (by rw [hlist]; omega) (by omega) (srt_up _)
        (srt_nonneg (fun x hx => by
          rcases List.mem_append.1 hx with hx | hx
          · exact hn x (List.mem_of_mem_drop hx)
          · rw [List.mem_singleton.1 hx]; exact hb.1))
        (by rw [srt_sum, sum_append]; have := sum_split list take; simp; omega) hm
        (fun h1 => by
          rw [hlist] at h1 ⊢
          by_cases e : m = 3
          · rcases (by omega : take = 2 ∨ take = 3) with e' | e'
            · have := he e e'; omega
            · have := hp e hlen e'; omega
          · omega)
        (fun e1 h1 e2 => by
          rw [hlist] at h1 ⊢
          rcases (by omega : take = 2 ∨ take = 3) with e' | e'
          · have := he e1 e'; omega
          · have := hp e1 hlen e'; omega)
        (fun e1 e2 => by omega) (by simp; omega)
      have hsum : (list.take take).sum ≤ 1200 := by omega
      have put := put_ev (list.drop take) (list.take take).sum (by simp; omega) (up_drop hu take)
      have := l2_ev m list out (list.take take) take _ _ (by omega) (fun x hx => hn x (List.mem_of_mem_take hx)) hsum (by simp; omega) hle' (by omega) put nxt (list.take take).length 0 (by omega)
      refine Ev.step (f := fun k => Go.Proofs.Ytmbkdapofcgccaa.Pr.spec_beMerge.l2 k m list out take (((list.take take).take 0).sum) (list.take take) (list.take take).length ((0 : Nat) : Int)) (fun k => ?_) ?_
      · simp only [Go.Proofs.Ytmbkdapofcgccaa.Pr.spec_beMerge.l1]
        rw [if_pos (by omega), if_pos (by omega), if_pos (by omega), Int.toNat_natCast]
        simp
      · rw [mergeGo, if_neg (by omega)]
        simpa using this
    · refine Ev.step (f := fun _ => some out) (fun k => ?_) ?_
      · simp only [Go.Proofs.Ytmbkdapofcgccaa.Pr.spec_beMerge.l1]
        rw [if_neg (by omega)]
      · rw [mergeGo, if_pos (by omega)]
        simpa using ev_some out

/-- The reference's merged sums. -/
theorem beMerge_ev (m : Nat) (hm : 2 ≤ m ∧ m ≤ 3) (ws : List Int) (hl : 0 < ws.length ∧ ws.length ≤ 12) (hw : ∀ x ∈ ws, 0 ≤ x ∧ x ≤ 100) : Ev (fun k => Go.Proofs.Ytmbkdapofcgccaa.Pr.spec_beMerge.f k ws m) (mergeRunL ws m) := by
  have hsum : ws.sum ≤ 1200 := by have := le_sum hw; omega
  have hrounds := l1_ev m hm ws.length (if m = 3 ∧ ws.length % 2 = 0 then 2 else m) (srt ws) [] (by rw [srt_length]; omega) hl.2 (srt_up ws) (srt_nonneg (fun x hx => (hw x hx).1)) (by rw [srt_sum]; exact hsum) (by split <;> omega)
    (fun h => by rw [srt_length] at h ⊢; split <;> omega) (fun e h1 h2 => by rw [srt_length] at h1 ⊢; split at h2 <;> omega) (fun e h2 => by rw [srt_length]; split at h2 <;> omega) (by simp; omega)
  have hj2 : ∀ t : Nat, t = (if m = 3 ∧ ws.length % 2 = 0 then 2 else m) → Ev (fun k => Go.Proofs.Ytmbkdapofcgccaa.Pr.spec_beMerge.j2 k m (srt ws) [] t) (mergeRunL ws m) := by
    rintro t rfl
    refine Ev.step (f := fun k => Go.Proofs.Ytmbkdapofcgccaa.Pr.spec_beMerge.l1 k m (srt ws) [] ((if m = 3 ∧ ws.length % 2 = 0 then 2 else m : Nat) : Int)) (fun k => rfl) ?_
    simpa [mergeRunL] using hrounds
  have key : ∀ j i : Nat, i + j = ws.length → Ev (fun k => Go.Proofs.Ytmbkdapofcgccaa.Pr.spec_beMerge.l0 k m (srt (ws.take i)) ws ws.length i) (mergeRunL ws m) := by
    intro j
    induction j with
    | zero =>
      intro i hi
      have ht : ws.take i = ws := List.take_of_length_le (by omega)
      rw [ht]
      by_cases e3 : m = 3
      · subst e3
        refine Ev.step (f := fun k => Go.Proofs.Ytmbkdapofcgccaa.Pr.spec_beMerge.j1 k 3 (srt ws) [] 3 ((((srt ws).length : Int) % 2) == 0)) (fun k => ?_) ?_
        · simp only [Go.Proofs.Ytmbkdapofcgccaa.Pr.spec_beMerge.l0]
          rw [if_neg (by omega), if_pos (by rfl)]
          rfl
        · by_cases ev : ws.length % 2 = 0
          · refine Ev.step (f := fun k => Go.Proofs.Ytmbkdapofcgccaa.Pr.spec_beMerge.j2 k 3 (srt ws) [] 2) (fun k => ?_) (hj2 2 (by simp [ev]))
            simp only [Go.Proofs.Ytmbkdapofcgccaa.Pr.spec_beMerge.j1]
            rw [if_pos (by simp [srt_length]; omega)]
          · refine Ev.step (f := fun k => Go.Proofs.Ytmbkdapofcgccaa.Pr.spec_beMerge.j2 k 3 (srt ws) [] 3) (fun k => ?_) (hj2 3 (by simp [ev]))
            simp only [Go.Proofs.Ytmbkdapofcgccaa.Pr.spec_beMerge.j1]
            rw [if_neg (by simp [srt_length]; omega)]
      · refine Ev.step (f := fun k => Go.Proofs.Ytmbkdapofcgccaa.Pr.spec_beMerge.j1 k m (srt ws) [] m false) (fun k => ?_) ?_
        · simp only [Go.Proofs.Ytmbkdapofcgccaa.Pr.spec_beMerge.l0]
          rw [if_neg (by omega), if_neg (by omega)]
        · refine Ev.step (f := fun k => Go.Proofs.Ytmbkdapofcgccaa.Pr.spec_beMerge.j2 k m (srt ws) [] m) (fun k => ?_) (hj2 m (by simp [e3]))
          simp [Go.Proofs.Ytmbkdapofcgccaa.Pr.spec_beMerge.j1]
    | succ j ih =>
      intro i hi
      have put := put_ev (srt (ws.take i)) ws[i] (by rw [srt_length]; simp; omega) (srt_up _)
      have e : srt (srt (ws.take i) ++ [ws[i]]) = srt (ws.take (i + 1)) := by
        rw [List.take_succ_eq_append_getElem (by omega)]
        exact srt_cong ((srt_perm _).append_right _)
      rw [e] at put
      refine Ev.step (f := fun k => (Go.Proofs.Ytmbkdapofcgccaa.Pr.spec_bePut.f k (srt (ws.take i)) ws[i]).bind fun t => Go.Proofs.Ytmbkdapofcgccaa.Pr.spec_beMerge.l0 k m t ws ws.length ((i + 1 : Nat) : Int)) (fun k => ?_) (ev_bind put (h := fun t k => Go.Proofs.Ytmbkdapofcgccaa.Pr.spec_beMerge.l0 k m t ws ws.length ((i + 1 : Nat) : Int)) (ih (i + 1) (by omega)))
      simp only [Go.Proofs.Ytmbkdapofcgccaa.Pr.spec_beMerge.l0]
      rw [if_pos (by omega), if_pos (by omega), if_pos (by omega), wrap_succ i (by omega), rd_lt ws i (by omega)]
  have := key ws.length 0 (by omega)
  have e0 : srt (ws.take 0) = [] := by simp [srt]
  rw [e0] at this
  exact this

/-- The sums of merges are bounded. -/
theorem mergeGo_bd (m : Nat) : ∀ (f take : Nat) (list : List Int) (S : Int), (∀ x ∈ list, 0 ≤ x) → list.sum = S → (∀ x ∈ mergeGo m f take list, 0 ≤ x ∧ x ≤ S) ∧ (mergeGo m f take list).length ≤ f := by
  intro f
  induction f with
  | zero => intro take list S _ _; simp [mergeGo]
  | succ f ih =>
    intro take list S hn hs
    unfold mergeGo
    split
    · simp
    · have hb := sum_take_bd hn take
      obtain ⟨h1, h2⟩ := ih m (srt (list.drop take ++ [(list.take take).sum])) S (srt_nonneg (fun x hx => by
          rcases List.mem_append.1 hx with hx | hx
          · exact hn x (List.mem_of_mem_drop hx)
          · rw [List.mem_singleton.1 hx]; exact hb.1)) (by rw [srt_sum, sum_append]; have := sum_split list take; simp; omega)
      refine ⟨fun x hx => ?_, by simp; omega⟩
      rcases List.mem_cons.1 hx with rfl | hx
      · omega
      · exact h1 x hx
theorem sum_le_mul {xs : List Int} {B : Int} (h : ∀ x ∈ xs, 0 ≤ x ∧ x ≤ B) : xs.sum ≤ B * (xs.length : Int) := by
  induction xs with
  | nil => simp
  | cons a l ih =>
    have := ih (fun x hx => h x (by simp [hx]))
    have := h a (by simp)
    simp [Int.mul_add]
    omega
theorem merged_bd (m : Nat) (ws : List Int) (hl : ws.length ≤ 12) (hw : ∀ x ∈ ws, 0 ≤ x ∧ x ≤ 100) : (∀ x ∈ mergeRunL ws m, 0 ≤ x ∧ x ≤ 1200) ∧ (mergeRunL ws m).length ≤ 12 ∧ 0 ≤ (mergeRunL ws m).sum ∧ (mergeRunL ws m).sum ≤ 14400 := by
  have hsum : ws.sum ≤ 1200 := by have := le_sum hw; omega
  obtain ⟨h1, h2⟩ := mergeGo_bd m ws.length (if m = 3 ∧ ws.length % 2 = 0 then 2 else m) (srt ws) ws.sum (srt_nonneg (fun x hx => (hw x hx).1)) (srt_sum ws)
  have h3 : ∀ x ∈ mergeRunL ws m, 0 ≤ x ∧ x ≤ 1200 := fun x hx => by have := h1 x hx; omega
  have h4 : (mergeRunL ws m).length ≤ 12 := Nat.le_trans h2 hl
  have h5 := sum_le_mul h3
  exact ⟨h3, h4, sum_nonneg (fun x hx => (h3 x hx).1), by omega⟩

/-- The least cost. -/
def best (ws : List Int) (m : Nat) : Int := if ws.length = 1 then rd ws 0 else (mergeRunL ws m).sum

theorem sumS_loop (xs : List Int) (hl : xs.length ≤ 100) (h : ∀ x ∈ xs, 0 ≤ x) (hs : xs.sum ≤ 14400) : ∀ (j i k : Nat), i + j = xs.length → j < k → Go.Proofs.Ytmbkdapofcgccaa.Pr.spec_beBest.l0 k (xs.take i).sum xs xs.length i = some xs.sum := by
  intro j
  induction j with
  | zero =>
    intro i k hi hk
    obtain ⟨k, rfl⟩ : ∃ q, k = q + 1 := ⟨k - 1, by omega⟩
    simp only [Go.Proofs.Ytmbkdapofcgccaa.Pr.spec_beBest.l0]
    rw [if_neg (by omega), List.take_of_length_le (by omega)]
  | succ j ih =>
    intro i k hi hk
    obtain ⟨k, rfl⟩ : ∃ q, k = q + 1 := ⟨k - 1, by omega⟩
    simp only [Go.Proofs.Ytmbkdapofcgccaa.Pr.spec_beBest.l0]
    have e := sum_take_succ xs i (by omega)
    have b1 := sum_take_bd h (i + 1)
    rw [if_pos (by omega), if_pos (by omega), if_pos (by omega), wrap_succ i (by omega), show wrap64 ((xs.take i).sum + rd xs i) = (xs.take (i + 1)).sum by rw [← e]; unfold wrap64; omega]
    exact ih (i + 1) k (by omega) (by omega)
theorem sumI_loop (xs : List Int) (hl : xs.length ≤ 100) (h : ∀ x ∈ xs, 0 ≤ x) (hs : xs.sum ≤ 14400) : ∀ (j i k : Nat), i + j = xs.length → j < k → Go.Proofs.Ytmbkdapofcgccaa.Pq.impl_bestCost.l0 k (xs.take i).sum xs xs.length i = some xs.sum := by
  intro j
  induction j with
  | zero =>
    intro i k hi hk
    obtain ⟨k, rfl⟩ : ∃ q, k = q + 1 := ⟨k - 1, by omega⟩
    simp only [Go.Proofs.Ytmbkdapofcgccaa.Pq.impl_bestCost.l0]
    rw [if_neg (by omega), List.take_of_length_le (by omega)]
  | succ j ih =>
    intro i k hi hk
    obtain ⟨k, rfl⟩ : ∃ q, k = q + 1 := ⟨k - 1, by omega⟩
    simp only [Go.Proofs.Ytmbkdapofcgccaa.Pq.impl_bestCost.l0]
    have e := sum_take_succ xs i (by omega)
    have b1 := sum_take_bd h (i + 1)
    rw [if_pos (by omega), if_pos (by omega), if_pos (by omega), wrap_succ i (by omega), show wrap64 ((xs.take i).sum + rd xs i) = (xs.take (i + 1)).sum by rw [← e]; unfold wrap64; omega]
    exact ih (i + 1) k (by omega) (by omega)

theorem beBest_ev (m : Nat) (hm : 2 ≤ m ∧ m ≤ 3) (ws : List Int) (hl : 0 < ws.length ∧ ws.length ≤ 12) (hw : ∀ x ∈ ws, 0 ≤ x ∧ x ≤ 100) : Ev (fun k => Go.Proofs.Ytmbkdapofcgccaa.Pr.spec_beBest.f k ws m) (best ws m) := by
  unfold Go.Proofs.Ytmbkdapofcgccaa.Pr.spec_beBest.f best
  by_cases h1 : ws.length = 1
  · simp only [h1]
    exact ev_some _
  · simp only [h1, if_neg (show ¬ (ws.length : Int) = 1 by omega), if_false]
    obtain ⟨b1, b2, b3, b4⟩ := merged_bd m ws hl.2 hw
    refine ev_bind (beMerge_ev m hm ws hl hw) (h := fun t k => Go.Proofs.Ytmbkdapofcgccaa.Pr.spec_beBest.l0 k 0 t t.length 0) ⟨(mergeRunL ws m).length + 1, fun k hk => ?_⟩
    exact sumS_loop (mergeRunL ws m) (by omega) (fun x hx => (b1 x hx).1) b4 (mergeRunL ws m).length 0 k (by omega) (by omega)
theorem bestCost_ev (m : Nat) (hm : 2 ≤ m ∧ m ≤ 3) (ws : List Int) (hl : 0 < ws.length ∧ ws.length ≤ 12) (hw : ∀ x ∈ ws, 0 ≤ x ∧ x ≤ 100) : Ev (fun k => Go.Proofs.Ytmbkdapofcgccaa.Pq.impl_bestCost.f k ws m) (best ws m) := by
  unfold Go.Proofs.Ytmbkdapofcgccaa.Pq.impl_bestCost.f best
  by_cases h1 : ws.length = 1
  · simp only [h1]
    exact ev_some _
  · simp only [h1, if_neg (show ¬ (ws.length : Int) = 1 by omega), if_false]
    obtain ⟨b1, b2, b3, b4⟩ := merged_bd m ws hl.2 hw
    refine ev_bind (g := fun _ => impl_mergeRun.f ws m) (x := mergeRunL ws m) ?_ (h := fun t k => Go.Proofs.Ytmbkdapofcgccaa.Pq.impl_bestCost.l0 k 0 t t.length 0) ⟨(mergeRunL ws m).length + 1, fun k hk => ?_⟩
    · refine ev_of (fun _ => ?_)
      unfold impl_mergeRun.f
      rw [if_pos ⟨by omega, hl, hw⟩, Int.toNat_natCast]
    · exact sumI_loop (mergeRunL ws m) (by omega) (fun x hx => (b1 x hx).1) b4 (mergeRunL ws m).length 0 k (by omega) (by omega)
theorem best_bd (m : Nat) (ws : List Int) (hl : 0 < ws.length ∧ ws.length ≤ 12) (hw : ∀ x ∈ ws, 0 ≤ x ∧ x ≤ 100) : 0 ≤ best ws m ∧ best ws m ≤ 14400 := by
  unfold best
  split
  · have := rd_lt ws 0 hl.1
    have h2 := hw ws[0] (List.getElem_mem _)
    simp at this
    omega
  · have := merged_bd m ws hl.2 hw
    omega

end Go.Proofs.Ytmbkdapofcgccaa.Cost
