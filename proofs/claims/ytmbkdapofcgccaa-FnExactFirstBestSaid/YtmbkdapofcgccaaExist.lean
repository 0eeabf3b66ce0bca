/- There are best lengths: those of the merged tree. -/
import Derived.Test.YtmbkdapofcgccaaSame
namespace Go.Proofs.Ytmbkdapofcgccaa.Exist
open Go.RowKit Go.Proofs.YtmbkdapofcgccaaW.PrintWords Go.Proofs.YtmbkdapofcgccaaW.PrintLast Go.Proofs.Ytmbkdapofcgccaa.Cm Go.Proofs.Ytmbkdapofcgccaa.Cost Go.Proofs.Ytmbkdapofcgccaa.Same Go.Proofs.Ytmbkdapofcgccaa.MergeRun
open Go.Proofs.Ytmbkdapofcgccaa.BeTry (tryAll)
open Go.Proofs.Ytmbkdapofcgccaa.SortI (srt srt_length)
set_option linter.unusedVariables false
set_option linter.unusedSimpArgs false

/-- What lengths cost, and the room that they take. -/
def costP (P : List (Int × Nat)) : Int := (P.map fun p => p.1 * (p.2 : Int)).sum
def roomP (m : Nat) (P : List (Int × Nat)) : Nat := (P.map fun p => m ^ (11 - p.2)).sum

theorem costP_perm {P P' : List (Int × Nat)} (h : P.Perm P') : costP P = costP P' := sum_perm (h.map _)
theorem nsum_perm {xs ys : List Nat} (h : xs.Perm ys) : xs.sum = ys.sum := by
  induction h with
  | nil => rfl
  | cons a _ ih => simp [ih]
  | swap a b l => simp; omega
  | trans _ _ h1 h2 => rw [h1, h2]
theorem roomP_perm (m : Nat) {P P' : List (Int × Nat)} (h : P.Perm P') : roomP m P = roomP m P' := nsum_perm (h.map _)
theorem costP_append (P P' : List (Int × Nat)) : costP (P ++ P') = costP P + costP P' := by unfold costP; rw [List.map_append, sum_append]
theorem roomP_append (m : Nat) (P P' : List (Int × Nat)) : roomP m (P ++ P') = roomP m P + roomP m P' := by unfold roomP; rw [List.map_append, List.sum_append]

/-- Pairs follow a permutation of what stands first in them. -/
theorem follow {l l' : List Int} (h : l.Perm l') : ∀ P : List (Int × Nat), P.map Prod.fst = l → ∃ P' : List (Int × Nat), P'.Perm P ∧ P'.map Prod.fst = l' := by
  induction h with
  | nil => intro P hP; exact ⟨P, List.Perm.refl _, hP⟩
  | cons a _ ih =>
    intro P hP
    cases P with
    | nil => simp at hP
    | cons p P =>
      simp at hP
      obtain ⟨P', h1, h2⟩ := ih P hP.2
      exact ⟨p :: P', h1.cons p, by simp [h2, hP.1]⟩
  | swap a b l =>
    intro P hP
    match P, hP with
    | p :: q :: P, hP =>
      simp at hP
      exact ⟨q :: p :: P, List.Perm.swap p q P, by simp [hP.1, hP.2.1, hP.2.2]⟩
    | [p], hP => simp at hP
    | [], hP => simp at hP
  | trans _ _ ih1 ih2 =>
    intro P hP
    obtain ⟨P1, h1, h2⟩ := ih1 P hP
    obtain ⟨P2, h3, h4⟩ := ih2 P1 h2
    exact ⟨P2, h3.trans h1, h4⟩

theorem costP_same (ys : List Int) (d : Nat) : costP (ys.map fun y => (y, d)) = ys.sum * (d : Int) := by
  induction ys with
  | nil => simp [costP]
  | cons y ys ih =>
    unfold costP at ih ⊢
    simp only [List.map_cons, List.sum_cons] at ih ⊢
    rw [ih, Int.add_mul]
theorem roomP_same (m : Nat) (ys : List Int) (d : Nat) : roomP m (ys.map fun y => (y, d)) = ys.length * m ^ (11 - d) := by
  induction ys with
  | nil => simp [roomP]
  | cons y ys ih =>
    unfold roomP at ih ⊢
    simp only [List.map_cons, List.sum_cons, List.length_cons] at ih ⊢
    rw [ih, Nat.add_mul]
    omega

/-- The merged tree's lengths. -/
theorem tree (m : Nat) (hm : 2 ≤ m ∧ m ≤ 3) : ∀ (f take : Nat) (list : List Int), list.length ≤ f → f ≤ 6 → 0 < list.length → 2 ≤ take ∧ take ≤ m → (1 < list.length → take ≤ list.length) →
    (m = 3 → 1 < list.length → take = 3 → list.length % 2 = 1) → (m = 3 → take = 2 → list.length % 2 = 0) →
    ∃ P : List (Int × Nat), (P.map Prod.fst).Perm list ∧ costP P = (mergeGo m f take list).sum ∧ roomP m P ≤ m ^ 11 ∧ ∀ p ∈ P, p.2 + 1 ≤ list.length := by
  intro f
  induction f with
  | zero => intro take list h1 _ h2; omega
  | succ f ih =>
    intro take list hf hf2 hpos ht hle hp he
    by_cases hlen : 1 < list.length
    · have hle' := hle hlen
      have hlist : (srt (list.drop take ++ [(list.take take).sum])).length = list.length - take + 1 := by rw [srt_length]; simp
      obtain ⟨P, h1, h2, h3, h4⟩ := ih m (srt (list.drop take ++ [(list.take take).sum])) (by rw [hlist]; omega) (by omega) (by rw [hlist]; omega) ⟨by omega, by omega⟩
        (fun h1 => by
          rw [hlist] at h1 ⊢
          by_cases e : m = 3
          · rcases (by omega : take = 2 ∨ take = 3) with e' | e'
            · have := he e e'; omega
            · have := hp e hlen e'; omega
          · omega)
        (fun e1 h1 e2 => by
          rw [hlist] at h1 ⊢
          rcases (by omega : take = 2 ∨ take = 3) with e' | e'
          · have := he e1 e'; omega
          · have := hp e1 hlen e'; omega)
        (fun e1 e2 => by omega)
      obtain ⟨P1, hp1, hf1⟩ := follow (h1.trans ((srt_perm _).trans List.perm_append_comm)) P rfl
      obtain ⟨⟨s, d⟩, P2, rfl⟩ : ∃ p P2, P1 = p :: P2 := by
        cases P1 with
        | nil => simp at hf1
        | cons p P2 => exact ⟨p, P2, rfl⟩
      simp at hf1
      obtain ⟨rfl, hf1⟩ := hf1
      have hd : d + 1 ≤ list.length - take + 1 := by
        have := h4 ((list.take take).sum, d) (hp1.mem_iff.1 (by simp))
        rw [hlist] at this
        exact this
      refine ⟨((list.take take).map fun y => (y, d + 1)) ++ P2, ?_, ?_, ?_, ?_⟩
      · rw [List.map_append, hf1, List.map_map]
        have : (Prod.fst ∘ fun y : Int => (y, d + 1)) = id := rfl
        rw [this, List.map_id, List.take_append_drop]
      · rw [costP_append, costP_same, mergeGo, if_neg (by omega), List.sum_cons, ← h2, ← costP_perm hp1]
        have : costP (((list.take take).sum, d) :: P2) = (list.take take).sum * (d : Int) + costP P2 := by simp [costP]
        rw [this]
        have e2 : (list.take take).sum * ((d + 1 : Nat) : Int) = (list.take take).sum * (d : Int) + (list.take take).sum := by rw [Int.natCast_add, Int.mul_add]; simp
        omega
      · rw [roomP_append, roomP_same]
        have e1 : roomP m (((list.take take).sum, d) :: P2) = m ^ (11 - d) + roomP m P2 := by simp [roomP]
        rw [← roomP_perm m hp1, e1] at h3
        have hl : (list.take take).length = take := by simp; omega
        have e3 : m ^ (11 - d) = m * m ^ (11 - (d + 1)) := by rw [← Nat.pow_succ']; congr 1; omega
        have : take * m ^ (11 - (d + 1)) ≤ m * m ^ (11 - (d + 1)) := Nat.mul_le_mul_right _ ht.2
        rw [hl]
        omega
      · intro p hp2
        rcases List.mem_append.1 hp2 with hp2 | hp2
        · obtain ⟨y, _, rfl⟩ := List.mem_map.1 hp2
          simp only
          omega
        · have := h4 p (hp1.mem_iff.1 (by simp [hp2]))
          rw [hlist] at this
          omega
    · match list, hpos, hlen with
      | [x], _, _ =>
        refine ⟨[(x, 0)], by simp, ?_, ?_, by simp⟩
        · simp [mergeGo, costP]
        · simp [roomP]
      | x :: y :: l, _, hlen => simp at hlen

/-- Lengths that fit and cost what is due are found. -/
theorem tryAll_mem (m : Nat) (hm : 1 ≤ m) : ∀ (P : List (Int × Nat)) (l : List Int) (share : Int) (cost : Int), (∀ p ∈ P, 0 ≤ p.1 ∧ 1 ≤ p.2 ∧ p.2 ≤ 11) → (roomP m P : Int) ≤ share → costP P = cost →
    l ++ P.map (fun p => (p.2 : Int)) ∈ tryAll m (P.map Prod.fst) l share cost
  | [], l, share, cost, _, hr, hc => by
    have h1 : (0 : Int) ≤ share := by have : (0 : Int) ≤ (roomP m [] : Int) := by omega
                                      omega
    have h2 : cost = 0 := by rw [← hc]; simp [costP]
    simp only [List.map_nil, tryAll, List.append_nil]
    rw [if_neg (by omega), if_pos h2]
    simp
  | (w, d) :: P, l, share, cost, hP, hr, hc => by
    have hw := hP (w, d) (by simp)
    simp only at hw
    have hrest : ∀ p ∈ P, 0 ≤ p.1 ∧ 1 ≤ p.2 ∧ p.2 ≤ 11 := fun p hp => hP p (by simp [hp])
    have hr' : roomP m ((w, d) :: P) = m ^ (11 - d) + roomP m P := by simp [roomP]
    have hc' : costP ((w, d) :: P) = w * (d : Int) + costP P := by simp [costP]
    have hc0 : 0 ≤ costP P := by
      refine sum_nonneg (fun x hx => ?_)
      obtain ⟨p, hp, rfl⟩ := List.mem_map.1 hx
      have := hrest p hp
      exact Int.mul_nonneg this.1 (by omega)
    have hwd : 0 ≤ w * (d : Int) := Int.mul_nonneg hw.1 (by omega)
    rw [hr'] at hr
    simp only [List.map_cons, tryAll]
    rw [if_neg (by omega)]
    refine List.mem_flatMap.2 ⟨d - 1, List.mem_range.2 (by omega), ?_⟩
    have e1 : ((d - 1 : Nat) : Int) + 1 = (d : Int) := by omega
    have e2 : 10 - (d - 1) = 11 - d := by omega
    rw [e1, e2]
    have := tryAll_mem m hm P (l ++ [(d : Int)]) (share - (m : Int) ^ (11 - d)) (cost - (d : Int) * w) hrest (by rw [← Int.natCast_pow]; omega) (by rw [Int.mul_comm]; omega)
    simpa using this

theorem found_some (m : Nat) (hm : 2 ≤ m ∧ m ≤ 3) (ws : List Int) (hl : 0 < ws.length ∧ ws.length ≤ 6) (hw : ∀ x ∈ ws, 0 ≤ x ∧ x ≤ 100) : 0 < (found ws m).length := by
  have fin : ∀ P : List (Int × Nat), (P.map Prod.fst).Perm ws → costP P = best ws m → roomP m P ≤ m ^ 11 → (∀ p ∈ P, 1 ≤ p.2 ∧ p.2 ≤ 11) → 0 < (found ws m).length := by
    intro P h1 h2 h3 h4
    obtain ⟨P', hp, hf⟩ := follow h1 P rfl
    have := tryAll_mem m (by omega) P' [] ((m : Int) ^ 11) (best ws m) (fun p hp2 => ?_) ?_ ?_
    · rw [hf] at this
      exact List.length_pos_of_mem this
    · have h5 := h4 p (hp.mem_iff.1 hp2)
      have h6 := hw p.1 (by rw [← hf]; exact List.mem_map_of_mem hp2)
      exact ⟨h6.1, h5⟩
    · rw [roomP_perm m hp, ← Int.natCast_pow]
      omega
    · rw [costP_perm hp, h2]
  by_cases h1 : ws.length = 1
  · match ws, h1 with
    | [x], _ =>
      refine fin [(x, 1)] (by simp) ?_ ?_ (by simp)
      · simp [costP, best, rd]
      · simp only [roomP, List.map_cons, List.map_nil, List.sum_cons, List.sum_nil]
        exact Nat.pow_le_pow_right (by omega) (by omega)
  · obtain ⟨P, h2, h3, h4, h5⟩ := tree m hm ws.length (if m = 3 ∧ ws.length % 2 = 0 then 2 else m) (srt ws) (by rw [srt_length]; omega) hl.2 (by rw [srt_length]; omega) (by split <;> omega)
      (fun h => by rw [srt_length] at h ⊢; split <;> omega) (fun e h1 h2 => by rw [srt_length] at h1 ⊢; split at h2 <;> omega) (fun e h2 => by rw [srt_length]; split at h2 <;> omega)
    have hlen : P.length = ws.length := by have := h2.length_eq; rw [List.length_map, srt_length] at this; exact this
    refine fin P (h2.trans (srt_perm ws)) ?_ h4 (fun p hp => ?_)
    · rw [h3, best, if_neg h1]
      rfl
    · have := h5 p hp
      rw [srt_length] at this
      refine ⟨?_, by omega⟩
      rcases Nat.eq_zero_or_pos p.2 with h0 | h0
      · exfalso
        obtain ⟨A, B, rfl⟩ := List.append_of_mem hp
        rw [roomP_append] at h4
        have e1 : roomP m (p :: B) = m ^ 11 + roomP m B := by simp [roomP, h0]
        have pos : ∀ Q : List (Int × Nat), 0 < Q.length → 0 < roomP m Q := by
          intro Q hQ
          cases Q with
          | nil => simp at hQ
          | cons q Q =>
            have : 0 < m ^ (11 - q.2) := Nat.pow_pos (by omega)
            simp only [roomP, List.map_cons, List.sum_cons]
            omega
        simp at hlen
        by_cases hA : 0 < A.length
        · have := pos A hA
          omega
        · have := pos B (by omega)
          omega
      · exact h0

end Go.Proofs.Ytmbkdapofcgccaa.Exist
