/- The reference's table of counts. -/
import Derived.Test.YtmdaggnfgghnfaaDoorPureCbl
namespace Go.Proofs.YtmdaggnfgghnfaaDoor.Tbl
open Go.RowKit Go.Proofs.YtmdaggnfgghnfaaDoorW.PrintWords Go.Proofs.YtmdaggnfgghnfaaDoorW.PrintLast Go.Proofs.YtmdaggnfgghnfaaDoorW.PrintMore Go.Proofs.YtmdaggnfgghnfaaDoor.Wd Go.Proofs.YtmdaggnfgghnfaaDoor.Wset Go.Proofs.YtmdaggnfgghnfaaDoor.Lets Go.Proofs.YtmdaggnfgghnfaaDoor.Cnt Go.Proofs.YtmdaggnfgghnfaaDoor.Memo Go.Proofs.YtmdaggnfgghnfaaDoor.Cb Go.Proofs.YtmdaggnfgghnfaaDoor.Cbl Go.Proofs.YtmdaggnfgghnfaaDoor.PureCbl
set_option linter.unusedVariables false
set_option linter.unusedSimpArgs false

def idx (B C X Y Z : Nat) : Nat := (X * B + Y) * C + Z
theorem dec_z {B C X Y Z : Nat} (hz : Z < C) : idx B C X Y Z % C = Z := by
  unfold idx
  rw [Nat.add_comm, Nat.add_mul_mod_self_right, Nat.mod_eq_of_lt hz]
theorem dec_q {B C X Y Z : Nat} (hz : Z < C) : idx B C X Y Z / C = X * B + Y := by
  unfold idx
  rw [Nat.add_comm, Nat.add_mul_div_right _ _ (by omega), Nat.div_eq_of_lt hz, Nat.zero_add]
theorem dec_y {B C X Y Z : Nat} (hy : Y < B) (hz : Z < C) : idx B C X Y Z / C % B = Y := by
  rw [dec_q hz, Nat.add_comm, Nat.add_mul_mod_self_right, Nat.mod_eq_of_lt hy]
theorem dec_x {B C X Y Z : Nat} (hy : Y < B) (hz : Z < C) : idx B C X Y Z / (B * C) = X := by
  rw [Nat.mul_comm B C, ← Nat.div_div_eq_div_mul, dec_q hz, Nat.add_comm, Nat.add_mul_div_right _ _ (by omega), Nat.div_eq_of_lt hy, Nat.zero_add]
theorem enc (B C q : Nat) (hB : 0 < B) (hC : 0 < C) : idx B C (q / (B * C)) (q / C % B) (q % C) = q := by
  unfold idx
  rw [Nat.mul_comm B C, ← Nat.div_div_eq_div_mul]
  have h1 := Nat.div_add_mod (q / C) B
  have h2 := Nat.div_add_mod q C
  rw [Nat.mul_comm (q / C / B) B, h1, Nat.mul_comm, h2]
theorem idx_lt {B C X Y Z X' Y' Z' : Nat} (hB : 0 < B) (hC : 0 < C) (hx : X' ≤ X) (hy : Y' ≤ Y) (hz : Z' ≤ Z) (hne : X' + Y' + Z' < X + Y + Z) : idx B C X' Y' Z' < idx B C X Y Z := by
  unfold idx
  have p1 : X' * B ≤ X * B := Nat.mul_le_mul_right _ hx
  have p2 : X' < X → X' * B + 1 ≤ X * B := fun h => by
    have := Nat.mul_le_mul_right B (show X' + 1 ≤ X from h)
    rw [Nat.succ_mul] at this
    omega
  have q1 : (X' * B + Y') * C ≤ (X * B + Y) * C := Nat.mul_le_mul_right _ (by omega)
  have q2 : X' * B + Y' < X * B + Y → (X' * B + Y') * C + 1 ≤ (X * B + Y) * C := fun h => by
    have := Nat.mul_le_mul_right C (show X' * B + Y' + 1 ≤ X * B + Y from h)
    rw [Nat.succ_mul] at this
    omega
  by_cases h1 : X' < X
  · have := p2 h1
    have := q2 (by omega)
    omega
  · by_cases h2 : Y' < Y
    · have := q2 (by omega)
      omega
    · omega
theorem wr (n : Nat) (h : n < 1000000000000000000) : wrap64 (n : Int) = n := by unfold wrap64; omega
theorem rd_nat (T : List Int) (q : Nat) : rd T (q : Int) = T.getD q 0 := by simp [rd]

section
variable (l : List ByteArray) (A B C : Nat)
/-- What a place of the table is to hold. -/
def val (q : Nat) : Int := cnt (l.map lets) ((q / (B * C) : Nat) : Int) ((q / C % B : Nat) : Int) ((q % C : Nat) : Int)
structure Good (T : List Int) (p : Nat) : Prop where
  len : T.length = A * B * C
  old : ∀ q, q < p → T.getD q 0 = val l B C q
  new : ∀ q, p ≤ q → T.getD q 0 = 0
end

theorem getD_set_self (T : List Int) (p : Nat) (v : Int) (h : p < T.length) : (T.set p v).getD p 0 = v := by
  simp [List.getD_eq_getElem?_getD, List.getElem?_set_self h]
theorem getD_set_ne (T : List Int) (p q : Nat) (v : Int) (h : p ≠ q) : (T.set p v).getD q 0 = T.getD q 0 := by
  simp [List.getD_eq_getElem?_getD, List.getElem?_set_ne h]

set_option maxHeartbeats 1000000 in
theorem l1_ev (l : List ByteArray) (hs : Set l) (hl : Fit l) (A B C : Nat) (hB : 0 < B ∧ B ≤ 13) (hC : 0 < C ∧ C ≤ 13) (T : List Int) (p : Nat) (hp : p < A * B * C) (hN : A * B * C ≤ 100000) (hT : Good l A B C T p) (X Y Z : Nat) (hX : X ≤ 12) (hY : Y < B) (hZ : Z < C) (hpe : p = idx B C X Y Z) (r : Int × Bool)
    (hcont : Ev (fun k => Go.Proofs.YtmdaggnfgghnfaaDoor.Pc.spec_CountByLetters.l0 k l (B : Int) (C : Int) (T.set p (psum (l.map lets) X Y Z l.length)) ((p + 1 : Nat) : Int)) r) :
    ∀ (j i : Nat), i + j = l.length → Ev (fun k => Go.Proofs.YtmdaggnfgghnfaaDoor.Pc.spec_CountByLetters.l1 k l (B : Int) (C : Int) (T.set p (psum (l.map lets) X Y Z i)) (p : Int) (X : Int) (Y : Int) (Z : Int) l (l.length : Int) (i : Int)) r := by
  intro j
  induction j with
  | zero =>
    intro i hi
    have : i = l.length := by omega
    subst this
    obtain ⟨K, hK⟩ := hcont
    refine ev_ge K fun k hk => ?_
    obtain ⟨k, rfl⟩ : ∃ q, k = q + 1 := ⟨k - 1, by omega⟩
    have := hK k (by omega)
    simp only [] at this
    simp only [Go.Proofs.YtmdaggnfgghnfaaDoor.Pc.spec_CountByLetters.l1]
    rw [if_neg (by omega), wrap_succ p (by omega), this]
  | succ j ih =>
    intro i hi
    have hlt : i < l.length := by omega
    have hl12 := hs.1
    obtain ⟨g1, g2, g3⟩ := short_of hs (List.getElem_mem hlt)
    obtain ⟨K1, h1⟩ := wdLetters_ev l[i] (by omega) g3
    obtain ⟨K2, h2⟩ := ih (i + 1) (by omega)
    refine ev_ge (max K1 K2) fun k hk => ?_
    obtain ⟨k, rfl⟩ : ∃ q, k = q + 1 := ⟨k - 1, by omega⟩
    have h1' := h1 k (by omega)
    have h2' := h2 k (by omega)
    simp only [] at h1' h2'
    have hps : psum (l.map lets) X Y Z (i + 1) = if Fits (lets l[i]) X Y Z then wrap64 (psum (l.map lets) X Y Z i + cnt (l.map lets) (X - rd (lets l[i]) 0) (Y - rd (lets l[i]) 1) (Z - rd (lets l[i]) 2)) else psum (l.map lets) X Y Z i := by
      have := psum_succ (l.map lets) X Y Z i (by simpa using hlt)
      simpa using this
    rw [hps] at h2'
    have hn := lets_nonneg l[i]
    have hsum := lets_sum l[i] g3
    have hlen3 : (lets l[i]).length = 3 := rfl
    simp only [Go.Proofs.YtmdaggnfgghnfaaDoor.Pc.spec_CountByLetters.l1]
    rw [if_pos (by omega), if_pos (by omega), if_pos (by omega), rdOf_lt l i hlt, h1', Option.bind_some, if_pos (by omega), wrap_succ i (by omega)]
    by_cases c0 : rd (lets l[i]) 0 ≤ X
    · rw [if_pos c0, if_pos (by omega)]
      by_cases c1 : rd (lets l[i]) 1 ≤ Y
      · rw [if_pos c1, if_pos (by omega)]
        by_cases c2 : rd (lets l[i]) 2 ≤ Z
        · rw [if_pos c2]
          obtain ⟨X', hX'⟩ : ∃ n : Nat, (X : Int) - rd (lets l[i]) 0 = n := ⟨((X : Int) - rd (lets l[i]) 0).toNat, by omega⟩
          obtain ⟨Y', hY'⟩ : ∃ n : Nat, (Y : Int) - rd (lets l[i]) 1 = n := ⟨((Y : Int) - rd (lets l[i]) 1).toNat, by omega⟩
          obtain ⟨Z', hZ'⟩ : ∃ n : Nat, (Z : Int) - rd (lets l[i]) 2 = n := ⟨((Z : Int) - rd (lets l[i]) 2).toNat, by omega⟩
          have hlt' : idx B C X' Y' Z' < p := by rw [hpe]; exact idx_lt hB.1 hC.1 (by omega) (by omega) (by omega) (by omega)
          have hval : val l B C (idx B C X' Y' Z') = cnt (l.map lets) X' Y' Z' := by
            unfold val
            rw [dec_x (by omega) (by omega), dec_y (by omega) (by omega), dec_z (by omega)]
          have b1 : X' * B ≤ 12 * 13 := Nat.mul_le_mul (by omega) hB.2
          have b2 : (X' * B) * C ≤ (12 * 13) * 13 := Nat.mul_le_mul b1 hC.2
          have b3 : Y' * C ≤ 13 * 13 := Nat.mul_le_mul (by omega) hC.2
          have ee : wrap64 (wrap64 (wrap64 (wrap64 (wrap64 (wrap64 (X - rd (lets l[i]) 0) * B) * C) + wrap64 (wrap64 (Y - rd (lets l[i]) 1) * C)) + Z) - rd (lets l[i]) 2) = ((idx B C X' Y' Z' : Nat) : Int) := by
            rw [hX', hY', wr X' (by omega), wr Y' (by omega), ← Int.natCast_mul, wr (X' * B) (by omega), ← Int.natCast_mul, ← Int.natCast_mul, wr (X' * B * C) (by omega), wr (Y' * C) (by omega), ← Int.natCast_add, wr (X' * B * C + Y' * C) (by omega), ← Int.natCast_add, wr (X' * B * C + Y' * C + Z) (by omega)]
            have : ((X' * B * C + Y' * C + Z : Nat) : Int) - rd (lets l[i]) 2 = ((X' * B * C + Y' * C + Z' : Nat) : Int) := by
              rw [Int.natCast_add _ Z, Int.natCast_add _ Z']
              omega
            rw [this, wr _ (by omega)]
            unfold idx
            rw [Nat.add_mul]
          rw [ee]
          have hTl := hT.len
          rw [if_pos (by omega), if_pos (by rw [List.length_set]; omega), if_pos (by omega), if_pos (by rw [List.length_set]; omega), Int.toNat_natCast, rd_nat, rd_nat, getD_set_self _ _ _ (by omega), getD_set_ne _ _ _ _ (by omega), hT.old _ hlt', hval, List.set_set]
          rw [if_pos (by unfold Fits; omega), hX', hY', hZ'] at h2'
          exact h2'
        · rw [if_neg c2]
          rw [if_neg (by unfold Fits; omega)] at h2'
          exact h2'
      · rw [if_neg c1]
        rw [if_neg (by unfold Fits; omega)] at h2'
        exact h2'
    · rw [if_neg c0]
      rw [if_neg (by unfold Fits; omega)] at h2'
      exact h2'

set_option maxHeartbeats 1000000 in
theorem l0_ev (l : List ByteArray) (hs : Set l) (hl : Fit l) (A B C : Nat) (hA : 0 < A ∧ A ≤ 13) (hB : 0 < B ∧ B ≤ 13) (hC : 0 < C ∧ C ≤ 13) (hN : A * B * C ≤ 100000) (hN1 : 1 ≤ A * B * C) :
    ∀ (j p : Nat) (T : List Int), p + j = A * B * C → 1 ≤ p → Good l A B C T p → Ev (fun k => Go.Proofs.YtmdaggnfgghnfaaDoor.Pc.spec_CountByLetters.l0 k l (B : Int) (C : Int) T (p : Int)) (val l B C (A * B * C - 1), true) := by
  intro j
  induction j with
  | zero =>
    intro p T hp h1 hT
    have hTl := hT.len
    refine ev_ge 0 fun k hk => ?_
    obtain ⟨k, rfl⟩ : ∃ q, k = q + 1 := ⟨k - 1, by omega⟩
    simp only [Go.Proofs.YtmdaggnfgghnfaaDoor.Pc.spec_CountByLetters.l0]
    have e : wrap64 ((T.length : Int) - 1) = ((A * B * C - 1 : Nat) : Int) := by rw [hTl]; unfold wrap64; omega
    rw [if_neg (by omega), e, if_pos (by omega), if_pos (by omega), rd_nat, hT.old _ (by omega)]
  | succ j ih =>
    intro p T hp h1 hT
    have hTl := hT.len
    have hBC : B * C ≤ 13 * 13 := Nat.mul_le_mul hB.2 hC.2
    have hBC0 : 0 < B * C := Nat.mul_pos hB.1 hC.1
    have hX : p / (B * C) < A := by
      rw [Nat.div_lt_iff_lt_mul hBC0, ← Nat.mul_assoc]
      omega
    have hY : p / C % B < B := Nat.mod_lt _ hB.1
    have hZ : p % C < C := Nat.mod_lt _ hC.1
    have hpe := (enc B C p hB.1 hC.1).symm
    have hX0 : (0 : Int) ≤ ((p / (B * C) : Nat) : Int) := Int.natCast_nonneg _
    have hfew : Few ((p / (B * C) : Nat) : Int) ((p / C % B : Nat) : Int) ((p % C : Nat) : Int) := by unfold Few; omega
    have hne : ¬ (((p / (B * C) : Nat) : Int) = 0 ∧ ((p / C % B : Nat) : Int) = 0 ∧ ((p % C : Nat) : Int) = 0) := by
      rintro ⟨e1, e2, e3⟩
      have f1 : p / (B * C) = 0 := by omega
      have f2 : p / C % B = 0 := by omega
      have f3 : p % C = 0 := by omega
      rw [f1, f2, f3] at hpe
      simp [idx] at hpe
      omega
    have hps : psum (l.map lets) ((p / (B * C) : Nat) : Int) ((p / C % B : Nat) : Int) ((p % C : Nat) : Int) l.length = val l B C p := by
      have := psum_all (l.map lets) (ok_set hs).1 _ _ _ hfew hne
      rw [List.length_map] at this
      exact this
    have hG : Good l A B C (T.set p (val l B C p)) (p + 1) := by
      refine ⟨by rw [List.length_set]; exact hTl, fun q hq => ?_, fun q hq => ?_⟩
      · by_cases e : q = p
        · subst e
          exact getD_set_self _ _ _ (by omega)
        · rw [getD_set_ne _ _ _ _ (by omega)]
          exact hT.old q (by omega)
      · rw [getD_set_ne _ _ _ _ (by omega)]
        exact hT.new q (by omega)
    have hc := ih (p + 1) _ (by omega) (by omega) hG
    rw [← hps] at hc
    have h := l1_ev l hs hl A B C hB hC T p (by omega) hN hT _ _ _ (by omega) hY hZ hpe _ hc l.length 0 (by omega)
    have hT0 : T.set p (psum (l.map lets) ((p / (B * C) : Nat) : Int) ((p / C % B : Nat) : Int) ((p % C : Nat) : Int) 0) = T := by
      have hz := hT.new p (Nat.le_refl _)
      rw [show psum (l.map lets) ((p / (B * C) : Nat) : Int) ((p / C % B : Nat) : Int) ((p % C : Nat) : Int) 0 = 0 by simp [psum]]
      apply List.ext_getElem?
      intro q
      by_cases e : q = p
      · subst e
        rw [List.getElem?_set_self (by omega), List.getElem?_eq_getElem (by omega)]
        rw [List.getD_eq_getElem?_getD, List.getElem?_eq_getElem (by omega)] at hz
        simpa using hz.symm
      · rw [List.getElem?_set_ne (by omega)]
    rw [hT0] at h
    obtain ⟨K, hK⟩ := h
    refine ev_ge K fun k hk => ?_
    obtain ⟨k, rfl⟩ : ∃ q, k = q + 1 := ⟨k - 1, by omega⟩
    have := hK k (by omega)
    simp only [] at this
    simp only [Go.Proofs.YtmdaggnfgghnfaaDoor.Pc.spec_CountByLetters.l0]
    have e1 : wrap64 ((B : Int) * (C : Int)) = ((B * C : Nat) : Int) := by rw [← Int.natCast_mul]; exact wr _ (by omega)
    have e2 : wrap64 (Int.tdiv (p : Int) ((B * C : Nat) : Int)) = ((p / (B * C) : Nat) : Int) := by
      rw [← Int.ofNat_tdiv]
      exact wr _ (by have := Nat.div_le_self p (B * C); omega)
    have e3 : Int.tmod (wrap64 (Int.tdiv (p : Int) (C : Int))) (B : Int) = ((p / C % B : Nat) : Int) := by
      rw [← Int.ofNat_tdiv, wr _ (by have := Nat.div_le_self p C; omega), ← Int.ofNat_tmod]
    have e4 : Int.tmod (p : Int) (C : Int) = ((p % C : Nat) : Int) := (Int.ofNat_tmod p C).symm
    have n1 : ¬ ((B * C : Nat) : Int) = 0 := fun h => Nat.ne_of_gt hBC0 (Int.ofNat.inj h)
    have n2 : ¬ ((C : Nat) : Int) = 0 := fun h => Nat.ne_of_gt hC.1 (Int.ofNat.inj h)
    have n3 : ¬ ((B : Nat) : Int) = 0 := fun h => Nat.ne_of_gt hB.1 (Int.ofNat.inj h)
    have n0 : ((p : Nat) : Int) < (T.length : Int) := Int.ofNat_lt.2 (by rw [hTl]; omega)
    rw [if_pos n0, e1, if_neg n1, if_neg n2, if_neg n3, e2, e3, e4]
    exact this

open Classical in
theorem spec_ev (l : List ByteArray) (hl : Fit l) (c : List Int) : Ev (fun k => Go.Proofs.YtmdaggnfgghnfaaDoor.Pc.spec_CountByLetters.f k l c) (dueC l c) := by
  unfold Go.Proofs.YtmdaggnfgghnfaaDoor.Pc.spec_CountByLetters.f
  refine Ev.bind (wdSet_ev l hl) ?_
  have no : dueC l c = (0, false) → ∀ g, (∀ k, g (k + 1) = some ((0 : Int), false)) → Ev g (dueC l c) := fun h g hg => by
    rw [h]
    exact ev_ge 0 fun k hk => by
      obtain ⟨k, rfl⟩ : ∃ q, k = q + 1 := ⟨k - 1, by omega⟩
      exact hg k
  by_cases hs : Set l
  · simp only [hs, decide_true, if_true]
    obtain ⟨b, hb, hb2⟩ := leCounts_ev c
    refine Ev.bind hb ?_
    cases b with
    | false =>
      refine no (by unfold dueC; rw [if_neg (fun h => by have := hb2.2 h.2; cases this)]) _ fun k => ?_
      simp only [Go.Proofs.YtmdaggnfgghnfaaDoor.Pc.spec_CountByLetters.j0]
      rfl
    | true =>
      obtain ⟨x, y, z, rfl, hc⟩ := hb2.1 rfl
      have hf := hc.1
      have hsum := hc.2
      unfold Few at hf
      obtain ⟨X, rfl⟩ : ∃ n : Nat, x = n := ⟨x.toNat, by omega⟩
      obtain ⟨Y, rfl⟩ : ∃ n : Nat, y = n := ⟨y.toNat, by omega⟩
      obtain ⟨Z, rfl⟩ : ∃ n : Nat, z = n := ⟨z.toNat, by omega⟩
      have hd : dueC l [(X : Int), (Y : Int), (Z : Int)] = (cnt (l.map lets) X Y Z, true) := by
        unfold dueC
        rw [if_pos ⟨hs, _, _, _, rfl, hc⟩]
        rfl
      rw [hd]
      have hB : Y + 1 ≤ 13 := by omega
      have hC : Z + 1 ≤ 13 := by omega
      have hAB : (X + 1) * (Y + 1) ≤ 13 * 13 := Nat.mul_le_mul (by omega) hB
      have hN : (X + 1) * (Y + 1) * (Z + 1) ≤ 13 * 13 * 13 := Nat.mul_le_mul hAB hC
      have hN1 : 1 ≤ (X + 1) * (Y + 1) * (Z + 1) := Nat.mul_pos (Nat.mul_pos (by omega) (by omega)) (by omega)
      have hlast : (X + 1) * (Y + 1) * (Z + 1) - 1 = idx (Y + 1) (Z + 1) X Y Z := by
        unfold idx
        have : (X + 1) * (Y + 1) = X * (Y + 1) + Y + 1 := by rw [Nat.succ_mul]; rfl
        rw [this, Nat.succ_mul (X * (Y + 1) + Y)]
        omega
      have hG : Good l (X + 1) (Y + 1) (Z + 1) ((List.replicate ((X + 1) * (Y + 1) * (Z + 1)) (0 : Int)).set 0 1) 1 := by
        refine ⟨by simp, fun q hq => ?_, fun q hq => ?_⟩
        · obtain rfl : q = 0 := by omega
          rw [getD_set_self _ _ _ (by rw [List.length_replicate]; omega)]
          unfold val
          simp [cnt_zero]
        · rw [getD_set_ne _ _ _ _ (by omega)]
          simp only [List.getD_eq_getElem?_getD, List.getElem?_replicate]
          split <;> rfl
      have h0 := l0_ev l hs hl (X + 1) (Y + 1) (Z + 1) (by omega) (by omega) (by omega) (by omega) hN1 ((X + 1) * (Y + 1) * (Z + 1) - 1) 1 _ (by omega) (Nat.le_refl _) hG
      have hv : val l (Y + 1) (Z + 1) ((X + 1) * (Y + 1) * (Z + 1) - 1) = cnt (l.map lets) X Y Z := by
        rw [hlast]
        unfold val
        rw [dec_x (by omega) (by omega), dec_y (by omega) (by omega), dec_z (by omega)]
      rw [hv] at h0
      obtain ⟨K, hK⟩ := h0
      refine ev_ge K fun k hk => ?_
      obtain ⟨k, rfl⟩ : ∃ q, k = q + 1 := ⟨k - 1, by omega⟩
      have h := hK k (by omega)
      simp only [] at h
      simp only [Go.Proofs.YtmdaggnfgghnfaaDoor.Pc.spec_CountByLetters.j0, Bool.not_true, Bool.false_eq_true, if_false]
      have e0 : rd [(X : Int), (Y : Int), (Z : Int)] 0 = X := rfl
      have e1 : rd [(X : Int), (Y : Int), (Z : Int)] 1 = Y := rfl
      have e2 : rd [(X : Int), (Y : Int), (Z : Int)] 2 = Z := rfl
      have f0 : wrap64 ((X : Int) + 1) = ((X + 1 : Nat) : Int) := wrap_succ X (by omega)
      have f1 : wrap64 ((Y : Int) + 1) = ((Y + 1 : Nat) : Int) := wrap_succ Y (by omega)
      have f2 : wrap64 ((Z : Int) + 1) = ((Z + 1 : Nat) : Int) := wrap_succ Z (by omega)
      have g1 : wrap64 (((X + 1 : Nat) : Int) * ((Y + 1 : Nat) : Int)) = (((X + 1) * (Y + 1) : Nat) : Int) := by rw [← Int.natCast_mul]; exact wr _ (by omega)
      have g2 : wrap64 ((((X + 1) * (Y + 1) : Nat) : Int) * ((Z + 1 : Nat) : Int)) = (((X + 1) * (Y + 1) * (Z + 1) : Nat) : Int) := by rw [← Int.natCast_mul]; exact wr _ (by omega)
      rw [e0, e1, e2, f0, f1, f2, g1, g2, Int.toNat_natCast]
      have n4 : (0 : Int) ≤ (((X + 1) * (Y + 1) * (Z + 1) : Nat) : Int) := Int.natCast_nonneg _
      have n5 : (X + 1) * (Y + 1) * (Z + 1) ≤ 35184372088832 := Nat.le_trans hN (by decide)
      have n6 : (0 : Int) < ((List.replicate ((X + 1) * (Y + 1) * (Z + 1)) (0 : Int)).length : Int) := by rw [List.length_replicate]; exact Int.ofNat_lt.2 hN1
      rw [if_pos (by simp), if_pos (by simp), if_pos (by simp), if_pos n4, if_pos n5, Option.bind_some, if_pos n6]
      exact h
  · refine no (by unfold dueC; rw [if_neg (fun h => hs h.1)]) _ fun k => ?_
    simp only [hs, decide_false, Bool.false_eq_true, if_false, Go.Proofs.YtmdaggnfgghnfaaDoor.Pc.spec_CountByLetters.j0]
    rfl
end Go.Proofs.YtmdaggnfgghnfaaDoor.Tbl
