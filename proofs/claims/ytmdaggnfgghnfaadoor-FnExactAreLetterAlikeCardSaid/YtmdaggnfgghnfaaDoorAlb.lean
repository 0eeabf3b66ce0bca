/- AreLetterAlike: the reference's side, and the law. -/
import Derived.Test.YtmdaggnfgghnfaaDoorAla
import Derived.Test.YtmdaggnfgghnfaaDoorPeM0
import Derived.Test.YtmdaggnfgghnfaaDoorPlM0
namespace Go.Proofs.YtmdaggnfgghnfaaDoor.Alb
open Go.RowKit Go.Proofs.YtmdaggnfgghnfaaDoorW.PrintWords Go.Proofs.YtmdaggnfgghnfaaDoorW.PrintLast Go.Proofs.YtmdaggnfgghnfaaDoorW.PrintMore Go.Proofs.YtmdaggnfgghnfaaDoor.Wd Go.Proofs.YtmdaggnfgghnfaaDoor.Wset Go.Proofs.YtmdaggnfgghnfaaDoor.Lets Go.Proofs.YtmdaggnfgghnfaaDoor.SrtL Go.Proofs.YtmdaggnfgghnfaaDoor.Ala
set_option linter.unusedVariables false
set_option linter.unusedSimpArgs false
/-- As often in the first m of a as in the first n of b: the difference. -/
def dif (a b : List ByteArray) (x : List Int) (m n : Nat) : Int := (((cnts a).take m).count x : Int) - (((cnts b).take n).count x : Int)
theorem cnt_succ (a : List ByteArray) (x : List Int) (m : Nat) (h : m < a.length) : ((cnts a).take (m + 1)).count x = ((cnts a).take m).count x + (if lets a[m] = x then 1 else 0) := by
  have h' : m < (cnts a).length := by unfold cnts; rw [List.length_map]; exact h
  rw [List.take_succ_eq_append_getElem h', List.count_append, List.count_singleton]
  have e : (cnts a)[m] = lets a[m] := by simp [cnts]
  rw [e]
  by_cases c : lets a[m] = x
  · rw [if_pos c, if_pos (by simpa using c)]
  · rw [if_neg c, if_neg (by simpa using c)]
theorem cnt_le (a : List ByteArray) (x : List Int) (m : Nat) : ((cnts a).take m).count x ≤ m := Nat.le_trans List.count_le_length (by rw [List.length_take]; omega)
theorem good_of {l : List ByteArray} (h : Set l) {i : Nat} (hi : i < l.length) : l[i].size ≤ 1048576 ∧ abc l[i] = true := by
  have := short_of h (List.getElem_mem hi)
  exact ⟨by omega, this.2.2⟩
theorem lets_len (s : ByteArray) : (lets s).length ≤ 1000000 := by show 3 ≤ 1000000; omega
section
variable {a b : List ByteArray}
theorem j3_ok {a b : List ByteArray} (sa : Set a) (sb : Set b) (hl : a.length = b.length) {s : ByteArray} (hs : s.size ≤ 1048576 ∧ abc s = true) (i m : Nat) (hm : m < a.length) (R : Bool × Bool)
    (h : Ev (fun k => Go.Proofs.YtmdaggnfgghnfaaDoor.Pe.spec_AreLetterAlike.l1 k a b s (dif a b (lets s) (m + 1) (m + 1)) a (a.length : Int) (i : Int) (a.length : Int) ((m + 1 : Nat) : Int)) R) :
    Ev (fun k => Go.Proofs.YtmdaggnfgghnfaaDoor.Pe.spec_AreLetterAlike.j3 k a b s (dif a b (lets s) (m + 1) m) (m : Int) a (a.length : Int) (i : Int) (a.length : Int) (m : Int)) R := by
  have hmb : m < b.length := by omega
  have hla := sa.1
  have gb := good_of sb hmb
  obtain ⟨K0, h⟩ := h
  obtain ⟨K1, h1⟩ := wdLetters_ev b[m] gb.1 gb.2
  obtain ⟨K2, h2⟩ := wdLetters_ev s hs.1 hs.2
  obtain ⟨K3, h3⟩ := same_ev (lets b[m]) (lets s) (lets_len _)
  have hc := cnt_succ b (lets s) m hmb
  have b1 := cnt_le a (lets s) (m + 1)
  have b2 := cnt_le b (lets s) m
  refine ev_ge (max (max K0 K1) (max K2 K3)) fun k hk => ?_
  obtain ⟨k, rfl⟩ : ∃ q, k = q + 1 := ⟨k - 1, by omega⟩
  have h := h k (by omega)
  have h1 := h1 k (by omega)
  have h2 := h2 k (by omega)
  have h3 := h3 k (by omega)
  simp only [] at h h1 h2 h3
  simp only [Go.Proofs.YtmdaggnfgghnfaaDoor.Pe.spec_AreLetterAlike.j3]
  rw [if_pos (by omega), if_pos (by omega), rdOf_lt b m hmb, h1, Option.bind_some, h2, Option.bind_some, h3, Option.bind_some, wrap_succ m (by omega)]
  by_cases c : lets b[m] = lets s
  · rw [if_pos (decide_eq_true c)]
    rw [if_pos c] at hc
    have e : wrap64 (dif a b (lets s) (m + 1) m - 1) = dif a b (lets s) (m + 1) (m + 1) := by unfold dif wrap64; omega
    rw [e]
    exact h
  · rw [decide_eq_false c, if_neg Bool.false_ne_true]
    rw [if_neg c] at hc
    have e : dif a b (lets s) (m + 1) m = dif a b (lets s) (m + 1) (m + 1) := by unfold dif; omega
    rw [e]
    exact h
theorem l1_ok {a b : List ByteArray} (sa : Set a) (sb : Set b) (hl : a.length = b.length) {s : ByteArray} (hs : s.size ≤ 1048576 ∧ abc s = true) (i : Nat) (R : Bool × Bool)
    (hend : Ev (fun k => if dif a b (lets s) a.length a.length = 0 then Go.Proofs.YtmdaggnfgghnfaaDoor.Pe.spec_AreLetterAlike.l0 k a b a (a.length : Int) (wrap64 ((i : Int) + 1)) else some (false, true)) R) :
    ∀ (j m : Nat), m + j = a.length → Ev (fun k => Go.Proofs.YtmdaggnfgghnfaaDoor.Pe.spec_AreLetterAlike.l1 k a b s (dif a b (lets s) m m) a (a.length : Int) (i : Int) (a.length : Int) (m : Int)) R := by
  have hla := sa.1
  intro j
  induction j with
  | zero =>
    intro m hm
    refine Ev.step (fun k => ?_) hend
    simp only [Go.Proofs.YtmdaggnfgghnfaaDoor.Pe.spec_AreLetterAlike.l1]
    rw [if_neg (by omega), show m = a.length by omega]
  | succ j ih =>
    intro m hm
    have hma : m < a.length := by omega
    have ga := good_of sa hma
    obtain ⟨K0, h⟩ := j3_ok sa sb hl hs i m hma R (ih (m + 1) (by omega))
    obtain ⟨K1, h1⟩ := wdLetters_ev a[m] ga.1 ga.2
    obtain ⟨K2, h2⟩ := wdLetters_ev s hs.1 hs.2
    obtain ⟨K3, h3⟩ := same_ev (lets a[m]) (lets s) (lets_len _)
    have hc := cnt_succ a (lets s) m hma
    have b1 := cnt_le a (lets s) m
    have b2 := cnt_le b (lets s) m
    refine ev_ge (max (max K0 K1) (max K2 K3)) fun k hk => ?_
    obtain ⟨k, rfl⟩ : ∃ q, k = q + 1 := ⟨k - 1, by omega⟩
    have h := h k (by omega)
    have h1 := h1 k (by omega)
    have h2 := h2 k (by omega)
    have h3 := h3 k (by omega)
    simp only [] at h h1 h2 h3
    simp only [Go.Proofs.YtmdaggnfgghnfaaDoor.Pe.spec_AreLetterAlike.l1]
    rw [if_pos (by omega), if_pos (by omega), if_pos (by omega), rdOf_lt a m hma, h1, Option.bind_some, h2, Option.bind_some, h3, Option.bind_some]
    by_cases c : lets a[m] = lets s
    · rw [if_pos (decide_eq_true c)]
      rw [if_pos c] at hc
      have e : wrap64 (dif a b (lets s) m m + 1) = dif a b (lets s) (m + 1) m := by unfold dif wrap64; omega
      rw [e]
      exact h
    · rw [decide_eq_false c, if_neg Bool.false_ne_true]
      rw [if_neg c] at hc
      have e : dif a b (lets s) m m = dif a b (lets s) (m + 1) m := by unfold dif; omega
      rw [e]
      exact h
theorem l0_ok {a b : List ByteArray} (sa : Set a) (sb : Set b) (hl : a.length = b.length) : ∀ (j i : Nat), i + j = a.length → Ev (fun k => Go.Proofs.YtmdaggnfgghnfaaDoor.Pe.spec_AreLetterAlike.l0 k a b a (a.length : Int) (i : Int)) (decide (∀ q, ∀ h : q < a.length, i ≤ q → (cnts a).count (lets a[q]) = (cnts b).count (lets a[q])), true) := by
  have hla := sa.1
  have full : ∀ x, dif a b x a.length a.length = ((cnts a).count x : Int) - ((cnts b).count x : Int) := fun x => by
    unfold dif
    rw [List.take_of_length_le (by unfold cnts; rw [List.length_map]; omega), List.take_of_length_le (by unfold cnts; rw [List.length_map]; omega)]
  intro j
  induction j with
  | zero =>
    intro i hi
    refine ev_ge 0 fun k hk => ?_
    obtain ⟨k, rfl⟩ : ∃ q, k = q + 1 := ⟨k - 1, by omega⟩
    simp only [Go.Proofs.YtmdaggnfgghnfaaDoor.Pe.spec_AreLetterAlike.l0]
    rw [if_neg (by omega), decide_eq_true (fun q h h1 => by omega)]
  | succ j ih =>
    intro i hi
    have hia : i < a.length := by omega
    refine Ev.step (f := fun k => Go.Proofs.YtmdaggnfgghnfaaDoor.Pe.spec_AreLetterAlike.l1 k a b a[i] (dif a b (lets a[i]) 0 0) a (a.length : Int) (i : Int) (a.length : Int) ((0 : Nat) : Int)) (fun k => ?_) ?_
    · simp only [Go.Proofs.YtmdaggnfgghnfaaDoor.Pe.spec_AreLetterAlike.l0]
      rw [if_pos (by omega), if_pos (by omega), if_pos (by omega), rdOf_lt a i hia]
      rfl
    · refine l1_ok sa sb hl (good_of sa hia) i _ ?_ a.length 0 (by omega)
      rw [full]
      by_cases c : (cnts a).count (lets a[i]) = (cnts b).count (lets a[i])
      · simp only [if_pos (show ((cnts a).count (lets a[i]) : Int) - ((cnts b).count (lets a[i]) : Int) = 0 by omega), wrap_succ i (show i < 1000000000000000000 by omega)]
        have h := ih (i + 1) (by omega)
        have e : decide (∀ q, ∀ h : q < a.length, i + 1 ≤ q → (cnts a).count (lets a[q]) = (cnts b).count (lets a[q])) = decide (∀ q, ∀ h : q < a.length, i ≤ q → (cnts a).count (lets a[q]) = (cnts b).count (lets a[q])) := by
          apply decide_eq_decide.2
          constructor
          · intro hh q h1 h2
            by_cases e : q = i
            · subst e; exact c
            · exact hh q h1 (by omega)
          · exact fun hh q h1 h2 => hh q h1 (by omega)
        rw [← e]
        exact h
      · simp only [if_neg (show ¬ ((cnts a).count (lets a[i]) : Int) - ((cnts b).count (lets a[i]) : Int) = 0 by omega)]
        rw [decide_eq_false (fun hh => c (hh i hia (Nat.le_refl _)))]
        exact ev_some _
end
theorem spec_ev {a b : List ByteArray} (ha : Fit a) (hb : Fit b) : Ev (fun k => Go.Proofs.YtmdaggnfgghnfaaDoor.Pe.spec_AreLetterAlike.f k a b) (tells a b) := by
  unfold Go.Proofs.YtmdaggnfgghnfaaDoor.Pe.spec_AreLetterAlike.f tells
  refine Ev.bind (wdSet_ev a ha) ?_
  by_cases sa : Set a
  · simp only [sa, decide_true, if_true]
    refine Ev.bind (wdSet_ev b hb) ?_
    by_cases sb : Set b
    · simp only [sb, decide_true, if_true, Bool.not_true]
      refine Ev.step (f := fun k => if (a.length : Int) = (b.length : Int) then Go.Proofs.YtmdaggnfgghnfaaDoor.Pe.spec_AreLetterAlike.l0 k a b a (a.length : Int) 0 else some (false, true)) (fun k => ?_) ?_
      · simp only [Go.Proofs.YtmdaggnfgghnfaaDoor.Pe.spec_AreLetterAlike.j0]
        rw [if_neg Bool.false_ne_true]
      · by_cases hl : a.length = b.length
        · simp only [if_pos (show (a.length : Int) = (b.length : Int) by omega)]
          have h := l0_ok sa sb hl a.length 0 (by omega)
          have e : decide (∀ q, ∀ h : q < a.length, 0 ≤ q → (cnts a).count (lets a[q]) = (cnts b).count (lets a[q])) = decide ((cnts a).Perm (cnts b)) := by
            apply decide_eq_decide.2
            rw [perm_iff _ _ (by unfold cnts; rw [List.length_map, List.length_map]; exact hl)]
            constructor
            · intro hh x hx
              unfold cnts at hx
              obtain ⟨s, hs, rfl⟩ := List.mem_map.1 hx
              obtain ⟨q, hq, rfl⟩ := List.getElem_of_mem hs
              exact hh q hq (Nat.zero_le _)
            · intro hh q hq _
              exact hh _ (List.mem_map.2 ⟨a[q], List.getElem_mem hq, rfl⟩)
          rw [← e]
          exact h
        · simp only [if_neg (show ¬ (a.length : Int) = (b.length : Int) by omega)]
          have : decide ((cnts a).Perm (cnts b)) = false := decide_eq_false fun h => hl (by have := h.length_eq; unfold cnts at this; rwa [List.length_map, List.length_map] at this)
          rw [this]
          exact ev_some _
    · simp only [sb, decide_false, if_false, Bool.not_false]
      refine Ev.step (f := fun k => some (false, false)) (fun k => ?_) (ev_some _)
      simp only [Go.Proofs.YtmdaggnfgghnfaaDoor.Pe.spec_AreLetterAlike.j0]
      rw [if_pos trivial]
  · simp only [sa, decide_false, if_false, Bool.false_eq_true]
    refine Ev.step (f := fun k => some (false, false)) (fun k => ?_) (ev_some _)
    simp only [Go.Proofs.YtmdaggnfgghnfaaDoor.Pe.spec_AreLetterAlike.j0]
    rw [if_pos trivial]
theorem pure (l0 l1 : List ByteArray) (b0 : l0.length * 16 ≤ 140737488351232) (s0 : ∀ s ∈ l0, s.size ≤ 9223372036854775807) (b1 : l1.length * 16 ≤ 140737488351232) (s1 : ∀ s ∈ l1, s.size ≤ 9223372036854775807) : ∃ k, Go.Proofs.YtmdaggnfgghnfaaDoor.Pl.laws_FnExactAreLetterAlike.f k l0 l1 = some true := by
  refine Ev.rounds ?_
  unfold Go.Proofs.YtmdaggnfgghnfaaDoor.Pl.laws_FnExactAreLetterAlike.f
  obtain ⟨r, hr, h⟩ := szStringS_ev l0 (by omega) s0 1048576 (by omega) (by omega)
  refine Ev.bind hr ?_
  rcases h with hn | ⟨h0, h9, hf⟩
  · simp only [if_pos hn]
    exact ev_some _
  · simp only [if_neg (show ¬ r < 0 by omega)]
    obtain ⟨r2, hr2, h2⟩ := szStringS_ev l1 (by omega) s1 r h0 h9
    refine Ev.bind hr2 ?_
    rcases h2 with hn2 | ⟨h02, _, hf2⟩
    · simp only [if_pos hn2]
      exact ev_some _
    · simp only [if_neg (show ¬ r2 < 0 by omega)]
      refine Ev.bind (toStringS_ev l0 hf.1) ?_
      refine Ev.bind (toStringS_ev l1 hf2.1) ?_
      refine Ev.bind (spec_ev hf hf2) ?_
      refine Ev.bind (toStringS_ev l0 hf.1) ?_
      refine Ev.bind (toStringS_ev l1 hf2.1) ?_
      refine Ev.bind (impl_ev hf hf2) ?_
      simp only [bne_self_eq_false, Bool.false_eq_true, if_false]
      refine Ev.step (f := fun k => (Go.Proofs.YtmdaggnfgghnfaaDoor.Pc.laws_toStringS.f k l0).bind fun t139 => (Go.Proofs.YtmdaggnfgghnfaaDoor.Pc.laws_eqStringS.f k l0 t139).bind fun t142 => (if t142 = true then ((Go.Proofs.YtmdaggnfgghnfaaDoor.Pc.laws_toStringS.f k l1).bind fun t143 => ((Go.Proofs.YtmdaggnfgghnfaaDoor.Pc.laws_eqStringS.f k l1 t143).bind fun t146 => (if t146 = true then (some true) else (some false)))) else (some false))) (fun k => ?_) ?_
      · simp only [Go.Proofs.YtmdaggnfgghnfaaDoor.Pl.laws_FnExactAreLetterAlike.j0]
        rw [if_neg Bool.false_ne_true]
      · refine Ev.bind (toStringS_ev l0 hf.1) ?_
        refine Ev.bind (eqStringS_ev l0 hf.1) ?_
        simp only [if_true]
        refine Ev.bind (toStringS_ev l1 hf2.1) ?_
        refine Ev.bind (eqStringS_ev l1 hf2.1) ?_
        simp only [if_true]
        exact ev_some _
end Go.Proofs.YtmdaggnfgghnfaaDoor.Alb
