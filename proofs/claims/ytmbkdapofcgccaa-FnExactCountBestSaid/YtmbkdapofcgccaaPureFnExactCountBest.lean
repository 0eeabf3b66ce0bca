/- FnExactCountBest in plain Lean: both sides count the same best lengths. -/
import Derived.Test.YtmbkdapofcgccaaPz1
import Derived.Test.YtmbkdapofcgccaaSame
namespace Go.Proofs.Ytmbkdapofcgccaa.Pure
open Go.RowKit Go.Proofs.Ytmbkdapofcgccaa.Pz Go.Proofs.YtmbkdapofcgccaaW.PrintWords Go.Proofs.YtmbkdapofcgccaaW.PrintLast Go.Proofs.Ytmbkdapofcgccaa.Cm Go.Proofs.Ytmbkdapofcgccaa.Cost Go.Proofs.Ytmbkdapofcgccaa.Same

theorem specCount_ev (x : List Int) (hl : x.length ≤ 1048576) (a : Int) : Ev (fun k => spec_CountBest.f k x a) (if (W x ∧ x.length ≤ 6) ∧ 2 ≤ a ∧ a ≤ 3 then (((found x a.toNat).length : Int), true) else (0, false)) := by
  unfold spec_CountBest.f
  refine ev_bind (beAsked_ev x hl a) (h := fun t k => if t = true then (if (x.length : Int) > 6 then (some (0, false)) else ((Go.Proofs.Ytmbkdapofcgccaa.BeFind.spec_beFind.f k x a).bind fun bt102 => (some (bt102.2, true)))) else (some (0, false))) ?_
  by_cases h : W x ∧ 2 ≤ a ∧ a ≤ 3
  · by_cases h6 : x.length ≤ 6
    · obtain ⟨m, rfl⟩ : ∃ m : Nat, a = m := ⟨a.toNat, by omega⟩
      simp only [h, h6, and_self, decide_true, if_true, if_neg (show ¬ (x.length : Int) > 6 by omega), Int.toNat_natCast]
      have hw := h.1
      exact ev_bind (beFind_ev m (by omega) x (by have := hw.1; omega) (fun q hq => by have := hw.2 q hq; omega)) (ev_some _)
    · simp only [h, h6, and_self, decide_true, if_true, if_pos (show (x.length : Int) > 6 by omega), and_false, false_and, if_false]
      exact ev_some _
  · have e : ¬ ((W x ∧ x.length ≤ 6) ∧ 2 ≤ a ∧ a ≤ 3) := fun h2 => h ⟨h2.1.1, h2.2⟩
    simp only [h, e, decide_false, Bool.false_eq_true, if_false]
    exact ev_some _
theorem implCount_ev (x : List Int) (hl : x.length ≤ 1048576) (a : Int) : Ev (fun k => impl_CountBest.f k x a) (if (W x ∧ x.length ≤ 6) ∧ 2 ≤ a ∧ a ≤ 3 then (((found x a.toNat).length : Int), true) else (0, false)) := by
  unfold impl_CountBest.f
  simp only [areLetters_eq, Option.bind_some]
  refine ev_bind (isSearched_ev x hl) (h := fun t k => if t = true then (if decide (2 ≤ a ∧ a ≤ 3) = true then ((Go.Proofs.Ytmbkdapofcgccaa.AllBest.impl_allBest.f k x a).bind fun t108 => (some ((t108.length : Int), true))) else (some (0, false))) else (some (0, false))) ?_
  by_cases h : W x ∧ x.length ≤ 6
  · by_cases ha : 2 ≤ a ∧ a ≤ 3
    · obtain ⟨m, rfl⟩ : ∃ m : Nat, a = m := ⟨a.toNat, by omega⟩
      simp only [h, ha, and_self, decide_true, if_true, Int.toNat_natCast]
      have hw := h.1
      exact ev_bind (allBest_ev m (by omega) x (by have := hw.1; omega) (fun q hq => by have := hw.2 q hq; omega)) (ev_some _)
    · simp only [h, ha, and_self, decide_true, decide_false, if_true, Bool.false_eq_true, if_false, and_false]
      exact ev_some _
  · simp only [h, decide_false, Bool.false_eq_true, if_false, false_and]
    exact ev_some _

theorem FnExactCountBest : laws_FnExactCountBest.Pure := by
  intro l0 a1 _ _ _ _
  unfold laws_FnExactCountBest.f
  by_cases hl : (l0.length : Int) > 1048576
  · exact ⟨0, by rw [if_pos hl]⟩
  · have hl' : l0.length ≤ 1048576 := by omega
    have last : Ev (fun k => laws_FnExactCountBest.j0 k l0 l0 false) true := by
      refine Ev.step (f := fun k => (Go.Proofs.Ytmbkdapofcgccaa.Pr.laws_toIntS.f k l0).bind fun t => (Go.Proofs.Ytmbkdapofcgccaa.Pr.laws_eqIntS.f k l0 t).bind fun t124 => if t124 = true then some true else some false) (fun k => ?_) ?_
      · simp only [laws_FnExactCountBest.j0]
        rw [if_neg (by decide)]
      · exact ev_bind (toIntS_ev l0 hl') (h := fun t k => (Go.Proofs.Ytmbkdapofcgccaa.Pr.laws_eqIntS.f k l0 t).bind fun t124 => if t124 = true then some true else some false) (ev_bind (eqIntS_ev l0 hl') (h := fun t124 _ => if t124 = true then some true else some false) (ev_of (fun _ => rfl)))
    have := Ev.rounds (ev_bind (toIntS_ev l0 hl') (h := fun t111 k => (spec_CountBest.f k t111 a1).bind fun bt114 => ((Go.Proofs.Ytmbkdapofcgccaa.Pr.laws_toIntS.f k l0).bind fun t116 => ((impl_CountBest.f k t116 a1).bind fun bt119 => (if bt119.1 = bt114.1 then (laws_FnExactCountBest.j0 k l0 t116 (bt119.2 != bt114.2)) else (laws_FnExactCountBest.j0 k l0 t116 true)))))
      (ev_bind (specCount_ev l0 hl' a1) (h := fun bt114 k => ((Go.Proofs.Ytmbkdapofcgccaa.Pr.laws_toIntS.f k l0).bind fun t116 => ((impl_CountBest.f k t116 a1).bind fun bt119 => (if bt119.1 = bt114.1 then (laws_FnExactCountBest.j0 k l0 t116 (bt119.2 != bt114.2)) else (laws_FnExactCountBest.j0 k l0 t116 true)))))
      (ev_bind (toIntS_ev l0 hl') (h := fun t116 k => ((impl_CountBest.f k t116 a1).bind fun bt119 => (if bt119.1 = (if (W l0 ∧ l0.length ≤ 6) ∧ 2 ≤ a1 ∧ a1 ≤ 3 then (((found l0 a1.toNat).length : Int), true) else (0, false)).1 then (laws_FnExactCountBest.j0 k l0 t116 (bt119.2 != (if (W l0 ∧ l0.length ≤ 6) ∧ 2 ≤ a1 ∧ a1 ≤ 3 then (((found l0 a1.toNat).length : Int), true) else (0, false)).2)) else (laws_FnExactCountBest.j0 k l0 t116 true))))
      (ev_bind (implCount_ev l0 hl' a1) (h := fun bt119 k => (if bt119.1 = (if (W l0 ∧ l0.length ≤ 6) ∧ 2 ≤ a1 ∧ a1 ≤ 3 then (((found l0 a1.toNat).length : Int), true) else (0, false)).1 then (laws_FnExactCountBest.j0 k l0 l0 (bt119.2 != (if (W l0 ∧ l0.length ≤ 6) ∧ 2 ≤ a1 ∧ a1 ≤ 3 then (((found l0 a1.toNat).length : Int), true) else (0, false)).2)) else (laws_FnExactCountBest.j0 k l0 l0 true)))
        (y := true) (by simp only [if_true, bne_self_eq_false]; exact last)))))
    obtain ⟨k, hk⟩ := this
    exact ⟨k, by rw [if_neg hl]; exact hk⟩

end Go.Proofs.Ytmbkdapofcgccaa.Pure
