/- Both searches find the same lists in the same order: what each side's count and list come to. -/
import Derived.Test.YtmbkdapofcgccaaCost
import Derived.Test.YtmbkdapofcgccaaBeFind
import Derived.Test.YtmbkdapofcgccaaAllBest
namespace Go.Proofs.Ytmbkdapofcgccaa.Same
open Go.RowKit Go.Proofs.YtmbkdapofcgccaaW.PrintWords Go.Proofs.YtmbkdapofcgccaaW.PrintLast Go.Proofs.YtmbkdapofcgccaaW.PrintMore Go.Proofs.Ytmbkdapofcgccaa.Cm Go.Proofs.Ytmbkdapofcgccaa.Cost
open Go.Proofs.Ytmbkdapofcgccaa.BeTry (tryAll tryAll_neg pow_bd)
open Go.Proofs.Ytmbkdapofcgccaa.AddCl (addAll)
set_option linter.unusedVariables false
set_option linter.unusedSimpArgs false

/-- The program cuts early what the reference finds empty. -/
theorem same (m due : Int) : ∀ (ws l : List Int) (cost left : Int), cost ≤ due → 0 ≤ left → addAll m due ws l cost left = tryAll m ws l left (due - cost)
  | [], l, cost, left, h1, h2 => by
    simp only [addAll, tryAll]
    rw [if_neg (show ¬ (due - cost < 0 ∨ left < 0) by omega)]
    by_cases e : cost = due
    · rw [if_pos e, if_pos (by omega)]
    · rw [if_neg e, if_neg (by omega)]
  | w :: ws, l, cost, left, h1, h2 => by
    simp only [addAll, tryAll]
    rw [if_neg (show ¬ (due - cost < 0 ∨ left < 0) by omega)]
    congr 1
    funext i
    have e : w * ((i : Int) + 1) = ((i : Int) + 1) * w := Int.mul_comm _ _
    by_cases h : cost + w * ((i : Int) + 1) ≤ due ∧ m ^ (10 - i) ≤ left
    · rw [if_pos h, same m due ws _ _ _ h.1 (by omega)]
      congr 1
      rw [e]
      omega
    · rw [if_neg h, tryAll_neg]
      rw [e] at h
      omega

/-- All best lengths. -/
def found (ws : List Int) (m : Nat) : List (List Int) := tryAll m ws [] ((m : Int) ^ 11) (best ws m)

theorem beFind_ev (m : Nat) (hm : 2 ≤ m ∧ m ≤ 3) (ws : List Int) (hl : 0 < ws.length ∧ ws.length ≤ 12) (hw : ∀ x ∈ ws, 0 ≤ x ∧ x ≤ 100) :
    Ev (fun k => Go.Proofs.Ytmbkdapofcgccaa.BeFind.spec_beFind.f k ws m) ((found ws m).head?.getD [], ((found ws m).length : Int)) := by
  unfold Go.Proofs.Ytmbkdapofcgccaa.BeFind.spec_beFind.f
  simp only [if_pos (show (2 ≤ (m : Int) ∧ (m : Int) ≤ 3) ∧ ws.length ≤ 12 ∧ (∀ x ∈ ws, 0 ≤ x ∧ x ≤ 100) from ⟨by omega, hl.2, hw⟩)]
  have hb := best_bd m ws hl hw
  refine ev_bind (beBest_ev m hm ws hl hw) (h := fun b _ => if -1000000 ≤ b ∧ b ≤ 1000000000000 then some ((tryAll m ws [] ((m : Int) ^ 11) b).head?.getD [], ((tryAll m ws [] ((m : Int) ^ 11) b).length : Int)) else none) (ev_of (fun _ => ?_))
  rw [if_pos (by omega)]
  rfl
theorem allBest_ev (m : Nat) (hm : 2 ≤ m ∧ m ≤ 3) (ws : List Int) (hl : 0 < ws.length ∧ ws.length ≤ 6) (hw : ∀ x ∈ ws, 0 ≤ x ∧ x ≤ 100) :
    Ev (fun k => Go.Proofs.Ytmbkdapofcgccaa.AllBest.impl_allBest.f k ws m) (found ws m) := by
  unfold Go.Proofs.Ytmbkdapofcgccaa.AllBest.impl_allBest.f
  simp only [if_pos (show (2 ≤ (m : Int) ∧ (m : Int) ≤ 3) ∧ (0 < ws.length ∧ ws.length ≤ 6) ∧ (∀ x ∈ ws, 0 ≤ x ∧ x ≤ 100) from ⟨by omega, hl, hw⟩)]
  have hb := best_bd m ws ⟨hl.1, by omega⟩ hw
  have hp := pow_bd m (by omega) 11 (by omega)
  refine ev_bind (bestCost_ev m hm ws ⟨hl.1, by omega⟩ hw) (h := fun b _ => if 0 ≤ b ∧ b ≤ 1000000000 then some (addAll m b ws [] 0 ((m : Int) ^ 11)) else none) (ev_of (fun _ => ?_))
  rw [if_pos (by omega), same m (best ws m) ws [] 0 _ hb.1 (by omega)]
  simp [found]

theorem beAsked_ev (x : List Int) (hl : x.length ≤ 1048576) (a : Int) : Ev (fun k => Go.Proofs.Ytmbkdapofcgccaa.Pr.spec_beAsked.f k x a) (decide (W x ∧ 2 ≤ a ∧ a ≤ 3)) := by
  unfold Go.Proofs.Ytmbkdapofcgccaa.Pr.spec_beAsked.f
  simp only [krLetters_eq, Option.bind_some]
  by_cases h : 2 ≤ a ∧ a ≤ 3
  · simp only [h, and_self, decide_true, if_true, and_true]
    exact ev_bind (beWeights_ev x hl) (ev_some _)
  · simp only [h, decide_false, Bool.false_eq_true, if_false, and_false]
    exact ev_some _
theorem isSearched_ev (x : List Int) (hl : x.length ≤ 1048576) : Ev (fun k => Go.Proofs.Ytmbkdapofcgccaa.Pr.impl_isSearched.f k x) (decide (W x ∧ x.length ≤ 6)) := by
  unfold Go.Proofs.Ytmbkdapofcgccaa.Pr.impl_isSearched.f
  have e : decide (W x ∧ x.length ≤ 6) = (if decide (W x) = true then decide ((x.length : Int) ≤ 6) else false) := by
    by_cases h : W x
    · simp [h]; omega
    · simp [h]
  rw [e]
  refine ev_bind (areWeights_ev x hl) (h := fun t _ => if t = true then some (decide ((x.length : Int) ≤ 6)) else some false) (ev_of (fun _ => ?_))
  split <;> rfl

end Go.Proofs.Ytmbkdapofcgccaa.Same
