/- How many messages have given counts of letters: the recursion that both sides come to. -/
import Derived.Test.YtmdaggnfgghnfaaDoorWMore
namespace Go.Proofs.YtmdaggnfgghnfaaDoor.Cnt
open Go.RowKit Go.Proofs.YtmdaggnfgghnfaaDoorW.PrintWords
set_option linter.unusedVariables false

/-- A word's letters leave no less than nothing. -/
def Fits (c : List Int) (x y z : Int) : Prop := 0 ≤ x - rd c 0 ∧ 0 ≤ y - rd c 1 ∧ 0 ≤ z - rd c 2
instance (c : List Int) (x y z : Int) : Decidable (Fits c x y z) := by unfold Fits; exact inferInstance
def cntF (own : List (List Int)) : Nat → Int → Int → Int → Int
  | 0, _, _, _ => 1
  | f + 1, x, y, z => if x = 0 ∧ y = 0 ∧ z = 0 then 1 else own.foldl (fun s c => if Fits c x y z then wrap64 (s + cntF own f (x - rd c 0) (y - rd c 1) (z - rd c 2)) else s) 0
/-- Each word has a letter. -/
def Good (own : List (List Int)) : Prop := ∀ c ∈ own, (0 ≤ rd c 0 ∧ 0 ≤ rd c 1 ∧ 0 ≤ rd c 2) ∧ 1 ≤ rd c 0 + rd c 1 + rd c 2

theorem foldl_same {α β : Type} (f g : β → α → β) : ∀ (l : List α) (b : β), (∀ s, ∀ a ∈ l, f s a = g s a) → l.foldl f b = l.foldl g b
  | [], _, _ => rfl
  | a :: l, b, h => by
    simp only [List.foldl_cons]
    rw [h b a (by simp)]
    exact foldl_same f g l _ (fun s x hx => h s x (by simp [hx]))
theorem cntF_succ (own : List (List Int)) (hg : Good own) : ∀ (f : Nat) (x y z : Int), 0 ≤ x → 0 ≤ y → 0 ≤ z → x + y + z ≤ f → cntF own (f + 1) x y z = cntF own f x y z
  | 0, x, y, z, hx, hy, hz, h => by
    simp only [cntF]
    rw [if_pos (by omega)]
  | f + 1, x, y, z, hx, hy, hz, h => by
    rw [cntF, cntF]
    by_cases h0 : x = 0 ∧ y = 0 ∧ z = 0
    · rw [if_pos h0, if_pos h0]
    · rw [if_neg h0, if_neg h0]
      refine foldl_same _ _ _ _ (fun s c hc => ?_)
      by_cases hf : Fits c x y z
      · have hgc := hg c hc
        have hf' := hf
        unfold Fits at hf'
        rw [if_pos hf, if_pos hf, cntF_succ own hg f _ _ _ hf'.1 hf'.2.1 hf'.2.2 (by omega)]
      · rw [if_neg hf, if_neg hf]
theorem cntF_more (own : List (List Int)) (hg : Good own) (f : Nat) (x y z : Int) (hx : 0 ≤ x) (hy : 0 ≤ y) (hz : 0 ≤ z) (h : x + y + z ≤ f) : ∀ n, cntF own (f + n) x y z = cntF own f x y z
  | 0 => rfl
  | n + 1 => by rw [← Nat.add_assoc, cntF_succ own hg (f + n) x y z hx hy hz (by omega), cntF_more own hg f x y z hx hy hz h n]

/-- How many messages. -/
def cnt (own : List (List Int)) (x y z : Int) : Int := cntF own (x + y + z).toNat x y z
theorem cnt_of (own : List (List Int)) (hg : Good own) (f : Nat) (x y z : Int) (hx : 0 ≤ x) (hy : 0 ≤ y) (hz : 0 ≤ z) (h : x + y + z ≤ f) : cntF own f x y z = cnt own x y z := by
  have := cntF_more own hg (x + y + z).toNat x y z hx hy hz (by omega) (f - (x + y + z).toNat)
  rw [show (x + y + z).toNat + (f - (x + y + z).toNat) = f by omega] at this
  exact this
theorem cnt_zero (own : List (List Int)) : cnt own 0 0 0 = 1 := rfl
/-- One step. -/
theorem cnt_step (own : List (List Int)) (hg : Good own) (x y z : Int) (hx : 0 ≤ x) (hy : 0 ≤ y) (hz : 0 ≤ z) (h0 : ¬ (x = 0 ∧ y = 0 ∧ z = 0)) :
    cnt own x y z = own.foldl (fun s c => if Fits c x y z then wrap64 (s + cnt own (x - rd c 0) (y - rd c 1) (z - rd c 2)) else s) 0 := by
  rw [← cnt_of own hg ((x + y + z).toNat + 1) x y z hx hy hz (by omega), cntF, if_neg h0]
  refine foldl_same _ _ _ _ (fun s c hc => ?_)
  by_cases hf : Fits c x y z
  · have hgc := hg c hc
    have hf' := hf
    unfold Fits at hf'
    rw [if_pos hf, if_pos hf, cnt_of own hg _ _ _ _ hf'.1 hf'.2.1 hf'.2.2 (by omega)]
  · rw [if_neg hf, if_neg hf]
end Go.Proofs.YtmdaggnfgghnfaaDoor.Cnt
