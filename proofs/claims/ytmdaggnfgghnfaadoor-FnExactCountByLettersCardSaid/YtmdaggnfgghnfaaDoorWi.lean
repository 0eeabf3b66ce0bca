/- What the laws' helpers tell of lists of numbers: copies, equal lists. -/
import Derived.Test.YtmdaggnfgghnfaaDoorWd
import Derived.Test.YtmdaggnfgghnfaaDoorPc4
import Derived.Test.YtmdaggnfgghnfaaDoorPc5
namespace Go.Proofs.YtmdaggnfgghnfaaDoor.Wi
open Go.RowKit Go.Proofs.YtmdaggnfgghnfaaDoorW.PrintWords Go.Proofs.YtmdaggnfgghnfaaDoorW.PrintLast Go.Proofs.YtmdaggnfgghnfaaDoorW.PrintMore Go.Proofs.YtmdaggnfgghnfaaDoor.Wd
set_option linter.unusedVariables false

theorem toIntS_loop (x0 : List Int) (hl : x0.length ≤ 1048576) : ∀ (j i k : Nat) (x3 : List Int), i + j = x0.length → x3.length = x0.length → (∀ q, q < i → x3[q]? = x0[q]?) → j < k → Go.Proofs.YtmdaggnfgghnfaaDoor.Pc.laws_toIntS.l0 k x0 x3 i = some x0 := by
  intro j
  induction j with
  | zero =>
    intro i k x3 hi h3 hq hk
    obtain ⟨k, rfl⟩ : ∃ q, k = q + 1 := ⟨k - 1, by omega⟩
    simp only [Go.Proofs.YtmdaggnfgghnfaaDoor.Pc.laws_toIntS.l0]
    rw [if_neg (by omega)]
    congr 1
    apply List.ext_getElem?
    intro q
    by_cases hq' : q < i
    · exact hq q hq'
    · rw [List.getElem?_eq_none (by omega), List.getElem?_eq_none (by omega)]
  | succ j ih =>
    intro i k x3 hi h3 hq hk
    obtain ⟨k, rfl⟩ : ∃ q, k = q + 1 := ⟨k - 1, by omega⟩
    simp only [Go.Proofs.YtmdaggnfgghnfaaDoor.Pc.laws_toIntS.l0]
    rw [if_pos (by omega), if_pos (by omega), if_pos (by omega), wrap_succ i (by omega)]
    refine ih (i + 1) k _ (by omega) (by simpa using h3) (fun q hq' => ?_) (by omega)
    rw [Int.toNat_natCast, rd_lt x0 i (by omega)]
    by_cases e : q = i
    · subst e
      rw [List.getElem?_set_self (by omega), List.getElem?_eq_getElem]
    · rw [List.getElem?_set_ne (by omega)]
      exact hq q (by omega)
theorem toIntS_ev (x0 : List Int) (hl : x0.length ≤ 1048576) : Ev (fun k => Go.Proofs.YtmdaggnfgghnfaaDoor.Pc.laws_toIntS.f k x0) x0 := by
  refine ev_ge x0.length fun k hk => ?_
  unfold Go.Proofs.YtmdaggnfgghnfaaDoor.Pc.laws_toIntS.f
  rw [if_pos (by omega), if_pos (by omega)]
  exact toIntS_loop x0 hl x0.length 0 k _ (by omega) (by simp) (fun q hq => by omega) (by omega)
theorem eqIntS_loop (x0 : List Int) (hl : x0.length ≤ 1048576) : ∀ (j i k : Nat), i + j = x0.length → j < k → Go.Proofs.YtmdaggnfgghnfaaDoor.Pc.laws_eqIntS.l0 k x0 x0 i = some true := by
  intro j
  induction j with
  | zero =>
    intro i k hi hk
    obtain ⟨k, rfl⟩ : ∃ q, k = q + 1 := ⟨k - 1, by omega⟩
    simp only [Go.Proofs.YtmdaggnfgghnfaaDoor.Pc.laws_eqIntS.l0]
    rw [if_neg (by omega)]
  | succ j ih =>
    intro i k hi hk
    obtain ⟨k, rfl⟩ : ∃ q, k = q + 1 := ⟨k - 1, by omega⟩
    simp only [Go.Proofs.YtmdaggnfgghnfaaDoor.Pc.laws_eqIntS.l0]
    rw [if_pos (by omega), if_pos (by omega), if_pos (by omega), if_pos trivial, wrap_succ i (by omega)]
    exact ih (i + 1) k (by omega) (by omega)
theorem eqIntS_ev (x0 : List Int) (hl : x0.length ≤ 1048576) : Ev (fun k => Go.Proofs.YtmdaggnfgghnfaaDoor.Pc.laws_eqIntS.f k x0 x0) true := by
  refine ev_ge x0.length fun k hk => ?_
  unfold Go.Proofs.YtmdaggnfgghnfaaDoor.Pc.laws_eqIntS.f
  rw [if_pos rfl]
  exact eqIntS_loop x0 hl x0.length 0 k (by omega) (by omega)
end Go.Proofs.YtmdaggnfgghnfaaDoor.Wi
