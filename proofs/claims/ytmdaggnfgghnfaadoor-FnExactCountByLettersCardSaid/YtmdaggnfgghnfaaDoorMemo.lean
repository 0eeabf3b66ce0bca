/- The map of counts that are known: what it holds at a key is the count. -/
import Derived.Test.YtmdaggnfgghnfaaDoorKey3
import Derived.Test.YtmdaggnfgghnfaaDoorCnt
namespace Go.Proofs.YtmdaggnfgghnfaaDoor.Memo
open Go Go.RowKit Go.Maps Go.Proofs.YtmdaggnfgghnfaaDoorW.PrintWords Go.Proofs.YtmdaggnfgghnfaaDoor.Key3 Go.Proofs.YtmdaggnfgghnfaaDoor.Cnt
set_option linter.unusedVariables false

/-- A count of letters. -/
def Few (x y z : Int) : Prop := (0 ≤ x ∧ x ≤ 12) ∧ (0 ≤ y ∧ y ≤ 12) ∧ 0 ≤ z ∧ z ≤ 12
theorem wf_few {x : Int} (h : 0 ≤ x ∧ x ≤ 12) : (Lit.int .i64 x).wf = true := WalkArith.wf_i64 (by omega)
theorem Few.key {x y z : Int} (h : Few x y z) : keyOf Tryd.prog 58 (.agg #[.int .i64 x, .int .i64 y, .int .i64 z]) = some (lit3 x y z) := Key3.key x y z (wf_few h.1) (wf_few h.2.1) (wf_few h.2.2)
theorem Few.inj {x y z x' y' z' : Int} (h : Few x y z) (h' : Few x' y' z') (e : lit3 x y z = lit3 x' y' z') : x = x' ∧ y = y' ∧ z = z' :=
  lit3_inj (wf_few h.1) (wf_few h.2.1) (wf_few h.2.2) (wf_few h'.1) (wf_few h'.2.1) (wf_few h'.2.2) e

def Known (own : List (List Int)) (D : DataW Unit) : Prop := ∀ x y z, Few x y z → Maps.has D (lit3 x y z) = true → D.atKey (lit3 x y z) (.lit (.int .i64 0)) = .lit (.int .i64 (cnt own x y z))
def Memo (own : List (List Int)) (gm n : Nat) (W : World) : Prop := ∃ D : DataW Unit, W.ownsMap Tryd.prog 58 (plainElem Tryd.prog 3) gm n D ∧ Known own D

theorem Memo.start (own : List (List Int)) (W : World) : Memo own W.heap.size 0 (W.alloc (.map #[] 0)) :=
  ⟨.map [], World.ownsMap_made W Tryd.prog 58 _, fun x y z _ h => by simp [Maps.has] at h⟩
theorem Memo.kept {own : List (List Int)} {gm n : Nat} {W W' : World} {row : Option Nat} (h : Memo own gm n W) (hg : W.grownBy W' row) (hne : some gm ≠ row) : Memo own gm n W' := by
  obtain ⟨D, h1, h2⟩ := h
  exact ⟨D, h1.kept hg hne, h2⟩
theorem Memo.lt {own : List (List Int)} {gm n : Nat} {W : World} (h : Memo own gm n W) : gm < W.heap.size := by
  obtain ⟨D, h1, _⟩ := h
  exact h1.lt
theorem Memo.move {own : List (List Int)} {gm n : Nat} {W W' : World} (h : Memo own gm n W) (hm : W'.heap[gm]? = W.heap[gm]?) : Memo own gm n W' := by
  obtain ⟨D, ⟨es, clock, h1, h2⟩, h3⟩ := h
  exact ⟨D, ⟨es, clock, hm.trans h1, h2⟩, h3⟩
theorem Memo.mono {own : List (List Int)} {gm n n' : Nat} {W : World} (h : Memo own gm n W) (hn : n ≤ n') : Memo own gm n' W := by
  obtain ⟨D, h1, h2⟩ := h
  exact ⟨D, h1.mono hn, h2⟩
theorem known_put {own : List (List Int)} {D : DataW Unit} {W : World} {gm n : Nat} (ho : W.ownsMap Tryd.prog 58 (plainElem Tryd.prog 3) gm n D) (hk : Known own D) {x y z : Int} (hf : Few x y z) : Known own (D.put (lit3 x y z) (.lit (.int .i64 (cnt own x y z)))) := by
  have hD : IsMap D := by
    obtain ⟨es, clock, _, _, _, rfl⟩ := ho
    exact ⟨_, rfl⟩
  intro x' y' z' hf' hh
  by_cases e : lit3 x' y' z' = lit3 x y z
  · obtain ⟨rfl, rfl, rfl⟩ := hf'.inj hf e
    exact atKey_put_same hD (law.key hf.key) _ _
  · rw [atKey_put_other e]
    rw [has_put_other e] at hh
    exact hk x' y' z' hf' hh

end Go.Proofs.YtmdaggnfgghnfaaDoor.Memo
