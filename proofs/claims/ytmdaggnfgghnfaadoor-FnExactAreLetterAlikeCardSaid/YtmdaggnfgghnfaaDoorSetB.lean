/- A map from strings to bools, read as a set of strings. -/
import Derived.Test.YtmdaggnfgghnfaaDoorProg
import Derived.Test.YtmdaggnfgghnfaaDoorWMore
import Derived.Maps.OwnSet
import Derived.Maps.OwnOps
import Derived.StringKeys
namespace Go.Proofs.YtmdaggnfgghnfaaDoor.SetB
open Go Go.RowKit Go.Maps Go.WideMaps Go.ChangeMaps Go.Proofs.YtmdaggnfgghnfaaDoorW.PrintWords
set_option linter.unusedVariables false
set_option linter.unusedSimpArgs false

theorem plainElem_bool_inv {H : Type} {P : Program} {e : TypeId} (he : P.underlying e = some .bool) {v : Value} {z : DataW H × List MemPlace} (h : plainElem P e v = some z) : ∃ a, v = .bool a ∧ z = (.lit (.bool a), []) := by
  unfold plainElem at h
  rw [he] at h
  cases v <;> simp at h
  exact ⟨_, rfl, h.symm⟩
theorem wpList_lookup_own_bool {H : Type} {P : Program} (w : World) {ops : Array Oper} {rest : List Oper} {o : Oper} {a : Act} {Q : Exit → Act → World → Prop}
    (hg : o.guard = none) (m x : Operand) (t : TypeId) (hop : o.op = Op.lookup t m x false)
    (k e : TypeId) (K : Keyed P k) (ht : P.underlying t = some (.map k e)) (he : P.underlying e = some .bool) (hz : (zeroValue e).run P w = .ok (.bool false) w) (b n : Nat) (D : DataW H)
    (hm : a.eval m = .map (some b)) (hown : w.ownsMap P k (plainElem P e) b n D) (key : Value) (kl : Lit) (hx : a.eval x = key) (hkey : keyOf P k key = some kl)
    (hK : ∀ c : Bool, D.atKey kl (.lit (.bool false)) = .lit (.bool c) → wpList P ops Q rest (a.put o.dst (.bool c)) w) :
    wpList P ops Q (o :: rest) a w := by
  refine wpList_plain hg fun K' hK' => ?_
  obtain ⟨v, ps, hrun, hv⟩ := hown.lookup K ht hz (plainElem_bool he false) hkey
  obtain ⟨c, rfl, hc⟩ := plainElem_bool_inv he hv
  unfold Oper.wp
  simp [execOp, hop, hm, hx, hrun, Result.andThen]
  exact hK' _ _ (hK c (congrArg Prod.fst hc))

theorem law : Keyed Tryd.prog 9 := Keyed.of_law (string_law Tryd.underlying9)
theorem zeroB (w : World) : (zeroValue 4).run Tryd.prog w = .ok (.bool false) w := by kernel_rfl
theorem keyS {s : ByteArray} (hs : s.size ≤ maxLen) : keyOf Tryd.prog 9 (.string s) = some (.string s.data.toList) := keyOf_string_mk Tryd.underlying9 hs
/-- The map in block gm holds just the keys given. -/
def Met (keys : List (List UInt8)) (D : DataW Unit) : Prop := ∀ key, D.atKey (.string key) (.lit (.bool false)) = .lit (.bool (decide (key ∈ keys)))
def Memo (keys : List (List UInt8)) (gm n : Nat) (W : World) : Prop := ∃ D : DataW Unit, W.ownsMap Tryd.prog 9 (plainElem Tryd.prog 4) gm n D ∧ Met keys D
theorem Memo.start (W : World) : Memo [] W.heap.size 0 (W.alloc (.map #[] 0)) :=
  ⟨.map [], World.ownsMap_made W Tryd.prog 9 _, fun key => by simp [DataW.atKey]⟩
theorem Memo.lt {keys : List (List UInt8)} {gm n : Nat} {W : World} (h : Memo keys gm n W) : gm < W.heap.size := by
  obtain ⟨D, h1, _⟩ := h
  exact h1.lt
theorem Memo.move {keys : List (List UInt8)} {gm n : Nat} {W W' : World} (h : Memo keys gm n W) (hm : W'.heap[gm]? = W.heap[gm]?) : Memo keys gm n W' := by
  obtain ⟨D, ⟨es, clock, h1, h2⟩, h3⟩ := h
  exact ⟨D, ⟨es, clock, hm.trans h1, h2⟩, h3⟩
theorem Memo.below {keys : List (List UInt8)} {gm n : Nat} {W W' : World} (h : Memo keys gm n W) (hb : Below W.heap.size W W') : Memo keys gm n W' := h.move (hb.block gm h.lt)
theorem own_below {D : DataW Unit} {gm n : Nat} {W W' : World} (h : W.ownsMap Tryd.prog 9 (plainElem Tryd.prog 4) gm n D) (hb : Below W.heap.size W W') : W'.ownsMap Tryd.prog 9 (plainElem Tryd.prog 4) gm n D := by
  have hl := h.lt
  obtain ⟨es, clock, h1, h2⟩ := h
  exact ⟨es, clock, (hb.block gm hl).trans h1, h2⟩
theorem met_put {keys : List (List UInt8)} {D : DataW Unit} {W : World} {gm n : Nat} (ho : W.ownsMap Tryd.prog 9 (plainElem Tryd.prog 4) gm n D) (hk : Met keys D) {s : ByteArray} (hs : s.size ≤ maxLen) : Met (s.data.toList :: keys) (D.put (.string s.data.toList) (.lit (.bool true))) := by
  have hD : IsMap D := by
    obtain ⟨es, clock, _, _, _, rfl⟩ := ho
    exact ⟨_, rfl⟩
  intro key
  by_cases e : key = s.data.toList
  · subst e
    rw [atKey_put_same hD (law.key (keyS hs))]
    simp
  · rw [atKey_put_other (fun h => e (by injection h)), hk key]
    simp [e]
end Go.Proofs.YtmdaggnfgghnfaaDoor.SetB
