/- Maps keyed by three numbers: what a key reads as. -/
import Derived.Test.YtmdaggnfgghnfaaDoorProg
import Derived.DeepKeys4
import Derived.Maps.OwnSet
namespace Go.Proofs.YtmdaggnfgghnfaaDoor.Key3
open Go Go.Maps
theorem row : (58 : TypeId) < Tryd.prog.types.size := of_decide_eq_true (by kernel_rfl)
theorem wide : (match Tryd.prog.underlying 58 with | some (.array _ _) | some (.struct _) => true | _ => false) = true := by rw [Tryd.underlying58]
set_option maxRecDepth 100000 in
theorem law : Keyed Tryd.prog 58 := Keyed.of_law (deep_law_laid (by kernel_rfl) (m := 2) (by omega) row (by kernel_rfl) wide)
theorem cellsArr : Tryd.prog.cellsOf 58 = 3 := by kernel_rfl
theorem cellsInt : Tryd.prog.cellsOf 3 = 1 := by kernel_rfl
theorem keyType : Tryd.prog.keyType 58 = true := by kernel_rfl
def lit3 (x y z : Int) : Lit := .string (keyBytes [.int .i64 x, .int .i64 y, .int .i64 z])
theorem key (x y z : Int) (hx : (Lit.int .i64 x).wf = true) (hy : (Lit.int .i64 y).wf = true) (hz : (Lit.int .i64 z).wf = true) : keyOf Tryd.prog 58 (.agg #[.int .i64 x, .int .i64 y, .int .i64 z]) = some (lit3 x y z) := by
  have hf : Value.formed Tryd.prog 58 (.agg #[.int .i64 x, .int .i64 y, .int .i64 z]) = true := by simp [Value.formed, Tryd.underlying58, cellsArr]
  unfold keyOf
  simp only [Tryd.underlying58, keyType, hf, Bool.and_self, if_true, Value.cells]
  obtain ⟨n, hn⟩ : ∃ n, Tryd.prog.types.size = n + 1 := ⟨Tryd.prog.types.size - 1, by have h : 0 < Tryd.prog.types.size := of_decide_eq_true (by kernel_rfl); omega⟩
  rw [hn]
  simp [Program.keyLits, Tryd.underlying58, cellsArr, cellsInt, Tryd.underlying3, hx, hy, hz, List.range_succ, lit3]
/-- Different keys read differently. -/
theorem lit3_inj {x y z x' y' z' : Int} (hx : (Lit.int .i64 x).wf = true) (hy : (Lit.int .i64 y).wf = true) (hz : (Lit.int .i64 z).wf = true) (hx' : (Lit.int .i64 x').wf = true) (hy' : (Lit.int .i64 y').wf = true) (hz' : (Lit.int .i64 z').wf = true) (h : lit3 x y z = lit3 x' y' z') : x = x' ∧ y = y' ∧ z = z' := by
  have h1 := key x y z hx hy hz
  have h2 := key x' y' z' hx' hy' hz'
  rw [h] at h1
  have := law.inj h1 h2
  simp at this
  exact this
end Go.Proofs.YtmdaggnfgghnfaaDoor.Key3
