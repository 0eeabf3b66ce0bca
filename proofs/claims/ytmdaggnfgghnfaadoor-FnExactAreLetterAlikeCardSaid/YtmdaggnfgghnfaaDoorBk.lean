/- impl.back: a text's bytes the other way round. -/
import Derived.Shelf.SlicesE.Reverse
import Derived.Test.YtmdaggnfgghnfaaDoorSortS
import Derived.Laws.EntriesVeiled
import Derived.Lib.OwnBridge
namespace Go.Proofs.YtmdaggnfgghnfaaDoor.Bk
open Go Go.RowKit Go.Sort Go.Proofs.YtmdaggnfgghnfaaDoorW.PrintWords Go.Proofs.YtmdaggnfgghnfaaDoorW.PrintLast Go.Proofs.YtmdaggnfgghnfaaDoorW.PrintMore
set_option linter.unusedVariables false
set_option linter.unusedSimpArgs false
def ren : Go.Shelf.Ren := ⟨fun | 35 => 119 | n => n, fun | 22 => 32 | 23 => 5 | 3 => 3 | 4 => 4 | 0 => 0 | n => n, fun | n => n⟩
theorem laid : Go.Proofs.SlLaysE.n35 Tryd.prog ren := {
  mixed := by kernel_rfl
  f35 := ⟨Tryd.f119.name, by decide, Tryd.func119.trans (congrArg some (by kernel_rfl))⟩
  t0 := Tryd.underlying0
  a0 := Tryd.isAgg0
  z0 := Tryd.sizeOf0
  v0 := Tryd.zeroValue0
  t3 := Tryd.underlying3
  a3 := Tryd.isAgg3
  z3 := Tryd.sizeOf3
  v3 := Tryd.zeroValue3
  t4 := Tryd.underlying4
  a4 := Tryd.isAgg4
  z4 := Tryd.sizeOf4
  v4 := Tryd.zeroValue4
  t22 := Tryd.underlying32
  a22 := Tryd.isAgg32
  z22 := Tryd.sizeOf32
  v22 := Tryd.zeroValue32
  a23 := Tryd.isAgg5
  z23 := Tryd.sizeOf5 }
theorem conv_holds (W : World) (e : TypeId) (s : ByteArray) : Holds (Value.int .u8) (Lib.bytesWorld W e s) W.heap.size 0 (bytesOf s).toArray := by
  intro j hj
  have hj : j < s.size := by simpa [bytesOf_length] using hj
  refine ⟨?_, ?_⟩
  · rw [Nat.zero_add, Lib.bytesWorld_cell W e s j hj]
    have h' : j < s.data.toList.length := by rw [data_length]; exact hj
    simp [bytesOf, List.getD_eq_getElem?_getD, List.getElem?_eq_getElem h', getElem!_pos, hj]
  · have hle : s.size ≤ (Lib.bytesCells W e s).size := by simp [Lib.bytesCells]
    simp [World.frozen?, Lib.bytesWorld_at_new]
    omega
theorem rev (W : World) (s : ByteArray) (c : Nat) (hs : s.size ≤ 9223372036854775807) :
    Calls Tryd.prog 119 #[.slice (some ⟨W.heap.size, 0, none⟩) s.size c] (Lib.bytesWorld W 5 s) fun e w' => e = .returned (.tuple #[]) ∧ (Kd.int .u8).C w' (some ⟨W.heap.size, 0, none⟩) s.size (bytesOf s).reverse ∧ Below W.heap.size W w' := by
  have h := AnyE.slices_Reverse laid (Value.int .u8) (fun _ => rfl) W.heap.size 0 c (bytesOf s) (Lib.bytesWorld W 5 s) (conv_holds W 5 s) (by rw [bytesOf_length]; exact hs)
  rw [bytesOf_length] at h
  refine h.mono ?_
  rintro e w' ⟨rfl, n, rfl⟩
  refine ⟨rfl, ?_, ?_⟩
  · refine Kd.C_of_reads (d := (0 : Int)) (h1 := fun _ => rfl) ⟨by rw [List.length_reverse, bytesOf_length], hs, fun _ => ⟨_, rfl, fun j hj => ?_⟩⟩
    rw [add_plain]
    have := cell?_putRow (Value.int .u8) (Sort.ahead (Lib.bytesWorld W 5 s) n) W.heap.size 0 (bytesOf s).toArray (bytesOf s).reverse.toArray (holds_ahead _ _ _ _ _ _ (conv_holds W 5 s)) (by simp) j (by simpa [bytesOf_length] using hj)
    rw [Nat.zero_add] at this
    rw [this]
    have hl : j < (bytesOf s).reverse.length := by simpa [bytesOf_length] using hj
    simp [List.getD_eq_getElem?_getD, List.getElem?_eq_getElem hl, getElem!_pos, bytesOf_length, hj]
  · have h1 : Below W.heap.size W (Lib.bytesWorld W 5 s) := bytes_below (Below.refl _ W) (Nat.le_refl _) _ s
    exact Go.Lib.below_putRow h1 (Nat.le_refl _)
def impl_back.f (s : ByteArray) : Option ByteArray := if s.size ≤ 9223372036854775807 then some (strOfNums (bytesOf s).reverse) else none
set_option maxHeartbeats 1000000 in
set_option maxRecDepth 100000 in
theorem impl_back.calls (s r : ByteArray) (w : World) (h : impl_back.f s = some r) :
    Calls Tryd.prog 81 #[.string s] w fun e w' => e = .returned (.string r) ∧ Below w.heap.size w w' := by
  unfold impl_back.f at h
  split at h
  case isFalse => cases h
  rename_i hs
  injection h with h
  have HR := Aside0.mk h; clear h
  have HS := Aside0.mk hs; clear hs
  have kb := fun W => print_bytes (P := Tryd.prog) 9 32 5 Tryd.underlying9 Tryd.underlying32 Tryd.underlying5 s W
  go_enter Tryd.func81, Tryd.ntmps81
  go_wp2_with (first
    | (go_at_call 119; with_reducible refine (rev w s _ HS.out).mono ?_; rintro e w1 ⟨rfl, hr, hb⟩; have kc := fun c => Kd.C_string (c := c) Tryd.underlying32 Tryd.underlying5 Tryd.underlying9 hr; have HB := Aside0.mk hb; clear hb; clear hr))
  go_ret
  exact ⟨by rw [← HR.out]; rfl, HB.out⟩
end Go.Proofs.YtmdaggnfgghnfaaDoor.Bk
