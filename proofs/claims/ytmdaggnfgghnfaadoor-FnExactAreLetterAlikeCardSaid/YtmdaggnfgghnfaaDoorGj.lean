/- strings.Join in the form of the print's contracts. -/
import Derived.Test.YtmdaggnfgghnfaaDoorSortS
namespace Go.Proofs.YtmdaggnfgghnfaaDoor.Gj
open Go.RowKit Go.Proofs.YtmdaggnfgghnfaaDoorW.PrintWords Go.Proofs.YtmdaggnfgghnfaaDoorW.PrintLast Go.Proofs.YtmdaggnfgghnfaaDoorW.PrintMore Go.Proofs.YtmdaggnfgghnfaaDoor.SortS
set_option linter.unusedVariables false
def joined (l : List ByteArray) (sep : ByteArray) : List UInt8 := Lib.join (l.map (·.data.toList)) sep.data.toList
def strings_Join.f (l0 : List ByteArray) (a1 : ByteArray) : Option ByteArray := if l0.length ≤ 140737488355328 ∧ (joined l0 a1).length ≤ 140737488355328 then some ⟨(joined l0 a1).toArray⟩ else none
theorem strings_Join.calls (A0 : Option Addr) (c0 : Nat) (l0 : List ByteArray) (a1 r : ByteArray) (w : World) (hr0 : Kd.C Kd.string w A0 l0.length l0) (hc0 : l0.length ≤ c0) (h : strings_Join.f l0 a1 = some r) :
    Calls Tryd.prog 72 #[.slice A0 l0.length c0, .string a1] w fun e w' => e = .returned (.string r) ∧ Below w.heap.size w w' := by
  unfold strings_Join.f at h
  split at h
  case isFalse => cases h
  rename_i hd
  injection h with h
  subst h
  rcases strs_of_C c0 hr0 with ⟨a, cap, hv, rfl⟩ | ⟨b, off, cap, hv, hb, hc⟩
  · refine (Tryd.strings_Join_none A0 c0 a1 w).mono ?_
    rintro e w' ⟨rfl, rfl⟩
    refine ⟨?_, Below.refl _ _⟩
    simp [joined, Lib.join]
  · injection hv with hA hn hcc
    subst hA
    refine (Tryd.strings_Join b off c0 l0 a1 w (fun j x hx => ?_) hb hd.1 hc0 hd.2).mono ?_
    · obtain ⟨hl, hx⟩ := List.getElem?_eq_some_iff.1 hx
      rw [hc j hl]
      simp [List.getElem?_eq_getElem hl, hx]
    · rintro e w' ⟨rfl, hb⟩
      exact ⟨rfl, hb⟩
end Go.Proofs.YtmdaggnfgghnfaaDoor.Gj
