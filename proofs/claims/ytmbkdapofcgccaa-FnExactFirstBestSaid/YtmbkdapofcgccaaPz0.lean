-- printed by wip/xprint.py
import Derived.Test.YtmbkdapofcgccaaProg
import Derived.Test.YtmbkdapofcgccaaWWords
import Derived.Test.YtmbkdapofcgccaaWLast
import Derived.Test.YtmbkdapofcgccaaWTab
import Derived.Test.YtmbkdapofcgccaaWFour
import Derived.Test.YtmbkdapofcgccaaWQPut
import Derived.Test.YtmbkdapofcgccaaWApart
import Derived.Test.YtmbkdapofcgccaaWArr
import Derived.Test.YtmbkdapofcgccaaWZeros
import Derived.Test.YtmbkdapofcgccaaWFoot
import Derived.Test.YtmbkdapofcgccaaWKept
import Derived.Test.YtmbkdapofcgccaaWShare
import Derived.Test.YtmbkdapofcgccaaWN
import Derived.Test.YtmbkdapofcgccaaWFootNe
import Derived.Test.YtmbkdapofcgccaaWAt
import Derived.Test.YtmbkdapofcgccaaWEqStruct
import Derived.Test.YtmbkdapofcgccaaWRepsOne
import Derived.Test.YtmbkdapofcgccaaWInv
import Derived.Test.YtmbkdapofcgccaaWInvWords
import Derived.Test.YtmbkdapofcgccaaWGuard
import Derived.Test.YtmbkdapofcgccaaWNEv
import Derived.Test.YtmbkdapofcgccaaWMore
import Derived.Test.YtmbkdapofcgccaaPr3
import Derived.Test.YtmbkdapofcgccaaPr11
import Derived.Test.YtmbkdapofcgccaaMergeRun
import Derived.Test.YtmbkdapofcgccaaAllBest
import Derived.Test.YtmbkdapofcgccaaBeFind
namespace Go.Proofs.Ytmbkdapofcgccaa.Pz
open Go.RowKit Go.Proofs.YtmbkdapofcgccaaW.PrintWords Go.Proofs.YtmbkdapofcgccaaW.PrintLast Go.Proofs.YtmbkdapofcgccaaW.PrintMore
attribute [local go_sem] max2_int min2_int max_two min_two max_three min_three max_four min_four   -- for this text's walks alone
set_option linter.unusedVariables false
set_option linter.unusedSimpArgs false



def errW : Option Int → Value
  | none => .nilIface
  | some c => .iface 0 (.int .i64 c)
theorem errW_none : errW none = .nilIface := rfl
theorem errW_some (c : Int) : errW (some c) = .iface 0 (.int .i64 c) := rfl

-- the values' own types
def rd_L1 (xs : List (List Int)) (i : Int) : (List Int) := xs.getD i.toNat ([] : List Int)
theorem at_L1 {w : World} {A : Option Addr} {n : Nat} {xs : List (List Int)} (h : Kd.C (Kd.slice 3 (Kd.int .i64)) w A n xs) (i : Int) (h0 : 0 ≤ i) (h1 : i < n) : ∃ ad A0 c0, A = some ad ∧ w.cell? (ad.add i.toNat) = some (.slice A0 (rd_L1 xs i).length c0) ∧ (rd_L1 xs i).length ≤ c0 ∧ (Kd.int .i64).C w A0 (rd_L1 xs i).length (rd_L1 xs i) := by
  obtain ⟨ad, c, e, _, hK, hc0⟩ := Kd.C_get h ([] : List Int) i h0 h1
  have hc : ∀ j u, c[j]? = some u → w.cell? (ad.add (i.toNat * 1 + j)) = some u := hc0
  obtain ⟨A0, c0, rfl, l0, g0⟩ := hK
  exact ⟨ad, A0, c0, e, by have hq := hc 0 _ rfl; rwa [Nat.mul_one, Nat.add_zero] at hq, l0, g0⟩

def rd_L2 (xs : List (List (List Int))) (i : Int) : (List (List Int)) := xs.getD i.toNat ([] : List (List Int))
theorem at_L2 {w : World} {A : Option Addr} {n : Nat} {xs : List (List (List Int))} (h : Kd.C (Kd.slice 22 (Kd.slice 3 (Kd.int .i64))) w A n xs) (i : Int) (h0 : 0 ≤ i) (h1 : i < n) : ∃ ad A0 c0, A = some ad ∧ w.cell? (ad.add i.toNat) = some (.slice A0 (rd_L2 xs i).length c0) ∧ (rd_L2 xs i).length ≤ c0 ∧ (Kd.slice 3 (Kd.int .i64)).C w A0 (rd_L2 xs i).length (rd_L2 xs i) := by
  obtain ⟨ad, c, e, _, hK, hc0⟩ := Kd.C_get h ([] : List (List Int)) i h0 h1
  have hc : ∀ j u, c[j]? = some u → w.cell? (ad.add (i.toNat * 1 + j)) = some u := hc0
  obtain ⟨A0, c0, rfl, l0, g0⟩ := hK
  exact ⟨ad, A0, c0, e, by have hq := hc 0 _ rfl; rwa [Nat.mul_one, Nat.add_zero] at hq, l0, g0⟩

end Go.Proofs.Ytmbkdapofcgccaa.Pz
