-- printed by wip/xprint.py
import Derived.Test.YtmbkdapofcgccaaProg
import Derived.Test.YtmbkdapofcgccaaWWords
import Derived.Test.YtmbkdapofcgccaaWLast
import Derived.Test.YtmbkdapofcgccaaWTab
import Derived.Test.YtmbkdapofcgccaaWFour
import Derived.Test.YtmbkdapofcgccaaWQPut
import Derived.Test.YtmbkdapofcgccaaWApart
import Derived.Test.YtmbkdapofcgccaaWArr
import Derived.Test.YtmbkdapofcgccaaWZeros
import Derived.Test.YtmbkdapofcgccaaWFoot
import Derived.Test.YtmbkdapofcgccaaWKept
import Derived.Test.YtmbkdapofcgccaaWShare
import Derived.Test.YtmbkdapofcgccaaWN
import Derived.Test.YtmbkdapofcgccaaWFootNe
import Derived.Test.YtmbkdapofcgccaaWAt
import Derived.Test.YtmbkdapofcgccaaWEqStruct
import Derived.Test.YtmbkdapofcgccaaWRepsOne
import Derived.Test.YtmbkdapofcgccaaWInv
import Derived.Test.YtmbkdapofcgccaaWInvWords
import Derived.Test.YtmbkdapofcgccaaWGuard
import Derived.Test.YtmbkdapofcgccaaWNEv
import Derived.Test.YtmbkdapofcgccaaWMore
namespace Go.Proofs.Ytmbkdapofcgccaa.Pr
open Go.RowKit Go.Proofs.YtmbkdapofcgccaaW.PrintWords Go.Proofs.YtmbkdapofcgccaaW.PrintLast Go.Proofs.YtmbkdapofcgccaaW.PrintMore
attribute [local go_sem] max2_int min2_int max_two min_two max_three min_three max_four min_four   -- for this text's walks alone
set_option linter.unusedVariables false
set_option linter.unusedSimpArgs false



def errW : Option Int → Value
  | none => .nilIface
  | some c => .iface 0 (.int .i64 c)
theorem errW_none : errW none = .nilIface := rfl
theorem errW_some (c : Int) : errW (some c) = .iface 0 (.int .i64 c) := rfl

theorem info3 : (Try.prog.info? 3).map (fun i => (i.zero, i.size, i.bytes)) = some (some (.int .i64 0), 1, 8) := by kernel_rfl
-- the values' own types

end Go.Proofs.Ytmbkdapofcgccaa.Pr
