/- What functions of the program compute, as plain Lean functions, each with its proof by a proved reader; plain laws about them (LibAe). -/
import Derived.Test.YtpnpdcfojbbglaaGreatDoorAlveF
namespace Ev
open Go Go.Proofs
def e11 : PureE := nullE (.one (.val (.bool true)))
def n11 : Unit → Option Bool := fun _ => some true
theorem libAll {gl : Nat → Option (List D)} (hl : LibFits gl) : TabOk Tryz.prog gl [(11, e11), (155, e155), (50, e50), (170, e170), (101, e101), (99, e99), (180, e180), (42, e42)] := tab_alive hl
end Ev
