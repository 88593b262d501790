/- What functions of the program compute, as plain Lean functions, each with its proof by a proved reader; plain laws about them (LibAz). -/
import Derived.Test.YtknlopaheagepaaGreatDoorAlvF
namespace Ev
open Go Go.Proofs
def e20 : PureE := nullE (.one (.val (.bool true)))
def n20 : Unit → Option Bool := fun _ => some true
theorem libAll {gl : Nat → Option (List D)} (hl : LibFits gl) : TabOk Tryz.prog gl [(20, e20), (134, e134), (136, e136), (118, e118), (81, e81), (130, e130)] := tab_alive hl
end Ev
