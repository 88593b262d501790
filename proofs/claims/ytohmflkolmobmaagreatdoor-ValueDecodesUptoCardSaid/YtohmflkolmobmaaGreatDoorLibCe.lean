/- What functions of the program compute, as plain Lean functions, each with its proof by a proved reader; plain laws about them (LibCe). -/
import Derived.Test.YtohmflkolmobmaaGreatDoorAlveF
import Derived.Test.YtohmflkolmobmaaGreatDoorLibClone
namespace Ev
open Go Go.Proofs
def e17 : PureE := nullE (.one (.val (.bool true)))
def n17 : Unit → Option Bool := fun _ => some true
def e38 : PureE := nullE (.one (.val (.bool true)))
theorem libAll {gl : Nat → Option (List D)} (hl : LibFits gl) : TabOk Tryz.prog gl [(17, e17), (38, e38), (184, e184), (80, e80), (186, e186), (159, e159), (125, e125), (181, e181), (152, e152)] := tab_alive hl
end Ev

namespace Ev
open Go Go.Proofs
theorem cloneOk : CloneOk Tryz.prog 101 5 where
  enters := fun us w => enters_run Tryz.func101 (by kernel_rfl) us w
  at_ := fun a n c xs w h1 h2 h3 => Tryz.bytes_Clone_at a n c xs w h1 h2 h3
  nil_ := fun n c w => Tryz.bytes_Clone_nil n c w
noncomputable def oddC : FuncId → Option OddE := fun g => bif Nat.beq g 101 then some cloneE else oddT g
theorem oddC_sound {glob : Nat → Option (List D)} : OddSound Tryz.prog glob oddC := cloneE_sound cloneOk oddT_sound
end Ev
