/- What functions of the program compute, as plain Lean functions, each with its proof by a proved reader; plain laws about them (AlvF). -/
import Derived.Test.YtohmflkolmobmaaGreatDoorAlveV
namespace Ev
open Go Go.Proofs
noncomputable def cfgV (gl : Nat → Option (List D)) : Cfg := { cfgA gl with ext := extOf tabV }
set_option maxRecDepth 100000 in
theorem aliveV (gl : Nat → Option (List D)) : pureCall (evFn (cfgV gl) 40) 17 [] = some (.one (.val (.bool true))) := by kernel_rfl
end Ev
