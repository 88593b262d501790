/- What functions of the program compute, as plain Lean functions, each with its proof by a proved reader; plain laws about them (AlvF). -/
import Derived.Test.YtknlopaheagepaaGreatDoorAlvP
namespace Ev
open Go Go.Proofs
noncomputable def cfgB (gl : Nat → Option (List D)) : Cfg := { cfgA gl with ext := extOf ((30, strE2 parses) :: libz) }
set_option maxRecDepth 100000 in
theorem aliveR (gl : Nat → Option (List D)) : pureCall (evFn (cfgB gl) 40) 20 [] = some (.one (.val (.bool true))) := by kernel_rfl
theorem tab_alive {gl : Nat → Option (List D)} (hl : LibFits gl) : TabOk Tryz.prog gl ((20, nullE (.one (.val (.bool true)))) :: libz) :=
  (libOk hl).cons (nullE_fair _) (nullE_spec (C := cfgB gl) ⟨rfl, rfl, oddT_sound⟩ (by kernel_rfl) (tab_parse hl).ext (aliveR gl))
end Ev
