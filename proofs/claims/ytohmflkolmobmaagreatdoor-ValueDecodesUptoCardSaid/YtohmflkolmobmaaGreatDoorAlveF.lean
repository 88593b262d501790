/- What functions of the program compute, as plain Lean functions, each with its proof by a proved reader; plain laws about them (AlveF). -/
import Derived.Test.YtohmflkolmobmaaGreatDoorAlveQ
import Derived.Test.YtohmflkolmobmaaGreatDoorAlvF
namespace Ev
open Go Go.Proofs
noncomputable def cfgC (gl : Nat → Option (List D)) : Cfg := { cfgA gl with ext := extOf tabE }
set_option maxRecDepth 100000 in
theorem aliveR (gl : Nat → Option (List D)) : pureCall (evFn (cfgC gl) 40) 38 [] = some (.one (.val (.bool true))) := by kernel_rfl
theorem tab_alive {gl : Nat → Option (List D)} (hl : LibFits gl) : TabOk Tryz.prog gl ((17, nullE (.one (.val (.bool true)))) :: (38, nullE (.one (.val (.bool true)))) :: libe) :=
  ((libOk hl).cons (nullE_fair _) (nullE_spec (C := cfgC gl) ⟨rfl, rfl, oddT_sound⟩ (by kernel_rfl) (tab_eparse hl).ext MethSound.none (aliveR gl))).cons (nullE_fair _) (nullE_spec (C := cfgV gl) ⟨rfl, rfl, oddT_sound⟩ (by kernel_rfl) (tab_vparse hl).ext MethSound.none (aliveV gl))
end Ev
