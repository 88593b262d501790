/- What functions of the program compute, as plain Lean functions, each with its proof by a proved reader; plain laws about them (EvTh). -/
import Derived.Test.YtpnpdcfojbbglaaGreatDoorEvMe
set_option linter.unusedSimpArgs false
set_option linter.unusedVariables false
namespace Ev
open Go
variable {σ : Type} {P : Program} {glob : Nat → Option (List D)}
theorem len0 {e : List D} (h : e.length = 0) : AV.toD (.d (.slice e)) = some (.slice []) := by
  cases e with
  | nil => rfl
  | cons a b => cases h
end Ev
