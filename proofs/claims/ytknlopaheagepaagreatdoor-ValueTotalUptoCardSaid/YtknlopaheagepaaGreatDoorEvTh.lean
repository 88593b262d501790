/- What functions of the program compute, as plain Lean functions, each with its proof by a proved reader; plain laws about them (EvTh). -/
import Derived.Test.YtknlopaheagepaaGreatDoorEvMe
set_option linter.unusedSimpArgs false
set_option linter.unusedVariables false
namespace Ev
open Go
variable {σ : Type} {P : Program} {glob : Nat → Option (List D)}
end Ev
