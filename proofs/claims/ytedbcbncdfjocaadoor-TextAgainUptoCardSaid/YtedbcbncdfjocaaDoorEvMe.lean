/- What functions of the program compute, as plain Lean functions, each with its proof by the reader (EvMe); printed by a tool of this work. -/
import Derived.Test.YtedbcbncdfjocaaDoorEvRg
import Derived.Test.YtedbcbncdfjocaaDoorEvSp
set_option linter.unusedSimpArgs false
set_option linter.unusedVariables false
namespace Ev
open Go
variable {P : Program} {glob : Nat → Option (List D)}
end Ev
