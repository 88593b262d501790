/- What functions of the program compute, as plain Lean functions, each with its proof by the reader (PlLoc); printed by a tool of this work. -/
import Derived.Test.YtedbcbncdfjocaaDoorPlBig
set_option linter.unusedSimpArgs false
set_option linter.unusedVariables false
namespace Ev
open Go
end Ev
