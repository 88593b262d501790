/- What functions of the program compute, as plain Lean functions, each with its proof by the reader (EvMe); printed by a tool of this work. -/
import Derived.Test.YtedbcbncdfjocaaDoorEvRg
import Derived.Test.YtedbcbncdfjocaaDoorEvSp
set_option linter.unusedSimpArgs false
set_option linter.unusedVariables false
namespace Ev
open Go
variable {P : Program} {glob : Nat → Option (List D)}
theorem OddSound.join {P : Program} {glob : Nat → Option (List D)} {o o' : FuncId → Option OddE} {f : FuncId} {e : OddE} (h : OddSound P glob (fun g => bif Nat.beq g f then some e else o g)) (h' : OddSound P glob o') : OddSound P glob (fun g => bif Nat.beq g f then some e else o' g) := by
  intro g e' hg
  dsimp only at hg
  cases hb : Nat.beq g f with
  | true =>
    rw [hb, cond_true] at hg
    exact h g e' (by dsimp only; rw [hb, cond_true]; exact hg)
  | false =>
    rw [hb, cond_false] at hg
    exact h' g e' hg
end Ev
