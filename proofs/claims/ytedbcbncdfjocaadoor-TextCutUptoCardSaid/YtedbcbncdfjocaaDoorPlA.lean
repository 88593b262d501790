/- Plain laws of layer 2's natives (printed by wip/lift with c14.txt as Lt14). -/
import Derived.Test.YtedbcbncdfjocaaDoorLt14
namespace Ev
open Go
theorem cond_some {α : Type} (c : Bool) (a b : α) : (bif c then some a else some b) = some (bif c then a else b) := by cases c <;> rfl
theorem cond_iff (c a b : Bool) : (bif c then a else b) = true ↔ (c = true ∧ a = true) ∨ (¬ c = true ∧ b = true) := by cases c <;> simp
/-- The program's Letter is the reference's. -/
theorem letter_eq (r : Int) : n37 r = n38 r := by
  simp only [n37, n38, n71, Option.bind_some, cond_some, Option.some.injEq]
  rw [Bool.eq_iff_iff]
  simp only [cond_iff, decide_eq_true_eq, beq_iff_eq, bne_iff_ne, ne_eq, and_true, Bool.false_eq_true, and_false, or_false]
  omega
end Ev
