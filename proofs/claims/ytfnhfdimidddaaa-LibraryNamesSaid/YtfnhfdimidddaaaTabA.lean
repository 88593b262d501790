/-
  The table of the kinds, once.
-/
import Derived.Test.YtfnhfdimidddaaaRows
import Derived.Test.YtfnhfdimidddaaaEvRow
import Derived.Test.YtfnhfdimidddaaaEvCo
import Derived.WalkKit
namespace Go.Proofs.Ytfnhfdimidddaaa.libraryNames
open Go.ChangeShapes Go.WideShapes Go.ChangeAt Go.RowKit
set_option linter.unusedVariables false

theorem own : ownKnob Try.prog.godebug = none := by kernel_rfl
/-- The reader at this program: functions 4 and 7 hand out rows of the law's own; the kinds are a table of the call's own. -/
noncomputable def cfg0 : Ev.Cfg := { P := Try.prog, ext := fun _ => Option.none, keep := fun f => Nat.beq f 10 || Nat.beq f 11, thaw := fun f => Nat.beq f 4 || Nat.beq f 7, deep := fun t => Nat.beq t 32 }
/-- The table, once. -/
noncomputable def table : Option (Ev.Out × List Ev.Box × List Nat × Unit) := Ev.evFn cfg0 9 Unit Ev.noY 10 [] [] [] ()
noncomputable def cells0 : List Ev.AV := match table with | some (_, [.cells _ cs], _, _) => cs | _ => []
/-- .. without the texts. -/
def cells1 : List Ev.AV := [
  .d (.val (.string ⟨#[114, 101, 103, 105, 115, 116, 101, 114]⟩)), .osl 1 [.val (.string ⟨#[119, 114, 105, 116, 101]⟩), .val (.string ⟨#[114, 101, 97, 100]⟩)], .undef,
  .d (.val (.string ⟨#[99, 97, 115]⟩)), .osl 2 [.val (.string ⟨#[99, 97, 115]⟩), .val (.string ⟨#[114, 101, 97, 100]⟩)], .undef,
  .d (.val (.string ⟨#[99, 111, 117, 110, 116, 101, 114]⟩)), .osl 3 [.val (.string ⟨#[97, 100, 100]⟩), .val (.string ⟨#[103, 101, 116]⟩)], .undef,
  .d (.val (.string ⟨#[116, 101, 115, 116, 115, 101, 116]⟩)), .osl 4 [.val (.string ⟨#[116, 101, 115, 116]⟩), .val (.string ⟨#[114, 101, 115, 101, 116]⟩)], .undef,
  .d (.val (.string ⟨#[109, 97, 120, 105, 109, 117, 109]⟩)), .osl 5 [.val (.string ⟨#[112, 117, 116]⟩), .val (.string ⟨#[103, 101, 116]⟩)], .undef,
  .d (.val (.string ⟨#[113, 117, 101, 117, 101]⟩)), .osl 6 [.val (.string ⟨#[101, 110, 113]⟩), .val (.string ⟨#[100, 101, 113]⟩)], .undef,
  .d (.val (.string ⟨#[115, 116, 97, 99, 107]⟩)), .osl 7 [.val (.string ⟨#[112, 117, 115, 104]⟩), .val (.string ⟨#[112, 111, 112]⟩)], .undef,
  .d (.val (.string ⟨#[98, 97, 103]⟩)), .osl 8 [.val (.string ⟨#[97, 100, 100]⟩), .val (.string ⟨#[104, 97, 115]⟩), .val (.string ⟨#[116, 97, 107, 101]⟩)], .undef,
  .d (.val (.string ⟨#[99, 111, 110, 115, 101, 110, 115, 117, 115]⟩)), .osl 9 [.val (.string ⟨#[100, 101, 99, 105, 100, 101]⟩)], .undef,
  .d (.val (.string ⟨#[101, 120, 99, 104, 97, 110, 103, 101, 114]⟩)), .osl 10 [.val (.string ⟨#[101, 120, 99, 104, 97, 110, 103, 101]⟩)], .undef,
  .d (.val (.string ⟨#[115, 110, 97, 112, 115, 104, 111, 116]⟩)), .osl 11 [.val (.string ⟨#[119, 114, 105, 116, 101]⟩)], .undef,
  .d (.val (.string ⟨#[108, 97, 116, 116, 105, 99, 101]⟩)), .osl 12 [.val (.string ⟨#[112, 114, 111, 112, 111, 115, 101]⟩)], .undef,
  .d (.val (.string ⟨#[98, 97, 116, 99, 104]⟩)), .osl 13 [.val (.string ⟨#[101, 110, 113]⟩), .val (.string ⟨#[100, 101, 113]⟩)], .undef,
  .d (.val (.string ⟨#[97, 100, 111, 112, 116]⟩)), .osl 14 [.val (.string ⟨#[112, 114, 111, 112, 111, 115, 101]⟩)], .undef,
  .d (.val (.string ⟨#[119, 114, 105, 116, 101, 115, 110, 97, 112]⟩)), .osl 15 [.val (.string ⟨#[119, 114, 105, 116, 101]⟩)], .undef,
  .d (.val (.string ⟨#[109, 101, 101, 116, 105, 110, 103]⟩)), .osl 16 [.val (.string ⟨#[109, 101, 101, 116]⟩)], .undef,
  .d (.val (.string ⟨#[115, 119, 97, 112]⟩)), .osl 17 [.val (.string ⟨#[115, 119, 97, 112]⟩)], .undef,
  .d (.val (.string ⟨#[108, 111, 103]⟩)), .osl 18 [.val (.string ⟨#[97, 112, 112, 101, 110, 100]⟩), .val (.string ⟨#[114, 101, 97, 100]⟩)], .undef,
  .d (.val (.string ⟨#[100, 101, 113, 117, 101]⟩)), .osl 19 [.val (.string ⟨#[108, 101, 102, 116]⟩), .val (.string ⟨#[114, 105, 103, 104, 116]⟩), .val (.string ⟨#[112, 111, 112, 108, 101, 102, 116]⟩), .val (.string ⟨#[112, 111, 112, 114, 105, 103, 104, 116]⟩)], .undef,
  .d (.val (.string ⟨#[112, 114, 105, 111, 114, 105, 116, 121]⟩)), .osl 20 [.val (.string ⟨#[105, 110, 115, 101, 114, 116]⟩), .val (.string ⟨#[108, 101, 97, 115, 116]⟩)], .undef,
  .d (.val (.string ⟨#[109, 97, 112]⟩)), .osl 21 [.val (.string ⟨#[112, 117, 116]⟩), .val (.string ⟨#[103, 101, 116]⟩), .val (.string ⟨#[100, 114, 111, 112]⟩)], .undef,
  .d (.val (.string ⟨#[108, 111, 99, 107]⟩)), .osl 22 [.val (.string ⟨#[108, 111, 99, 107]⟩), .val (.string ⟨#[117, 110, 108, 111, 99, 107]⟩)], .undef,
  .d (.val (.string ⟨#[115, 101, 109, 97, 112, 104, 111, 114, 101]⟩)), .osl 23 [.val (.string ⟨#[97, 99, 113, 117, 105, 114, 101]⟩), .val (.string ⟨#[114, 101, 108, 101, 97, 115, 101]⟩)], .undef,
  .d (.val (.string ⟨#[107, 115, 101, 116]⟩)), .osl 24 [.val (.string ⟨#[100, 101, 99, 105, 100, 101]⟩)], .undef,
  .d (.val (.string ⟨#[97, 116, 111, 109, 105, 99]⟩)), .osl 25 [.val (.string ⟨#[117, 112, 100, 97, 116, 101]⟩), .val (.string ⟨#[115, 99, 97, 110]⟩)], .undef,
  .d (.val (.string ⟨#[114, 101, 110, 97, 109, 101]⟩)), .osl 26 [.val (.string ⟨#[114, 101, 110, 97, 109, 101]⟩)], .undef]
def toks0 : List Nat := [0, 2, 2, 2, 2, 2, 2, 2, 3, 1, 1, 1, 1, 2, 1, 1, 1, 1, 2, 4, 2, 3, 2, 2, 1, 2, 1]
def kept : List Bool := [true, true, false, true, true, false, true, true, false, true, true, false, true, true, false, true, true, false, true, true, false, true, true, false, true, true, false, true, true, false, true, true, false, true, true, false, true, true, false, true, true, false, true, true, false, true, true, false, true, true, false, true, true, false, true, true, false, true, true, false, true, true, false, true, true, false, true, true, false, true, true, false, true, true, false, true, true, false]
set_option maxRecDepth 100000 in
theorem table_is : table = some (.ret (.msl 0 26 3), [.cells none cells0], toks0, ()) ∧ Ev.dropA kept cells0 = cells1 ∧ (Ev.tksL cells0).any (0 ≤ ·) = true := by
  refine ⟨?_, ?_, ?_⟩
  · kernel_rfl
  · kernel_rfl
  · kernel_rfl
noncomputable def cfg1 : Ev.Cfg := { cfg0 with odd := fun g => bif Nat.beq g 10 then some (Ev.constW (.msl 0 26 3) cells1 toks0) else Option.none }
theorem odd1 : Ev.OddSound Try.prog (fun _ => Option.none) cfg1.odd := by
  have h := Ev.constW_sound (C := cfg0) (P := Try.prog) (glob := fun _ => Option.none) ⟨rfl, rfl, Ev.OddSound.none⟩ Try.checked.mixed (fun f g e => by cases e) kept (table_is.1) rfl table_is.2.2
  rw [table_is.2.1] at h
  exact h
end Go.Proofs.Ytfnhfdimidddaaa.libraryNames
