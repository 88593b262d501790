/-
  The law, read once with these tables.
-/
import Derived.Test.YtfnhfdimidddaaaTabC
import Derived.Test.YtfnhfdimidddaaaTabD
namespace Go.Proofs.Ytfnhfdimidddaaa.libraryNames
open Go.ChangeShapes Go.WideShapes Go.ChangeAt Go.RowKit
set_option linter.unusedVariables false

noncomputable def cfg2 : Ev.Cfg := { cfg1 with odd := fun g => bif Nat.beq g 7 then some (Ev.opsE rows) else cfg1.odd g, ext := fun g => bif Nat.beq g 8 then some (Ev.opsX rowsR) else Option.none }
theorem odd2 : Ev.OddSound Try.prog (fun _ => Option.none) cfg2.odd :=
  Ev.opsE_sound (C := cfg1) (P := Try.prog) (glob := fun _ => Option.none) ⟨rfl, rfl, odd1⟩ Try.checked.mixed (fun f g e => by cases e) ops_all
theorem ext2 : Ev.ExtSound Try.prog (fun _ => Option.none) cfg2.ext :=
  Ev.opsX_sound (C := cfg1) (P := Try.prog) (glob := fun _ => Option.none) ⟨rfl, rfl, odd1⟩ Try.checked.mixed (fun f g e => by cases e) ref_all
set_option maxRecDepth 100000 in
theorem readS : Ev.pureCall (Ev.evFn cfg2 12) 3 [] = some (.one (.val (.bool true))) := by kernel_rfl
theorem read : Ev.pureCall (Ev.evFn cfg2 12) 3 [] = some (.one (.val (.bool true))) := readS
end Go.Proofs.Ytfnhfdimidddaaa.libraryNames
