/-
  No cell of these rows narrows 'for every input' (looked for: loops, veiled, ifaces, maps, wideKeys, modest, calm, conditions, laid).
  DERIVED. THE GIVEN ROWS OF THIS SEAT. 5 by the template 'for every input the law returns true; each argument reads behind the call as it read before'; 0 by the template 'total and deterministic' (their statements: YtgonmincggbmkaaTotals.lean).
  GIVEN WITH THE SEED: the statements are not yours to turn. If you find one false, say at which input.
  Laid BY PROGRAM, IN A SANDBOX (cutbox-rows.mjs): the forced cells as the released guide's own fill.sh prints them over the translation bbf47e5a3313e401… (all of the seat's roots in one cut). By AI agents, Wed Nov 11 2026. No macro, syntax, notation, axiom, sorry.
-/
import Derived.Test.YtgonmincggbmkaaChecked
import GoSem.Claim
import GoSem.ClaimJoined
import GoSem.ClaimMapViews
import Derived.JoinedTies
import Derived.KernelRfl
namespace Go.Proofs.Ytgonmincggbmkaa
/- THE CELL 'sum', in the pinned program and in every row, IS THE sha256 OF THE DUMP (.gsa) THAT YtgonmincggbmkaaProg.lean LOADS. Nothing in Lean hashes anything: it is a label: what it is worth is what the hold of that sum in a sandbox is worth. -/
noncomputable def Try.pinned : Pinned := { name := "ytgonmincggbmkaa", sum := "bbf47e5a3313e401f5d4abeb56cf82a0bdcec22c05c7d5c575342b875ac29cba", checked := Try.checked }
namespace Rows
def none {H : Type} : Left H := { results := [], args := [] }

/-- 'sextantlaw02.TextErrors': WHATEVER THE INPUT: true; the input reads as it did. -/
def textErrorsSpec : ChangeSpec := { name := "textErrors", fn := fun _ => fun
  | [] => { results := [.lit (.bool true)], args := [] }
  | _ => none }
def textErrorsRow : OpenClaim := { program := "ytgonmincggbmkaa", sum := "bbf47e5a3313e401f5d4abeb56cf82a0bdcec22c05c7d5c575342b875ac29cba", func := "sextant/sextantlaw02.TextErrors", spec := "textErrors", apart := false }
def TextErrorsSaid : Prop := textErrorsRow.holds Try.pinned (OpenSpec.ofChange textErrorsSpec)

/-- ITS FALSE NEIGHBOUR: 'it returns false'. Refute it at one input. -/
def textErrorsWrong : ChangeSpec := { name := "textErrors", fn := fun _ => fun
  | [] => { results := [.lit (.bool false)], args := [] }
  | _ => none }
def TextErrorsWrongFalsely : Prop := textErrorsRow.holds Try.pinned (OpenSpec.ofChange textErrorsWrong)

/-- 'sextantlaw04.ValueNames': WHATEVER THE INPUT: true; the input reads as it did. -/
def valueNamesSpec : ChangeSpec := { name := "valueNames", fn := fun _ => fun
  | [] => { results := [.lit (.bool true)], args := [] }
  | _ => none }
def valueNamesRow : OpenClaim := { program := "ytgonmincggbmkaa", sum := "bbf47e5a3313e401f5d4abeb56cf82a0bdcec22c05c7d5c575342b875ac29cba", func := "sextant/sextantlaw04.ValueNames", spec := "valueNames", apart := false }
def ValueNamesSaid : Prop := valueNamesRow.holds Try.pinned (OpenSpec.ofChange valueNamesSpec)

/-- ITS FALSE NEIGHBOUR: 'it returns false'. Refute it at one input. -/
def valueNamesWrong : ChangeSpec := { name := "valueNames", fn := fun _ => fun
  | [] => { results := [.lit (.bool false)], args := [] }
  | _ => none }
def ValueNamesWrongFalsely : Prop := valueNamesRow.holds Try.pinned (OpenSpec.ofChange valueNamesWrong)

/-- 'sextantlaw06.EventNames': WHATEVER THE INPUT: true; the input reads as it did. -/
def eventNamesSpec : ChangeSpec := { name := "eventNames", fn := fun _ => fun
  | [] => { results := [.lit (.bool true)], args := [] }
  | _ => none }
def eventNamesRow : OpenClaim := { program := "ytgonmincggbmkaa", sum := "bbf47e5a3313e401f5d4abeb56cf82a0bdcec22c05c7d5c575342b875ac29cba", func := "sextant/sextantlaw06.EventNames", spec := "eventNames", apart := false }
def EventNamesSaid : Prop := eventNamesRow.holds Try.pinned (OpenSpec.ofChange eventNamesSpec)

/-- ITS FALSE NEIGHBOUR: 'it returns false'. Refute it at one input. -/
def eventNamesWrong : ChangeSpec := { name := "eventNames", fn := fun _ => fun
  | [] => { results := [.lit (.bool false)], args := [] }
  | _ => none }
def EventNamesWrongFalsely : Prop := eventNamesRow.holds Try.pinned (OpenSpec.ofChange eventNamesWrong)

/-- 'sextantlaw10.SyntaxNames': WHATEVER THE INPUT: true; the input reads as it did. -/
def syntaxNamesSpec : ChangeSpec := { name := "syntaxNames", fn := fun _ => fun
  | [] => { results := [.lit (.bool true)], args := [] }
  | _ => none }
def syntaxNamesRow : OpenClaim := { program := "ytgonmincggbmkaa", sum := "bbf47e5a3313e401f5d4abeb56cf82a0bdcec22c05c7d5c575342b875ac29cba", func := "sextant/sextantlaw10.SyntaxNames", spec := "syntaxNames", apart := false }
def SyntaxNamesSaid : Prop := syntaxNamesRow.holds Try.pinned (OpenSpec.ofChange syntaxNamesSpec)

/-- ITS FALSE NEIGHBOUR: 'it returns false'. Refute it at one input. -/
def syntaxNamesWrong : ChangeSpec := { name := "syntaxNames", fn := fun _ => fun
  | [] => { results := [.lit (.bool false)], args := [] }
  | _ => none }
def SyntaxNamesWrongFalsely : Prop := syntaxNamesRow.holds Try.pinned (OpenSpec.ofChange syntaxNamesWrong)

/-- 'sextantlaw24.LibraryNames': WHATEVER THE INPUT: true; the input reads as it did. -/
def libraryNamesSpec : ChangeSpec := { name := "libraryNames", fn := fun _ => fun
  | [] => { results := [.lit (.bool true)], args := [] }
  | _ => none }
def libraryNamesRow : OpenClaim := { program := "ytgonmincggbmkaa", sum := "bbf47e5a3313e401f5d4abeb56cf82a0bdcec22c05c7d5c575342b875ac29cba", func := "sextant/sextantlaw24.LibraryNames", spec := "libraryNames", unfollowed := true, recurses := true, apart := false }
def LibraryNamesSaid : Prop := libraryNamesRow.holds Try.pinned (OpenSpec.ofChange libraryNamesSpec)

/-- ITS FALSE NEIGHBOUR: 'it returns false'. Refute it at one input. -/
def libraryNamesWrong : ChangeSpec := { name := "libraryNames", fn := fun _ => fun
  | [] => { results := [.lit (.bool false)], args := [] }
  | _ => none }
def LibraryNamesWrongFalsely : Prop := libraryNamesRow.holds Try.pinned (OpenSpec.ofChange libraryNamesWrong)

/- THE SECOND FORM. 'bulk': how many values and letters a reading holds, each counted each time it is reached (what is shared counts as often as it is met; a slice's spare places count too). A statement '..UptoSaid' is the law's where the arguments, and the package variables that the reading takes, are together of bulk at most 1048576: NARROWER than '..Said'. Prove '..Said' where nothing that the law and all that it calls make is longer than what came in: it says more and counts as full. Else prove '..UptoSaid'. A law counts once. -/
mutual
def uptoBulk {H : Type} : DataW H → Nat
  | .lit (.string bytes) => bytes.length + 1
  | .lit _ => 1
  | .nil => 1
  | .ptr d => uptoBulk d + 1
  | .slice elems spare => uptoBulkAll elems + uptoBulkAll spare + 1
  | .agg parts => uptoBulkAll parts + 1
  | .iface _ d => uptoBulk d + 1
  | .map entries => uptoBulkEntries entries + 1
  | .held _ => 1
def uptoBulkAll {H : Type} : List (DataW H) → Nat
  | [] => 0
  | d :: r => uptoBulk d + uptoBulkAll r
def uptoBulkEntries {H : Type} : List (Lit × DataW H) → Nat
  | [] => 0
  | x :: r => uptoBulkEntry x + uptoBulkEntries r
def uptoBulkEntry {H : Type} : Lit × DataW H → Nat
  | (.string bytes, d) => bytes.length + uptoBulk d + 1
  | (_, d) => uptoBulk d + 1
 end
def uptoSmall : (H : Type) → List (DataW H) → Bool := fun _ ds => decide (uptoBulkAll ds ≤ 1048576)
def OpenSpec.upto (s : _root_.Go.ChangeSpec) : _root_.Go.OpenSpec := { _root_.Go.OpenSpec.ofChange s with cond := some uptoSmall }

/-- 'sextantlaw02.TextErrors', WHERE WHAT IT READS IS OF BULK AT MOST 1048576: true; the input reads as it did. -/
def textErrorsUptoRow : OpenClaim := { program := "ytgonmincggbmkaa", sum := "bbf47e5a3313e401f5d4abeb56cf82a0bdcec22c05c7d5c575342b875ac29cba", func := "sextant/sextantlaw02.TextErrors", spec := "textErrors", apart := false, narrowed := true }
def TextErrorsUptoSaid : Prop := textErrorsUptoRow.holds Try.pinned (OpenSpec.upto textErrorsSpec)

/-- 'sextantlaw04.ValueNames', WHERE WHAT IT READS IS OF BULK AT MOST 1048576: true; the input reads as it did. -/
def valueNamesUptoRow : OpenClaim := { program := "ytgonmincggbmkaa", sum := "bbf47e5a3313e401f5d4abeb56cf82a0bdcec22c05c7d5c575342b875ac29cba", func := "sextant/sextantlaw04.ValueNames", spec := "valueNames", apart := false, narrowed := true }
def ValueNamesUptoSaid : Prop := valueNamesUptoRow.holds Try.pinned (OpenSpec.upto valueNamesSpec)

/-- 'sextantlaw06.EventNames', WHERE WHAT IT READS IS OF BULK AT MOST 1048576: true; the input reads as it did. -/
def eventNamesUptoRow : OpenClaim := { program := "ytgonmincggbmkaa", sum := "bbf47e5a3313e401f5d4abeb56cf82a0bdcec22c05c7d5c575342b875ac29cba", func := "sextant/sextantlaw06.EventNames", spec := "eventNames", apart := false, narrowed := true }
def EventNamesUptoSaid : Prop := eventNamesUptoRow.holds Try.pinned (OpenSpec.upto eventNamesSpec)

/-- 'sextantlaw10.SyntaxNames', WHERE WHAT IT READS IS OF BULK AT MOST 1048576: true; the input reads as it did. -/
def syntaxNamesUptoRow : OpenClaim := { program := "ytgonmincggbmkaa", sum := "bbf47e5a3313e401f5d4abeb56cf82a0bdcec22c05c7d5c575342b875ac29cba", func := "sextant/sextantlaw10.SyntaxNames", spec := "syntaxNames", apart := false, narrowed := true }
def SyntaxNamesUptoSaid : Prop := syntaxNamesUptoRow.holds Try.pinned (OpenSpec.upto syntaxNamesSpec)

/-- 'sextantlaw24.LibraryNames', WHERE WHAT IT READS IS OF BULK AT MOST 1048576: true; the input reads as it did. -/
def libraryNamesUptoRow : OpenClaim := { program := "ytgonmincggbmkaa", sum := "bbf47e5a3313e401f5d4abeb56cf82a0bdcec22c05c7d5c575342b875ac29cba", func := "sextant/sextantlaw24.LibraryNames", spec := "libraryNames", unfollowed := true, recurses := true, apart := false, narrowed := true }
def LibraryNamesUptoSaid : Prop := libraryNamesUptoRow.holds Try.pinned (OpenSpec.upto libraryNamesSpec)

end Rows
end Go.Proofs.Ytgonmincggbmkaa
