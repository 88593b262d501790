/-
  The operations of the kinds, as the document has them.
-/
import Derived.Test.YtfnhfdimidddaaaTabA
namespace Go.Proofs.Ytfnhfdimidddaaa.libraryNames
open Go.ChangeShapes Go.WideShapes Go.ChangeAt Go.RowKit
set_option linter.unusedVariables false

def rowsR : List Ev.OpsR := [
  ⟨[114, 101, 103, 105, 115, 116, 101, 114], [.val (.string ⟨#[119, 114, 105, 116, 101]⟩), .val (.string ⟨#[114, 101, 97, 100]⟩)], 0⟩,
  ⟨[99, 97, 115], [.val (.string ⟨#[99, 97, 115]⟩), .val (.string ⟨#[114, 101, 97, 100]⟩)], 0⟩,
  ⟨[99, 111, 117, 110, 116, 101, 114], [.val (.string ⟨#[97, 100, 100]⟩), .val (.string ⟨#[103, 101, 116]⟩)], 0⟩,
  ⟨[116, 101, 115, 116, 115, 101, 116], [.val (.string ⟨#[116, 101, 115, 116]⟩), .val (.string ⟨#[114, 101, 115, 101, 116]⟩)], 0⟩,
  ⟨[109, 97, 120, 105, 109, 117, 109], [.val (.string ⟨#[112, 117, 116]⟩), .val (.string ⟨#[103, 101, 116]⟩)], 0⟩,
  ⟨[113, 117, 101, 117, 101], [.val (.string ⟨#[101, 110, 113]⟩), .val (.string ⟨#[100, 101, 113]⟩)], 0⟩,
  ⟨[115, 116, 97, 99, 107], [.val (.string ⟨#[112, 117, 115, 104]⟩), .val (.string ⟨#[112, 111, 112]⟩)], 0⟩,
  ⟨[98, 97, 103], [.val (.string ⟨#[97, 100, 100]⟩), .val (.string ⟨#[104, 97, 115]⟩), .val (.string ⟨#[116, 97, 107, 101]⟩)], 0⟩,
  ⟨[99, 111, 110, 115, 101, 110, 115, 117, 115], [.val (.string ⟨#[100, 101, 99, 105, 100, 101]⟩)], 0⟩,
  ⟨[101, 120, 99, 104, 97, 110, 103, 101, 114], [.val (.string ⟨#[101, 120, 99, 104, 97, 110, 103, 101]⟩)], 0⟩,
  ⟨[115, 110, 97, 112, 115, 104, 111, 116], [.val (.string ⟨#[119, 114, 105, 116, 101]⟩)], 0⟩,
  ⟨[108, 97, 116, 116, 105, 99, 101], [.val (.string ⟨#[112, 114, 111, 112, 111, 115, 101]⟩)], 0⟩,
  ⟨[98, 97, 116, 99, 104], [.val (.string ⟨#[101, 110, 113]⟩), .val (.string ⟨#[100, 101, 113]⟩)], 0⟩,
  ⟨[97, 100, 111, 112, 116], [.val (.string ⟨#[112, 114, 111, 112, 111, 115, 101]⟩)], 0⟩,
  ⟨[119, 114, 105, 116, 101, 115, 110, 97, 112], [.val (.string ⟨#[119, 114, 105, 116, 101]⟩)], 0⟩,
  ⟨[109, 101, 101, 116, 105, 110, 103], [.val (.string ⟨#[109, 101, 101, 116]⟩)], 0⟩,
  ⟨[115, 119, 97, 112], [.val (.string ⟨#[115, 119, 97, 112]⟩)], 0⟩,
  ⟨[108, 111, 103], [.val (.string ⟨#[97, 112, 112, 101, 110, 100]⟩), .val (.string ⟨#[114, 101, 97, 100]⟩)], 0⟩,
  ⟨[100, 101, 113, 117, 101], [.val (.string ⟨#[108, 101, 102, 116]⟩), .val (.string ⟨#[114, 105, 103, 104, 116]⟩), .val (.string ⟨#[112, 111, 112, 108, 101, 102, 116]⟩), .val (.string ⟨#[112, 111, 112, 114, 105, 103, 104, 116]⟩)], 0⟩,
  ⟨[112, 114, 105, 111, 114, 105, 116, 121], [.val (.string ⟨#[105, 110, 115, 101, 114, 116]⟩), .val (.string ⟨#[108, 101, 97, 115, 116]⟩)], 0⟩,
  ⟨[109, 97, 112], [.val (.string ⟨#[112, 117, 116]⟩), .val (.string ⟨#[103, 101, 116]⟩), .val (.string ⟨#[100, 114, 111, 112]⟩)], 0⟩,
  ⟨[108, 111, 99, 107], [.val (.string ⟨#[108, 111, 99, 107]⟩), .val (.string ⟨#[117, 110, 108, 111, 99, 107]⟩)], 0⟩,
  ⟨[115, 101, 109, 97, 112, 104, 111, 114, 101], [.val (.string ⟨#[97, 99, 113, 117, 105, 114, 101]⟩), .val (.string ⟨#[114, 101, 108, 101, 97, 115, 101]⟩)], 0⟩,
  ⟨[107, 115, 101, 116], [.val (.string ⟨#[100, 101, 99, 105, 100, 101]⟩)], 0⟩,
  ⟨[97, 116, 111, 109, 105, 99], [.val (.string ⟨#[117, 112, 100, 97, 116, 101]⟩), .val (.string ⟨#[115, 99, 97, 110]⟩)], 0⟩,
  ⟨[114, 101, 110, 97, 109, 101], [.val (.string ⟨#[114, 101, 110, 97, 109, 101]⟩)], 0⟩]
set_option maxRecDepth 100000 in
theorem ref0 : Ev.pureCall (Ev.evFn cfg1 9) 8 [.val (.string ⟨⟨[114, 101, 103, 105, 115, 116, 101, 114]⟩⟩)] = some (.many [.slice [.val (.string ⟨#[119, 114, 105, 116, 101]⟩), .val (.string ⟨#[114, 101, 97, 100]⟩)], .val (.int .i64 0)]) := by kernel_rfl
set_option maxRecDepth 100000 in
theorem ref1 : Ev.pureCall (Ev.evFn cfg1 9) 8 [.val (.string ⟨⟨[99, 97, 115]⟩⟩)] = some (.many [.slice [.val (.string ⟨#[99, 97, 115]⟩), .val (.string ⟨#[114, 101, 97, 100]⟩)], .val (.int .i64 0)]) := by kernel_rfl
set_option maxRecDepth 100000 in
theorem ref2 : Ev.pureCall (Ev.evFn cfg1 9) 8 [.val (.string ⟨⟨[99, 111, 117, 110, 116, 101, 114]⟩⟩)] = some (.many [.slice [.val (.string ⟨#[97, 100, 100]⟩), .val (.string ⟨#[103, 101, 116]⟩)], .val (.int .i64 0)]) := by kernel_rfl
set_option maxRecDepth 100000 in
theorem ref3 : Ev.pureCall (Ev.evFn cfg1 9) 8 [.val (.string ⟨⟨[116, 101, 115, 116, 115, 101, 116]⟩⟩)] = some (.many [.slice [.val (.string ⟨#[116, 101, 115, 116]⟩), .val (.string ⟨#[114, 101, 115, 101, 116]⟩)], .val (.int .i64 0)]) := by kernel_rfl
set_option maxRecDepth 100000 in
theorem ref4 : Ev.pureCall (Ev.evFn cfg1 9) 8 [.val (.string ⟨⟨[109, 97, 120, 105, 109, 117, 109]⟩⟩)] = some (.many [.slice [.val (.string ⟨#[112, 117, 116]⟩), .val (.string ⟨#[103, 101, 116]⟩)], .val (.int .i64 0)]) := by kernel_rfl
set_option maxRecDepth 100000 in
theorem ref5 : Ev.pureCall (Ev.evFn cfg1 9) 8 [.val (.string ⟨⟨[113, 117, 101, 117, 101]⟩⟩)] = some (.many [.slice [.val (.string ⟨#[101, 110, 113]⟩), .val (.string ⟨#[100, 101, 113]⟩)], .val (.int .i64 0)]) := by kernel_rfl
set_option maxRecDepth 100000 in
theorem ref6 : Ev.pureCall (Ev.evFn cfg1 9) 8 [.val (.string ⟨⟨[115, 116, 97, 99, 107]⟩⟩)] = some (.many [.slice [.val (.string ⟨#[112, 117, 115, 104]⟩), .val (.string ⟨#[112, 111, 112]⟩)], .val (.int .i64 0)]) := by kernel_rfl
set_option maxRecDepth 100000 in
theorem ref7 : Ev.pureCall (Ev.evFn cfg1 9) 8 [.val (.string ⟨⟨[98, 97, 103]⟩⟩)] = some (.many [.slice [.val (.string ⟨#[97, 100, 100]⟩), .val (.string ⟨#[104, 97, 115]⟩), .val (.string ⟨#[116, 97, 107, 101]⟩)], .val (.int .i64 0)]) := by kernel_rfl
set_option maxRecDepth 100000 in
theorem ref8 : Ev.pureCall (Ev.evFn cfg1 9) 8 [.val (.string ⟨⟨[99, 111, 110, 115, 101, 110, 115, 117, 115]⟩⟩)] = some (.many [.slice [.val (.string ⟨#[100, 101, 99, 105, 100, 101]⟩)], .val (.int .i64 0)]) := by kernel_rfl
set_option maxRecDepth 100000 in
theorem ref9 : Ev.pureCall (Ev.evFn cfg1 9) 8 [.val (.string ⟨⟨[101, 120, 99, 104, 97, 110, 103, 101, 114]⟩⟩)] = some (.many [.slice [.val (.string ⟨#[101, 120, 99, 104, 97, 110, 103, 101]⟩)], .val (.int .i64 0)]) := by kernel_rfl
set_option maxRecDepth 100000 in
theorem ref10 : Ev.pureCall (Ev.evFn cfg1 9) 8 [.val (.string ⟨⟨[115, 110, 97, 112, 115, 104, 111, 116]⟩⟩)] = some (.many [.slice [.val (.string ⟨#[119, 114, 105, 116, 101]⟩)], .val (.int .i64 0)]) := by kernel_rfl
set_option maxRecDepth 100000 in
theorem ref11 : Ev.pureCall (Ev.evFn cfg1 9) 8 [.val (.string ⟨⟨[108, 97, 116, 116, 105, 99, 101]⟩⟩)] = some (.many [.slice [.val (.string ⟨#[112, 114, 111, 112, 111, 115, 101]⟩)], .val (.int .i64 0)]) := by kernel_rfl
set_option maxRecDepth 100000 in
theorem ref12 : Ev.pureCall (Ev.evFn cfg1 9) 8 [.val (.string ⟨⟨[98, 97, 116, 99, 104]⟩⟩)] = some (.many [.slice [.val (.string ⟨#[101, 110, 113]⟩), .val (.string ⟨#[100, 101, 113]⟩)], .val (.int .i64 0)]) := by kernel_rfl
set_option maxRecDepth 100000 in
theorem ref13 : Ev.pureCall (Ev.evFn cfg1 9) 8 [.val (.string ⟨⟨[97, 100, 111, 112, 116]⟩⟩)] = some (.many [.slice [.val (.string ⟨#[112, 114, 111, 112, 111, 115, 101]⟩)], .val (.int .i64 0)]) := by kernel_rfl
set_option maxRecDepth 100000 in
theorem ref14 : Ev.pureCall (Ev.evFn cfg1 9) 8 [.val (.string ⟨⟨[119, 114, 105, 116, 101, 115, 110, 97, 112]⟩⟩)] = some (.many [.slice [.val (.string ⟨#[119, 114, 105, 116, 101]⟩)], .val (.int .i64 0)]) := by kernel_rfl
set_option maxRecDepth 100000 in
theorem ref15 : Ev.pureCall (Ev.evFn cfg1 9) 8 [.val (.string ⟨⟨[109, 101, 101, 116, 105, 110, 103]⟩⟩)] = some (.many [.slice [.val (.string ⟨#[109, 101, 101, 116]⟩)], .val (.int .i64 0)]) := by kernel_rfl
set_option maxRecDepth 100000 in
theorem ref16 : Ev.pureCall (Ev.evFn cfg1 9) 8 [.val (.string ⟨⟨[115, 119, 97, 112]⟩⟩)] = some (.many [.slice [.val (.string ⟨#[115, 119, 97, 112]⟩)], .val (.int .i64 0)]) := by kernel_rfl
set_option maxRecDepth 100000 in
theorem ref17 : Ev.pureCall (Ev.evFn cfg1 9) 8 [.val (.string ⟨⟨[108, 111, 103]⟩⟩)] = some (.many [.slice [.val (.string ⟨#[97, 112, 112, 101, 110, 100]⟩), .val (.string ⟨#[114, 101, 97, 100]⟩)], .val (.int .i64 0)]) := by kernel_rfl
set_option maxRecDepth 100000 in
theorem ref18 : Ev.pureCall (Ev.evFn cfg1 9) 8 [.val (.string ⟨⟨[100, 101, 113, 117, 101]⟩⟩)] = some (.many [.slice [.val (.string ⟨#[108, 101, 102, 116]⟩), .val (.string ⟨#[114, 105, 103, 104, 116]⟩), .val (.string ⟨#[112, 111, 112, 108, 101, 102, 116]⟩), .val (.string ⟨#[112, 111, 112, 114, 105, 103, 104, 116]⟩)], .val (.int .i64 0)]) := by kernel_rfl
set_option maxRecDepth 100000 in
theorem ref19 : Ev.pureCall (Ev.evFn cfg1 9) 8 [.val (.string ⟨⟨[112, 114, 105, 111, 114, 105, 116, 121]⟩⟩)] = some (.many [.slice [.val (.string ⟨#[105, 110, 115, 101, 114, 116]⟩), .val (.string ⟨#[108, 101, 97, 115, 116]⟩)], .val (.int .i64 0)]) := by kernel_rfl
set_option maxRecDepth 100000 in
theorem ref20 : Ev.pureCall (Ev.evFn cfg1 9) 8 [.val (.string ⟨⟨[109, 97, 112]⟩⟩)] = some (.many [.slice [.val (.string ⟨#[112, 117, 116]⟩), .val (.string ⟨#[103, 101, 116]⟩), .val (.string ⟨#[100, 114, 111, 112]⟩)], .val (.int .i64 0)]) := by kernel_rfl
set_option maxRecDepth 100000 in
theorem ref21 : Ev.pureCall (Ev.evFn cfg1 9) 8 [.val (.string ⟨⟨[108, 111, 99, 107]⟩⟩)] = some (.many [.slice [.val (.string ⟨#[108, 111, 99, 107]⟩), .val (.string ⟨#[117, 110, 108, 111, 99, 107]⟩)], .val (.int .i64 0)]) := by kernel_rfl
set_option maxRecDepth 100000 in
theorem ref22 : Ev.pureCall (Ev.evFn cfg1 9) 8 [.val (.string ⟨⟨[115, 101, 109, 97, 112, 104, 111, 114, 101]⟩⟩)] = some (.many [.slice [.val (.string ⟨#[97, 99, 113, 117, 105, 114, 101]⟩), .val (.string ⟨#[114, 101, 108, 101, 97, 115, 101]⟩)], .val (.int .i64 0)]) := by kernel_rfl
set_option maxRecDepth 100000 in
theorem ref23 : Ev.pureCall (Ev.evFn cfg1 9) 8 [.val (.string ⟨⟨[107, 115, 101, 116]⟩⟩)] = some (.many [.slice [.val (.string ⟨#[100, 101, 99, 105, 100, 101]⟩)], .val (.int .i64 0)]) := by kernel_rfl
set_option maxRecDepth 100000 in
theorem ref24 : Ev.pureCall (Ev.evFn cfg1 9) 8 [.val (.string ⟨⟨[97, 116, 111, 109, 105, 99]⟩⟩)] = some (.many [.slice [.val (.string ⟨#[117, 112, 100, 97, 116, 101]⟩), .val (.string ⟨#[115, 99, 97, 110]⟩)], .val (.int .i64 0)]) := by kernel_rfl
set_option maxRecDepth 100000 in
theorem ref25 : Ev.pureCall (Ev.evFn cfg1 9) 8 [.val (.string ⟨⟨[114, 101, 110, 97, 109, 101]⟩⟩)] = some (.many [.slice [.val (.string ⟨#[114, 101, 110, 97, 109, 101]⟩)], .val (.int .i64 0)]) := by kernel_rfl
theorem ref_all : ∀ r ∈ rowsR, Ev.pureCall (Ev.evFn cfg1 9) 8 [.val (.string ⟨⟨r.name⟩⟩)] = some (.many [.slice r.ops, .val (.int .i64 r.code)]) := by
  simp only [rowsR, List.forall_mem_cons, List.not_mem_nil, false_implies, implies_true, and_true]
  exact ⟨ref0, ref1, ref2, ref3, ref4, ref5, ref6, ref7, ref8, ref9, ref10, ref11, ref12, ref13, ref14, ref15, ref16, ref17, ref18, ref19, ref20, ref21, ref22, ref23, ref24, ref25⟩
end Go.Proofs.Ytfnhfdimidddaaa.libraryNames
