/-
  The operations of the first kinds, as the program hands them out.
-/
import Derived.Test.YtfnhfdimidddaaaTabA
namespace Go.Proofs.Ytfnhfdimidddaaa.libraryNames
open Go.ChangeShapes Go.WideShapes Go.ChangeAt Go.RowKit
set_option linter.unusedVariables false

def rows : List Ev.OpsR := [
  ⟨[114, 101, 103, 105, 115, 116, 101, 114], [.val (.string ⟨#[119, 114, 105, 116, 101]⟩), .val (.string ⟨#[114, 101, 97, 100]⟩)], 0⟩,
  ⟨[99, 97, 115], [.val (.string ⟨#[99, 97, 115]⟩), .val (.string ⟨#[114, 101, 97, 100]⟩)], 0⟩,
  ⟨[99, 111, 117, 110, 116, 101, 114], [.val (.string ⟨#[97, 100, 100]⟩), .val (.string ⟨#[103, 101, 116]⟩)], 0⟩,
  ⟨[116, 101, 115, 116, 115, 101, 116], [.val (.string ⟨#[116, 101, 115, 116]⟩), .val (.string ⟨#[114, 101, 115, 101, 116]⟩)], 0⟩,
  ⟨[109, 97, 120, 105, 109, 117, 109], [.val (.string ⟨#[112, 117, 116]⟩), .val (.string ⟨#[103, 101, 116]⟩)], 0⟩,
  ⟨[113, 117, 101, 117, 101], [.val (.string ⟨#[101, 110, 113]⟩), .val (.string ⟨#[100, 101, 113]⟩)], 0⟩,
  ⟨[115, 116, 97, 99, 107], [.val (.string ⟨#[112, 117, 115, 104]⟩), .val (.string ⟨#[112, 111, 112]⟩)], 0⟩,
  ⟨[98, 97, 103], [.val (.string ⟨#[97, 100, 100]⟩), .val (.string ⟨#[104, 97, 115]⟩), .val (.string ⟨#[116, 97, 107, 101]⟩)], 0⟩,
  ⟨[99, 111, 110, 115, 101, 110, 115, 117, 115], [.val (.string ⟨#[100, 101, 99, 105, 100, 101]⟩)], 0⟩,
  ⟨[101, 120, 99, 104, 97, 110, 103, 101, 114], [.val (.string ⟨#[101, 120, 99, 104, 97, 110, 103, 101]⟩)], 0⟩,
  ⟨[115, 110, 97, 112, 115, 104, 111, 116], [.val (.string ⟨#[119, 114, 105, 116, 101]⟩)], 0⟩,
  ⟨[108, 97, 116, 116, 105, 99, 101], [.val (.string ⟨#[112, 114, 111, 112, 111, 115, 101]⟩)], 0⟩,
  ⟨[98, 97, 116, 99, 104], [.val (.string ⟨#[101, 110, 113]⟩), .val (.string ⟨#[100, 101, 113]⟩)], 0⟩,
  ⟨[97, 100, 111, 112, 116], [.val (.string ⟨#[112, 114, 111, 112, 111, 115, 101]⟩)], 0⟩,
  ⟨[119, 114, 105, 116, 101, 115, 110, 97, 112], [.val (.string ⟨#[119, 114, 105, 116, 101]⟩)], 0⟩,
  ⟨[109, 101, 101, 116, 105, 110, 103], [.val (.string ⟨#[109, 101, 101, 116]⟩)], 0⟩,
  ⟨[115, 119, 97, 112], [.val (.string ⟨#[115, 119, 97, 112]⟩)], 0⟩,
  ⟨[108, 111, 103], [.val (.string ⟨#[97, 112, 112, 101, 110, 100]⟩), .val (.string ⟨#[114, 101, 97, 100]⟩)], 0⟩,
  ⟨[100, 101, 113, 117, 101], [.val (.string ⟨#[108, 101, 102, 116]⟩), .val (.string ⟨#[114, 105, 103, 104, 116]⟩), .val (.string ⟨#[112, 111, 112, 108, 101, 102, 116]⟩), .val (.string ⟨#[112, 111, 112, 114, 105, 103, 104, 116]⟩)], 0⟩,
  ⟨[112, 114, 105, 111, 114, 105, 116, 121], [.val (.string ⟨#[105, 110, 115, 101, 114, 116]⟩), .val (.string ⟨#[108, 101, 97, 115, 116]⟩)], 0⟩,
  ⟨[109, 97, 112], [.val (.string ⟨#[112, 117, 116]⟩), .val (.string ⟨#[103, 101, 116]⟩), .val (.string ⟨#[100, 114, 111, 112]⟩)], 0⟩,
  ⟨[108, 111, 99, 107], [.val (.string ⟨#[108, 111, 99, 107]⟩), .val (.string ⟨#[117, 110, 108, 111, 99, 107]⟩)], 0⟩,
  ⟨[115, 101, 109, 97, 112, 104, 111, 114, 101], [.val (.string ⟨#[97, 99, 113, 117, 105, 114, 101]⟩), .val (.string ⟨#[114, 101, 108, 101, 97, 115, 101]⟩)], 0⟩,
  ⟨[107, 115, 101, 116], [.val (.string ⟨#[100, 101, 99, 105, 100, 101]⟩)], 0⟩,
  ⟨[97, 116, 111, 109, 105, 99], [.val (.string ⟨#[117, 112, 100, 97, 116, 101]⟩), .val (.string ⟨#[115, 99, 97, 110]⟩)], 0⟩,
  ⟨[114, 101, 110, 97, 109, 101], [.val (.string ⟨#[114, 101, 110, 97, 109, 101]⟩)], 0⟩,
  ⟨[110, 111, 116, 104, 105, 110, 103], [], 240⟩]
set_option maxRecDepth 100000 in
theorem ops0 : ∀ bs, Ev.thawCall (Ev.evFn cfg1 9) 7 [.val (.string ⟨⟨[114, 101, 103, 105, 115, 116, 101, 114]⟩⟩)] bs = some (Ev.OpsR.out ⟨[114, 101, 103, 105, 115, 116, 101, 114], [.val (.string ⟨#[119, 114, 105, 116, 101]⟩), .val (.string ⟨#[114, 101, 97, 100]⟩)], 0⟩ bs) := fun bs => by kernel_rfl
set_option maxRecDepth 100000 in
theorem ops1 : ∀ bs, Ev.thawCall (Ev.evFn cfg1 9) 7 [.val (.string ⟨⟨[99, 97, 115]⟩⟩)] bs = some (Ev.OpsR.out ⟨[99, 97, 115], [.val (.string ⟨#[99, 97, 115]⟩), .val (.string ⟨#[114, 101, 97, 100]⟩)], 0⟩ bs) := fun bs => by kernel_rfl
set_option maxRecDepth 100000 in
theorem ops2 : ∀ bs, Ev.thawCall (Ev.evFn cfg1 9) 7 [.val (.string ⟨⟨[99, 111, 117, 110, 116, 101, 114]⟩⟩)] bs = some (Ev.OpsR.out ⟨[99, 111, 117, 110, 116, 101, 114], [.val (.string ⟨#[97, 100, 100]⟩), .val (.string ⟨#[103, 101, 116]⟩)], 0⟩ bs) := fun bs => by kernel_rfl
set_option maxRecDepth 100000 in
theorem ops3 : ∀ bs, Ev.thawCall (Ev.evFn cfg1 9) 7 [.val (.string ⟨⟨[116, 101, 115, 116, 115, 101, 116]⟩⟩)] bs = some (Ev.OpsR.out ⟨[116, 101, 115, 116, 115, 101, 116], [.val (.string ⟨#[116, 101, 115, 116]⟩), .val (.string ⟨#[114, 101, 115, 101, 116]⟩)], 0⟩ bs) := fun bs => by kernel_rfl
set_option maxRecDepth 100000 in
theorem ops4 : ∀ bs, Ev.thawCall (Ev.evFn cfg1 9) 7 [.val (.string ⟨⟨[109, 97, 120, 105, 109, 117, 109]⟩⟩)] bs = some (Ev.OpsR.out ⟨[109, 97, 120, 105, 109, 117, 109], [.val (.string ⟨#[112, 117, 116]⟩), .val (.string ⟨#[103, 101, 116]⟩)], 0⟩ bs) := fun bs => by kernel_rfl
set_option maxRecDepth 100000 in
theorem ops5 : ∀ bs, Ev.thawCall (Ev.evFn cfg1 9) 7 [.val (.string ⟨⟨[113, 117, 101, 117, 101]⟩⟩)] bs = some (Ev.OpsR.out ⟨[113, 117, 101, 117, 101], [.val (.string ⟨#[101, 110, 113]⟩), .val (.string ⟨#[100, 101, 113]⟩)], 0⟩ bs) := fun bs => by kernel_rfl
set_option maxRecDepth 100000 in
theorem ops6 : ∀ bs, Ev.thawCall (Ev.evFn cfg1 9) 7 [.val (.string ⟨⟨[115, 116, 97, 99, 107]⟩⟩)] bs = some (Ev.OpsR.out ⟨[115, 116, 97, 99, 107], [.val (.string ⟨#[112, 117, 115, 104]⟩), .val (.string ⟨#[112, 111, 112]⟩)], 0⟩ bs) := fun bs => by kernel_rfl
set_option maxRecDepth 100000 in
theorem ops7 : ∀ bs, Ev.thawCall (Ev.evFn cfg1 9) 7 [.val (.string ⟨⟨[98, 97, 103]⟩⟩)] bs = some (Ev.OpsR.out ⟨[98, 97, 103], [.val (.string ⟨#[97, 100, 100]⟩), .val (.string ⟨#[104, 97, 115]⟩), .val (.string ⟨#[116, 97, 107, 101]⟩)], 0⟩ bs) := fun bs => by kernel_rfl
set_option maxRecDepth 100000 in
theorem ops8 : ∀ bs, Ev.thawCall (Ev.evFn cfg1 9) 7 [.val (.string ⟨⟨[99, 111, 110, 115, 101, 110, 115, 117, 115]⟩⟩)] bs = some (Ev.OpsR.out ⟨[99, 111, 110, 115, 101, 110, 115, 117, 115], [.val (.string ⟨#[100, 101, 99, 105, 100, 101]⟩)], 0⟩ bs) := fun bs => by kernel_rfl
set_option maxRecDepth 100000 in
theorem ops9 : ∀ bs, Ev.thawCall (Ev.evFn cfg1 9) 7 [.val (.string ⟨⟨[101, 120, 99, 104, 97, 110, 103, 101, 114]⟩⟩)] bs = some (Ev.OpsR.out ⟨[101, 120, 99, 104, 97, 110, 103, 101, 114], [.val (.string ⟨#[101, 120, 99, 104, 97, 110, 103, 101]⟩)], 0⟩ bs) := fun bs => by kernel_rfl
set_option maxRecDepth 100000 in
theorem ops10 : ∀ bs, Ev.thawCall (Ev.evFn cfg1 9) 7 [.val (.string ⟨⟨[115, 110, 97, 112, 115, 104, 111, 116]⟩⟩)] bs = some (Ev.OpsR.out ⟨[115, 110, 97, 112, 115, 104, 111, 116], [.val (.string ⟨#[119, 114, 105, 116, 101]⟩)], 0⟩ bs) := fun bs => by kernel_rfl
set_option maxRecDepth 100000 in
theorem ops11 : ∀ bs, Ev.thawCall (Ev.evFn cfg1 9) 7 [.val (.string ⟨⟨[108, 97, 116, 116, 105, 99, 101]⟩⟩)] bs = some (Ev.OpsR.out ⟨[108, 97, 116, 116, 105, 99, 101], [.val (.string ⟨#[112, 114, 111, 112, 111, 115, 101]⟩)], 0⟩ bs) := fun bs => by kernel_rfl
set_option maxRecDepth 100000 in
theorem ops12 : ∀ bs, Ev.thawCall (Ev.evFn cfg1 9) 7 [.val (.string ⟨⟨[98, 97, 116, 99, 104]⟩⟩)] bs = some (Ev.OpsR.out ⟨[98, 97, 116, 99, 104], [.val (.string ⟨#[101, 110, 113]⟩), .val (.string ⟨#[100, 101, 113]⟩)], 0⟩ bs) := fun bs => by kernel_rfl
end Go.Proofs.Ytfnhfdimidddaaa.libraryNames
