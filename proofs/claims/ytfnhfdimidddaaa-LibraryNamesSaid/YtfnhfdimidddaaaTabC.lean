/-
  The operations of the other kinds, as the program hands them out.
-/
import Derived.Test.YtfnhfdimidddaaaTabB
namespace Go.Proofs.Ytfnhfdimidddaaa.libraryNames
open Go.ChangeShapes Go.WideShapes Go.ChangeAt Go.RowKit
set_option linter.unusedVariables false

set_option maxRecDepth 100000 in
theorem ops13 : ∀ bs, Ev.thawCall (Ev.evFn cfg1 9) 7 [.val (.string ⟨⟨[97, 100, 111, 112, 116]⟩⟩)] bs = some (Ev.OpsR.out ⟨[97, 100, 111, 112, 116], [.val (.string ⟨#[112, 114, 111, 112, 111, 115, 101]⟩)], 0⟩ bs) := fun bs => by kernel_rfl
set_option maxRecDepth 100000 in
theorem ops14 : ∀ bs, Ev.thawCall (Ev.evFn cfg1 9) 7 [.val (.string ⟨⟨[119, 114, 105, 116, 101, 115, 110, 97, 112]⟩⟩)] bs = some (Ev.OpsR.out ⟨[119, 114, 105, 116, 101, 115, 110, 97, 112], [.val (.string ⟨#[119, 114, 105, 116, 101]⟩)], 0⟩ bs) := fun bs => by kernel_rfl
set_option maxRecDepth 100000 in
theorem ops15 : ∀ bs, Ev.thawCall (Ev.evFn cfg1 9) 7 [.val (.string ⟨⟨[109, 101, 101, 116, 105, 110, 103]⟩⟩)] bs = some (Ev.OpsR.out ⟨[109, 101, 101, 116, 105, 110, 103], [.val (.string ⟨#[109, 101, 101, 116]⟩)], 0⟩ bs) := fun bs => by kernel_rfl
set_option maxRecDepth 100000 in
theorem ops16 : ∀ bs, Ev.thawCall (Ev.evFn cfg1 9) 7 [.val (.string ⟨⟨[115, 119, 97, 112]⟩⟩)] bs = some (Ev.OpsR.out ⟨[115, 119, 97, 112], [.val (.string ⟨#[115, 119, 97, 112]⟩)], 0⟩ bs) := fun bs => by kernel_rfl
set_option maxRecDepth 100000 in
theorem ops17 : ∀ bs, Ev.thawCall (Ev.evFn cfg1 9) 7 [.val (.string ⟨⟨[108, 111, 103]⟩⟩)] bs = some (Ev.OpsR.out ⟨[108, 111, 103], [.val (.string ⟨#[97, 112, 112, 101, 110, 100]⟩), .val (.string ⟨#[114, 101, 97, 100]⟩)], 0⟩ bs) := fun bs => by kernel_rfl
set_option maxRecDepth 100000 in
theorem ops18 : ∀ bs, Ev.thawCall (Ev.evFn cfg1 9) 7 [.val (.string ⟨⟨[100, 101, 113, 117, 101]⟩⟩)] bs = some (Ev.OpsR.out ⟨[100, 101, 113, 117, 101], [.val (.string ⟨#[108, 101, 102, 116]⟩), .val (.string ⟨#[114, 105, 103, 104, 116]⟩), .val (.string ⟨#[112, 111, 112, 108, 101, 102, 116]⟩), .val (.string ⟨#[112, 111, 112, 114, 105, 103, 104, 116]⟩)], 0⟩ bs) := fun bs => by kernel_rfl
set_option maxRecDepth 100000 in
theorem ops19 : ∀ bs, Ev.thawCall (Ev.evFn cfg1 9) 7 [.val (.string ⟨⟨[112, 114, 105, 111, 114, 105, 116, 121]⟩⟩)] bs = some (Ev.OpsR.out ⟨[112, 114, 105, 111, 114, 105, 116, 121], [.val (.string ⟨#[105, 110, 115, 101, 114, 116]⟩), .val (.string ⟨#[108, 101, 97, 115, 116]⟩)], 0⟩ bs) := fun bs => by kernel_rfl
set_option maxRecDepth 100000 in
theorem ops20 : ∀ bs, Ev.thawCall (Ev.evFn cfg1 9) 7 [.val (.string ⟨⟨[109, 97, 112]⟩⟩)] bs = some (Ev.OpsR.out ⟨[109, 97, 112], [.val (.string ⟨#[112, 117, 116]⟩), .val (.string ⟨#[103, 101, 116]⟩), .val (.string ⟨#[100, 114, 111, 112]⟩)], 0⟩ bs) := fun bs => by kernel_rfl
set_option maxRecDepth 100000 in
theorem ops21 : ∀ bs, Ev.thawCall (Ev.evFn cfg1 9) 7 [.val (.string ⟨⟨[108, 111, 99, 107]⟩⟩)] bs = some (Ev.OpsR.out ⟨[108, 111, 99, 107], [.val (.string ⟨#[108, 111, 99, 107]⟩), .val (.string ⟨#[117, 110, 108, 111, 99, 107]⟩)], 0⟩ bs) := fun bs => by kernel_rfl
set_option maxRecDepth 100000 in
theorem ops22 : ∀ bs, Ev.thawCall (Ev.evFn cfg1 9) 7 [.val (.string ⟨⟨[115, 101, 109, 97, 112, 104, 111, 114, 101]⟩⟩)] bs = some (Ev.OpsR.out ⟨[115, 101, 109, 97, 112, 104, 111, 114, 101], [.val (.string ⟨#[97, 99, 113, 117, 105, 114, 101]⟩), .val (.string ⟨#[114, 101, 108, 101, 97, 115, 101]⟩)], 0⟩ bs) := fun bs => by kernel_rfl
set_option maxRecDepth 100000 in
theorem ops23 : ∀ bs, Ev.thawCall (Ev.evFn cfg1 9) 7 [.val (.string ⟨⟨[107, 115, 101, 116]⟩⟩)] bs = some (Ev.OpsR.out ⟨[107, 115, 101, 116], [.val (.string ⟨#[100, 101, 99, 105, 100, 101]⟩)], 0⟩ bs) := fun bs => by kernel_rfl
set_option maxRecDepth 100000 in
theorem ops24 : ∀ bs, Ev.thawCall (Ev.evFn cfg1 9) 7 [.val (.string ⟨⟨[97, 116, 111, 109, 105, 99]⟩⟩)] bs = some (Ev.OpsR.out ⟨[97, 116, 111, 109, 105, 99], [.val (.string ⟨#[117, 112, 100, 97, 116, 101]⟩), .val (.string ⟨#[115, 99, 97, 110]⟩)], 0⟩ bs) := fun bs => by kernel_rfl
set_option maxRecDepth 100000 in
theorem ops25 : ∀ bs, Ev.thawCall (Ev.evFn cfg1 9) 7 [.val (.string ⟨⟨[114, 101, 110, 97, 109, 101]⟩⟩)] bs = some (Ev.OpsR.out ⟨[114, 101, 110, 97, 109, 101], [.val (.string ⟨#[114, 101, 110, 97, 109, 101]⟩)], 0⟩ bs) := fun bs => by kernel_rfl
set_option maxRecDepth 100000 in
theorem ops26 : ∀ bs, Ev.thawCall (Ev.evFn cfg1 9) 7 [.val (.string ⟨⟨[110, 111, 116, 104, 105, 110, 103]⟩⟩)] bs = some (Ev.OpsR.out ⟨[110, 111, 116, 104, 105, 110, 103], [], 240⟩ bs) := fun bs => by kernel_rfl
theorem ops_all : ∀ r ∈ rows, ∀ bs, Ev.thawCall (Ev.evFn cfg1 9) 7 [.val (.string ⟨⟨r.name⟩⟩)] bs = some (r.out bs) := by
  simp only [rows, List.forall_mem_cons, List.not_mem_nil, false_implies, implies_true, and_true]
  exact ⟨ops0, ops1, ops2, ops3, ops4, ops5, ops6, ops7, ops8, ops9, ops10, ops11, ops12, ops13, ops14, ops15, ops16, ops17, ops18, ops19, ops20, ops21, ops22, ops23, ops24, ops25, ops26⟩
end Go.Proofs.Ytfnhfdimidddaaa.libraryNames
