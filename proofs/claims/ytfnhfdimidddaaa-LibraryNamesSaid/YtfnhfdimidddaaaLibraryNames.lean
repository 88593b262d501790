/-
  The statement 'LibraryNames': the law returns true whenever it is called. The walk: the proved reader's (texts <Name>Ev*), run by the kernel. (The frame of the row's step was written by the seat's proof-skeleton.)
-/
import Derived.Test.YtfnhfdimidddaaaTabE
namespace Go.Proofs.Ytfnhfdimidddaaa.libraryNames
open Go.ChangeShapes Go.WideShapes Go.ChangeAt Go.RowKit
set_option linter.unusedVariables false

theorem walk (w : World) : Calls Try.prog 3 #[] w fun e w' => e = .returned (.bool true) ∧ w'.os = w.os ∧ w'.output = w.output ∧ ∀ k, k < w.heap.size → w'.heap[k]? = w.heap[k]? := by
  have h := (Ev.pureCall_sound (Ev.fn_sound (C := cfg2) (glob := fun _ => Option.none) ⟨rfl, rfl, odd2⟩ Try.checked.mixed ext2 12) read).2 ⟨fun _ _ => Option.none, ⟨fun _ => Option.none, Ev.byteT Try.prog⟩, fun _ => Option.none⟩ w [] ⟨fun _ _ _ e => (by cases e), fun _ _ e => (by cases e), fun _ _ e => (by cases e), fun _ _ e => (by cases e)⟩ ⟨rfl, fun _ _ e => (by cases e)⟩ rfl
  refine Calls.mono h ?_
  rintro e w' ⟨u, ro', rfl, hu, hl⟩
  simp only [Ev.PRel, Ev.DRel] at hu
  obtain ⟨rfl, _⟩ := hu
  exact ⟨rfl, hl.os, hl.output, fun k hk => hl.keep k hk (fun q => q)⟩

set_option maxRecDepth 100000 in
theorem lifted (os : Os) (started : os.Started) (H : Type) (enc : TypeId × Value → H) :
    ReturnsInHanded {} Try.checked os 3 .any (Rows.libraryNamesSpec.pre6 enc Try.prog Try.f3 Rows.libraryNamesRow.domain false) (Rows.libraryNamesSpec.post enc Try.prog Try.f3 false true false false) := by
  refine returnsInHanded_of_change (C := Try.checked) own started (by kernel_rfl) Try.func3
    (ChangeSpec.witness6 (enc := enc) (C := Try.checked) false ⟨#[], #[], []⟩ 8 (by kernel_rfl) (by kernel_rfl) (by kernel_rfl) (by kernel_rfl)) ?_
  intro W base args ds gs before hval0 hW hcnd _
  have hval : ∀ (j : Nat) t v, Try.f3.params[j]? = some t → args[j]? = some v → Value.okWide Try.prog W .any base t v := hval0
  have hW' := hW
  obtain ⟨p, q, hA0, hV, rfl, hfz, hnd⟩ := hW
  have hA : DataW.TrodAll enc Try.prog W 0 (fun _ => true) true Try.f3.params.toList args.toList ds p := hA0
  rw [Try.params3] at hA hval
  obtain ⟨rfl, rfl, rfl⟩ := trodAll_none hA
  obtain ⟨rfl, rfl⟩ := trodVars_none hV
  clear hA0 hval0
  simp only [List.append_nil] at hW'
  refine (walk W).mono fun e W' ⟨he, ho, hu, hk⟩ => ?_
  subst he
  exact ⟨_, rfl, Ev.post_of_left (pa := []) (pv := []) hW' (fun _ _ _ => (trodAll_cons_mk (shut_bool Try.underlying4 _) trodAll_mk0)) (fun sp _ => rfl) (fun _ _ => rfl) rfl
    ho hu hk (ok_one (by kernel_rfl) rfl (okWide_bool_mk Try.underlying4 _))⟩

theorem over : Rows.libraryNamesRow.holds Try.pinned (OpenSpec.ofChange Rows.libraryNamesSpec) :=
  OpenClaim.holds_of_wide 3 Try.f3 rfl rfl rfl rfl rfl rfl rfl ⟨rfl, rfl, rfl, rfl, rfl⟩ rfl rfl rfl rfl rfl (by kernel_rfl) Try.func3 (by kernel_rfl)
    (of_decide_eq_true (by kernel_rfl)) (by unfold Func.isWrapper; first | (rw [if_pos (by decide +kernel)]; kernel_rfl) | (rw [if_neg (by decide +kernel)]; exact ⟨rfl, rfl⟩))
    (fun os started H enc _ => lifted os started H enc)

/-- ████ THE STATEMENT ████ -/
theorem proved : Rows.LibraryNamesSaid :=
  over
#print axioms proved
end Go.Proofs.Ytfnhfdimidddaaa.libraryNames
