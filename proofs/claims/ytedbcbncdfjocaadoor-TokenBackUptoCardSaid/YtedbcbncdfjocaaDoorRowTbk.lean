/-
  The statement 'TokenBack' where what it reads is of bulk at most 1048576: the law returns true whenever it is called, and its arguments read as they did. What the program computes is told by a proved reader (texts ..Ev..); that this is true is proved in plain Lean (PlBackB).
-/
import Derived.Test.YtedbcbncdfjocaaDoorEvFit2
import Derived.Test.YtedbcbncdfjocaaDoorPlArg
import Derived.Test.YtedbcbncdfjocaaDoorPlBackB
import Derived.ChangeMaps5
set_option linter.unusedVariables false
set_option linter.unusedSimpArgs false
set_option maxRecDepth 100000
namespace Go.Proofs.YtedbcbncdfjocaaDoor.tokenBack
open Go.ChangeShapes Go.WideShapes Go.ChangeAt Go.RowKit
open Go.ChangeMaps (open_string shut_string)

theorem contract (H : Type) (enc : TypeId × Value → H) (W : World) (base : Nat) (args : Array Value) (ds gs : List (DataW H)) (before : List MemPlace)
    (hval : ∀ (j : Nat) t v, Tryd.f5.params[j]? = some t → args[j]? = some v → Value.okWide Tryd.prog W .any base t v)
    (hW : DataW.Whole enc Tryd.prog Tryd.f5.params.toList Rows.tokenBackSpec.vars false W args.toList ds gs before) (hsm : Rows.uptoSmall H (ds ++ gs) = true) (hv : fit2.Vars W) :
    Calls Tryd.prog 5 args W fun e W' => ∃ v, e = .returned v ∧ Rows.tokenBackSpec.post enc Tryd.prog Tryd.f5 false true false false W args v W' := by
  have hW' := hW
  have hlt := hW.lt
  obtain ⟨p, q, hA0, hV, rfl, hfz, hnd⟩ := hW
  have hA : DataW.TrodAll enc Tryd.prog W 0 (fun _ => true) true Tryd.f5.params.toList args.toList ds p := hA0
  rw [Tryd.params5] at hA hval
  obtain ⟨v0, vs0, d0, ds0, p0, q0, hargs, rfl, rfl, t0, r0⟩ := trodAll_cons hA
  obtain ⟨rfl, rfl, rfl⟩ := trodAll_nil r0
  obtain rfl : args = #[v0] := by cases args; simp_all
  obtain ⟨rfl, rfl⟩ := trodVars_none hV
  obtain ⟨glob, ro, hl, hro, hg⟩ := fit2.fits hv
  have hb := of_decide_eq_true hsm
  simp only [List.append_nil, Rows.uptoBulkAll] at hb
  obtain ⟨rw0, hL0, hD0, hB0⟩ := Ev.open_flats (m := 4) (ks := Ev.tokKs) Tryd.underlying22 (by kernel_rfl) (by kernel_rfl) (by decide) (hval 0 22 v0 rfl rfl) t0 ro.pin
  obtain ⟨a0, e0, i0, n0, s0⟩ := Ev.toks_of rw0 hL0
  rw [e0] at hD0
  obtain ⟨ok0, le0, wl0⟩ := Ev.toks_small (b := 1048576) i0 (by omega) (Nat.le_refl _)
  have hn : Ev.n5 (a0.map Ev.encK) = some true := Ev.plain5 a0 ok0 le0 wl0
  have hs := (Ev.ok5 (gl := glob) hl).spec (5, Ev.e5) List.mem_cons_self
  have h := (hs [.slice (a0.map Ev.encK)] (.one (.val (.bool true))) (by simp only [Ev.e5, Ev.mkE, Ev.d5, Option.bind_some, hn])).2 (Ev.allRO W ro.pin) W [v0] (Ev.allRO_holds hro) (hg.mono (Ev.allRO_le hro)) ⟨_, _, rfl, hD0, rfl⟩
  refine Calls.mono h ?_
  rintro e W' ⟨u, ro', rfl, hu, hL⟩
  simp only [Ev.PRel, Ev.DRel] at hu
  obtain ⟨rfl, _⟩ := hu
  have hk : ∀ k, k < W.heap.size → W'.heap[k]? = W.heap[k]? := fun k hk => hL.keep k hk (fun q => q)
  exact ⟨_, rfl, Ev.post_of_left (pv := []) hW' (fun _ _ _ => (trodAll_cons_mk (shut_bool Tryd.underlying4 _) trodAll_mk0)) (fun sp hsp => Ev.args_stay (by kernel_rfl) hk (fun t ht => by
      rw [Tryd.params5] at ht
      simp only [List.mem_cons, List.not_mem_nil, or_false] at ht
      subst ht <;> exact ⟨by kernel_rfl, of_decide_eq_true (by kernel_rfl)⟩) (fun x hx => hlt x (by simpa using hx)) (fun x hx => hsp x (by simpa using hx)) hA0) (fun _ _ => rfl) rfl
    hL.os hL.output hk (ok_one (by kernel_rfl) rfl (okWide_bool_mk Tryd.underlying4 _))⟩

theorem reads (os : Os) (H : Type) (enc : TypeId × Value → H) : ∃ places, DataW.whole enc Tryd.prog ((fit2.laidWorld os).forCall (fun _ _ => 0) ⟨#[], #[.slice none 0 0], []⟩).memory Tryd.f5.params.toList Rows.tokenBackSpec.vars false #[Value.slice none 0 0].toList 8 = some ([.nil], [], places) :=
  ⟨[], by kernel_rfl⟩

theorem lifted (os : Os) (started : os.Started) (H : Type) (enc : TypeId × Value → H) (F : Stop.Interp) :
    ReturnsInHanded {} Tryd.checked os 5 .any ((Rows.OpenSpec.upto Rows.tokenBackSpec).preRow enc Tryd.prog Tryd.f5 Rows.tokenBackUptoRow.domain false Rows.tokenBackUptoRow.laid) (((Rows.OpenSpec.upto Rows.tokenBackSpec).at F).post enc Tryd.prog Tryd.f5 false true false false) := by
  obtain ⟨places, hx⟩ := reads os H enc
  refine returnsInHanded_of_row (C := Tryd.checked) (s := Rows.OpenSpec.upto Rows.tokenBackSpec) fit.own started (by kernel_rfl) Tryd.func5
    (witness_row_atRef (enc := enc) (C := Tryd.checked) false (fit2.laidWorld os) #[.slice none 0 0] rfl (by kernel_rfl) (by kernel_rfl) (by kernel_rfl)
      (OpenSpec.preRow_of_cond 8 hx (by kernel_rfl) (fun k hk => by cases hk; kernel_rfl) (by kernel_rfl) (fit2.laid_met os _))) ?_
  intro W base args ds gs before hval hW _ hcond _ hL hS _
  have hL' : laidMet Tryd.prog fit2.laid9 W := hL
  exact contract H enc W base args ds gs before hval hW (hcond _ rfl) (fit2.vars hS hL' (by simp [fit2.laid9]) (by simp [fit2.laid9]) (by simp [fit2.laid9]) (by simp [fit2.laid9]) ⟨_, hL'.tail.tail.tail.tail⟩ ⟨_, hL'.tail.tail.tail.tail.tail⟩)

theorem saidUpto : Rows.TokenBackUptoSaid :=
  OpenClaim.holds_of_cond 5 Tryd.f5 rfl rfl rfl rfl rfl rfl rfl ⟨rfl, rfl, rfl, rfl, rfl⟩ rfl rfl rfl rfl rfl (by kernel_rfl) Tryd.func5 (by kernel_rfl)
    (of_decide_eq_true (by kernel_rfl)) (by unfold Func.isWrapper; first | (rw [if_pos (by decide +kernel)]; kernel_rfl) | (rw [if_neg (by decide +kernel)]; exact ⟨rfl, rfl⟩))
    (fun os started H enc _ F => by rw [OpenClaim.pre_eq_preRow]; exact lifted os started H enc F)

theorem plain (f : FuncId) (fn : Func) (hf : Tryd.pinned.checked.prog.funcNamed "sextant/sextantlaw09.TokenBack" = some f) (hfn : Tryd.pinned.checked.prog.funcs[f]? = some fn) :
    true = Tryd.pinned.checked.prog.looks [] ∧ ∀ (j : Nat) t, fn.params[j]? = some t → Tryd.pinned.checked.prog.wantsStandIn t = false := by
  obtain rfl : f = 5 := Option.some.inj ((show Tryd.prog.funcNamed "sextant/sextantlaw09.TokenBack" = some 5 by kernel_rfl).symm.trans hf) |>.symm
  obtain rfl : fn = Tryd.f5 := (Option.some.inj (Tryd.func5.symm.trans hfn)).symm
  refine ⟨by kernel_rfl, fun j t ht => ?_⟩
  rw [Tryd.params5] at ht
  have hm : t ∈ #[22] := Array.mem_of_getElem? ht
  simp at hm
  have hn : ∀ u, u = 22 → Tryd.prog.wantsStandIn u = false := by
    intro u hu
    rcases hu with rfl <;> kernel_rfl
  exact hn t hm

/-- ████ THE STATEMENT ████ -/
theorem proved : Rows.TokenBackUptoCardSaid :=
  Claim7.holds_tied_plain_at .later [] _ _ _ _ saidUpto (fun _ h => by cases h) (by kernel_rfl) (fun _ h => by cases h) tokenBackUpto_row_tie rfl ⟨rfl, rfl⟩ (by kernel_rfl) rfl plain (by kernel_rfl)
#print axioms proved
end Go.Proofs.YtedbcbncdfjocaaDoor.tokenBack
