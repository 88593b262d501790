/-
  The statement 'ValueDecodes' where what it reads is of bulk at most 1048576: the law returns true whenever it is called, and its arguments read as they did. What the program computes is told by a proved reader (texts ..Ev..); that this is true is proved in plain Lean (Pl8De).
-/
import Derived.Test.YtohmflkolmobmaaGreatDoorEvFite
import Derived.Test.YtohmflkolmobmaaGreatDoorEvArgB8
import Derived.Test.YtohmflkolmobmaaGreatDoorPl8De
import Derived.ChangeMaps5
set_option linter.unusedVariables false
set_option linter.unusedSimpArgs false
set_option maxRecDepth 100000
namespace Go.Proofs.YtohmflkolmobmaaGreatDoor.valueDecodes
open Go.ChangeShapes Go.WideShapes Go.ChangeAt Go.RowKit
open Go.ChangeMaps (open_string shut_string)

theorem contract (H : Type) (enc : TypeId × Value → H) (W : World) (base : Nat) (args : Array Value) (ds gs : List (DataW H)) (before : List MemPlace)
    (hval : ∀ (j : Nat) t v, Tryz.f3.params[j]? = some t → args[j]? = some v → Value.okWide Tryz.prog W .any base t v)
    (hW : DataW.Whole enc Tryz.prog Tryz.f3.params.toList Rows.valueDecodesSpec.vars false W args.toList ds gs before) (hsm : Rows.uptoSmall H (ds ++ gs) = true) (hv : fit.Vars W) :
    Calls Tryz.prog 3 args W fun e W' => ∃ v, e = .returned v ∧ Rows.valueDecodesSpec.post enc Tryz.prog Tryz.f3 false true false false W args v W' := by
  have hW' := hW
  have hlt := hW.lt
  obtain ⟨p, q, hA0, hV, rfl, hfz, hnd⟩ := hW
  have hA : DataW.TrodAll enc Tryz.prog W 0 (fun _ => true) true Tryz.f3.params.toList args.toList ds p := hA0
  rw [Tryz.params3] at hA hval
  obtain ⟨v0, vs0, d0, ds0, p0, q0, hargs, rfl, rfl, t0, r0⟩ := trodAll_cons hA
  obtain ⟨rfl, rfl, rfl⟩ := trodAll_nil r0
  obtain rfl : args = #[v0] := by cases args; simp_all
  obtain ⟨rfl, rfl⟩ := trodVars_none hV
  obtain ⟨glob, ro, hl, hro, hg⟩ := fit.fits hv
  have hb := of_decide_eq_true hsm
  simp only [List.append_nil, Rows.uptoBulkAll] at hb
  have hc0 : v0.cells.toList = [v0] := by
    obtain ⟨A, len, cap, rfl⟩ := okWide_slice Tryz.underlying22 (hval 0 22 v0 rfl rfl)
    rfl
  obtain ⟨a0, hD0, _, hB0⟩ := Ev.open_bytes Tryz.underlying22 Tryz.underlying5 (by kernel_rfl) ro.pin hc0 t0
  have hb0 : a0.size ≤ 1048576 := by omega
  have hn : Ev.n3 (a0) = some true := Ev.plain3 hb0
  have hs := (Ev.ok3 (gl := glob) hl).spec (3, Ev.e3) List.mem_cons_self
  have hd : Ev.d3 [(.bytes a0 : Ev.D)] = some (a0) := by
    rfl
  have h := (hs [(.bytes a0 : Ev.D)] (.one (.val (.bool true))) (by simp only [Ev.e3, Ev.mkE, hd, Option.bind_some, hn])).2 (Ev.allRO W ro.pin) W [v0] (Ev.allRO_holds hro) (hg.mono (Ev.allRO_le hro)) ⟨_, _, rfl, hD0, rfl⟩
  refine Calls.mono h ?_
  rintro e W' ⟨u, ro', rfl, hu, hL⟩
  simp only [Ev.PRel, Ev.DRel] at hu
  obtain ⟨rfl, _⟩ := hu
  have hk : ∀ k, k < W.heap.size → W'.heap[k]? = W.heap[k]? := fun k hk => hL.keep k hk (fun q => q)
  exact ⟨_, rfl, Ev.post_of_left (pv := []) hW' (fun _ _ _ => (trodAll_cons_mk (shut_bool Tryz.underlying4 _) trodAll_mk0)) (fun sp hsp => Ev.args_stay (by kernel_rfl) hk (fun t ht => by
      rw [Tryz.params3] at ht
      obtain rfl : t = 22 := by simpa using ht
      exact ⟨by kernel_rfl, of_decide_eq_true (by kernel_rfl)⟩) (fun x hx => hlt x (by simpa using hx)) (fun x hx => hsp x (by simpa using hx)) hA0) (fun _ _ => rfl) rfl
    hL.os hL.output hk (ok_one (by kernel_rfl) rfl (okWide_bool_mk Tryz.underlying4 _))⟩

theorem reads (os : Os) (H : Type) (enc : TypeId × Value → H) : ∃ places, DataW.whole enc Tryz.prog ((fit.laidWorld os).forCall (fun _ _ => 0) ⟨#[], #[.slice none 0 0], []⟩).memory Tryz.f3.params.toList Rows.valueDecodesSpec.vars false #[Value.slice none 0 0].toList 8 = some ([.nil], [], places) :=
  ⟨[], by kernel_rfl⟩

theorem lifted (os : Os) (started : os.Started) (H : Type) (enc : TypeId × Value → H) (F : Stop.Interp) :
    ReturnsInHanded {} Tryz.checked os 3 .any ((Rows.OpenSpec.upto Rows.valueDecodesSpec).preRow enc Tryz.prog Tryz.f3 Rows.valueDecodesUptoRow.domain false Rows.valueDecodesUptoRow.laid) (((Rows.OpenSpec.upto Rows.valueDecodesSpec).at F).post enc Tryz.prog Tryz.f3 false true false false) := by
  obtain ⟨places, hx⟩ := reads os H enc
  refine returnsInHanded_of_row (C := Tryz.checked) (s := Rows.OpenSpec.upto Rows.valueDecodesSpec) fit.own started (by kernel_rfl) Tryz.func3
    (witness_row_atRef (enc := enc) (C := Tryz.checked) false (fit.laidWorld os) #[.slice none 0 0] rfl (by kernel_rfl) (by kernel_rfl) (by kernel_rfl)
      (OpenSpec.preRow_of_cond 8 hx (by kernel_rfl) (fun k hk => by cases hk; kernel_rfl) (by kernel_rfl) (fit.laid_met os _))) ?_
  intro W base args ds gs before hval hW _ hcond _ hL hS _
  have hL' : laidMet Tryz.prog fit.laid7 W := hL
  exact contract H enc W base args ds gs before hval hW (hcond _ rfl) (fit.vars hS hL' (by simp [fit.laid7]) (by simp [fit.laid7]) (by simp [fit.laid7]) ⟨_, hL'.tail.tail.tail.tail⟩ ⟨_, hL'.tail.tail.tail.tail.tail⟩)

theorem saidUpto : Rows.ValueDecodesUptoSaid :=
  OpenClaim.holds_of_cond 3 Tryz.f3 rfl rfl rfl rfl rfl rfl rfl ⟨rfl, rfl, rfl, rfl, rfl⟩ rfl rfl rfl rfl rfl (by kernel_rfl) Tryz.func3 (by kernel_rfl)
    (of_decide_eq_true (by kernel_rfl)) (by unfold Func.isWrapper; first | (rw [if_pos (by decide +kernel)]; kernel_rfl) | (rw [if_neg (by decide +kernel)]; exact ⟨rfl, rfl⟩))
    (fun os started H enc _ F => by rw [OpenClaim.pre_eq_preRow]; exact lifted os started H enc F)

theorem plain (f : FuncId) (fn : Func) (hf : Tryz.pinned.checked.prog.funcNamed "sextant/sextantlaw04.ValueDecodes" = some f) (hfn : Tryz.pinned.checked.prog.funcs[f]? = some fn) :
    true = Tryz.pinned.checked.prog.looks [] ∧ ∀ (j : Nat) t, fn.params[j]? = some t → Tryz.pinned.checked.prog.wantsStandIn t = false := by
  obtain rfl : f = 3 := Option.some.inj ((show Tryz.prog.funcNamed "sextant/sextantlaw04.ValueDecodes" = some 3 by kernel_rfl).symm.trans hf) |>.symm
  obtain rfl : fn = Tryz.f3 := (Option.some.inj (Tryz.func3.symm.trans hfn)).symm
  refine ⟨by kernel_rfl, fun j t ht => ?_⟩
  rw [Tryz.params3] at ht
  have hm : t ∈ #[22] := Array.mem_of_getElem? ht
  simp at hm
  have hn : ∀ u, u = 22 → Tryz.prog.wantsStandIn u = false := by
    intro u hu
    rcases hu with rfl
    kernel_rfl
  exact hn t hm

/-- ████ THE STATEMENT ████ -/
theorem proved : Rows.ValueDecodesUptoCardSaid :=
  Claim7.holds_tied_plain_at .later [] _ _ _ _ saidUpto (fun _ h => by cases h) (by kernel_rfl) (fun _ h => by cases h) valueDecodesUpto_row_tie rfl ⟨rfl, rfl⟩ (by kernel_rfl) rfl plain (by kernel_rfl)
#print axioms proved
end Go.Proofs.YtohmflkolmobmaaGreatDoor.valueDecodes
