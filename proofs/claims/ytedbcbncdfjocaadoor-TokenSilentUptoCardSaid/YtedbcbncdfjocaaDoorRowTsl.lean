/-
  The statement 'TokenSilent' where what it reads is of bulk at most 1048576: the law returns true whenever it is called, and its arguments read as they did. What the program computes is told by a proved reader (texts ..Ev..); that this is true is proved in plain Lean (PlBack).
-/
import Derived.Test.YtedbcbncdfjocaaDoorEvFit2
import Derived.Test.YtedbcbncdfjocaaDoorPlArg
import Derived.Test.YtedbcbncdfjocaaDoorPlBack
import Derived.ChangeMaps5
set_option linter.unusedVariables false
set_option linter.unusedSimpArgs false
set_option maxRecDepth 100000
namespace Go.Proofs.YtedbcbncdfjocaaDoor.tokenSilent
open Go.ChangeShapes Go.WideShapes Go.ChangeAt Go.RowKit
open Go.ChangeMaps (open_string shut_string)

theorem contract (H : Type) (enc : TypeId × Value → H) (W : World) (base : Nat) (args : Array Value) (ds gs : List (DataW H)) (before : List MemPlace)
    (hval : ∀ (j : Nat) t v, Tryd.f6.params[j]? = some t → args[j]? = some v → Value.okWide Tryd.prog W .any base t v)
    (hW : DataW.Whole enc Tryd.prog Tryd.f6.params.toList Rows.tokenSilentSpec.vars false W args.toList ds gs before) (hsm : Rows.uptoSmall H (ds ++ gs) = true) (hv : fit2.Vars W) :
    Calls Tryd.prog 6 args W fun e W' => ∃ v, e = .returned v ∧ Rows.tokenSilentSpec.post enc Tryd.prog Tryd.f6 false true false false W args v W' := by
  have hW' := hW
  have hlt := hW.lt
  obtain ⟨p, q, hA0, hV, rfl, hfz, hnd⟩ := hW
  have hA : DataW.TrodAll enc Tryd.prog W 0 (fun _ => true) true Tryd.f6.params.toList args.toList ds p := hA0
  rw [Tryd.params6] at hA hval
  obtain ⟨v0, vs0, d0, ds0, p0, q0, hargs, rfl, rfl, t0, r0⟩ := trodAll_cons hA
  obtain ⟨v1, vs1, d1, ds1, p1, q1, rfl, rfl, rfl, t1, r1⟩ := trodAll_cons r0
  obtain ⟨rfl, rfl, rfl⟩ := trodAll_nil r1
  obtain rfl : args = #[v0, v1] := by cases args; simp_all
  obtain ⟨rfl, rfl⟩ := trodVars_none hV
  obtain ⟨glob, ro, hl, hro, hg⟩ := fit2.fits hv
  have hb := of_decide_eq_true hsm
  simp only [List.append_nil, Rows.uptoBulkAll] at hb
  obtain ⟨rw0, hL0, hD0, hB0⟩ := Ev.open_flats (m := 4) (ks := Ev.tokKs) Tryd.underlying22 (by kernel_rfl) (by kernel_rfl) (by decide) (hval 0 22 v0 rfl rfl) t0 ro.pin
  obtain ⟨a0, e0, i0, n0, s0⟩ := Ev.toks_of rw0 hL0
  rw [e0] at hD0
  obtain ⟨ok0, le0, wl0⟩ := Ev.toks_small6 (b := 1048576) i0 (by omega) (Nat.le_refl _)
  obtain ⟨rw1, hL1, hD1, hB1⟩ := Ev.open_flats (m := 4) (ks := [.int .i64]) Tryd.underlying45 (by kernel_rfl) (by kernel_rfl) (by decide) (hval 1 45 v1 rfl rfl) t1 ro.pin
  obtain ⟨a1, e1, n1⟩ := Ev.ints_of rw1 hL1
  rw [e1] at hD1
  have hn : Ev.n6 ((a0.map Ev.encK, a1.map fun n => Ev.D.val (.int .i64 n))) = some true := Ev.plain6 a0 a1 ok0 le0 wl0
  have hs := (Ev.ok6 (gl := glob) hl).spec (6, Ev.e6) List.mem_cons_self
  have h := (hs [.slice (a0.map Ev.encK), .slice (a1.map fun n => Ev.D.val (.int .i64 n))] (.one (.val (.bool true))) (by simp only [Ev.e6, Ev.mkE, Ev.d6, Option.bind_some, hn])).2 (Ev.allRO W ro.pin) W [v0, v1] (Ev.allRO_holds hro) (hg.mono (Ev.allRO_le hro)) ⟨_, _, rfl, hD0, ⟨_, _, rfl, hD1, rfl⟩⟩
  refine Calls.mono h ?_
  rintro e W' ⟨u, ro', rfl, hu, hL⟩
  simp only [Ev.PRel, Ev.DRel] at hu
  obtain ⟨rfl, _⟩ := hu
  have hk : ∀ k, k < W.heap.size → W'.heap[k]? = W.heap[k]? := fun k hk => hL.keep k hk (fun q => q)
  exact ⟨_, rfl, Ev.post_of_left (pv := []) hW' (fun _ _ _ => (trodAll_cons_mk (shut_bool Tryd.underlying4 _) trodAll_mk0)) (fun sp hsp => Ev.args_stay (by kernel_rfl) hk (fun t ht => by
      rw [Tryd.params6] at ht
      simp only [List.mem_cons, List.not_mem_nil, or_false] at ht
      rcases ht with rfl | rfl <;> exact ⟨by kernel_rfl, of_decide_eq_true (by kernel_rfl)⟩) (fun x hx => hlt x (by simpa using hx)) (fun x hx => hsp x (by simpa using hx)) hA0) (fun _ _ => rfl) rfl
    hL.os hL.output hk (ok_one (by kernel_rfl) rfl (okWide_bool_mk Tryd.underlying4 _))⟩

theorem reads (os : Os) (H : Type) (enc : TypeId × Value → H) : ∃ places, DataW.whole enc Tryd.prog ((fit2.laidWorld os).forCall (fun _ _ => 0) ⟨#[], #[.slice none 0 0, .slice none 0 0], []⟩).memory Tryd.f6.params.toList Rows.tokenSilentSpec.vars false #[Value.slice none 0 0, Value.slice none 0 0].toList 8 = some ([.nil, .nil], [], places) :=
  ⟨[], by kernel_rfl⟩

theorem lifted (os : Os) (started : os.Started) (H : Type) (enc : TypeId × Value → H) (F : Stop.Interp) :
    ReturnsInHanded {} Tryd.checked os 6 .any ((Rows.OpenSpec.upto Rows.tokenSilentSpec).preRow enc Tryd.prog Tryd.f6 Rows.tokenSilentUptoRow.domain false Rows.tokenSilentUptoRow.laid) (((Rows.OpenSpec.upto Rows.tokenSilentSpec).at F).post enc Tryd.prog Tryd.f6 false true false false) := by
  obtain ⟨places, hx⟩ := reads os H enc
  refine returnsInHanded_of_row (C := Tryd.checked) (s := Rows.OpenSpec.upto Rows.tokenSilentSpec) fit.own started (by kernel_rfl) Tryd.func6
    (witness_row_atRef (enc := enc) (C := Tryd.checked) false (fit2.laidWorld os) #[.slice none 0 0, .slice none 0 0] rfl (by kernel_rfl) (by kernel_rfl) (by kernel_rfl)
      (OpenSpec.preRow_of_cond 8 hx (by kernel_rfl) (fun k hk => by cases hk; kernel_rfl) (by kernel_rfl) (fit2.laid_met os _))) ?_
  intro W base args ds gs before hval hW _ hcond _ hL hS _
  have hL' : laidMet Tryd.prog fit2.laid9 W := hL
  exact contract H enc W base args ds gs before hval hW (hcond _ rfl) (fit2.vars hS hL' (by simp [fit2.laid9]) (by simp [fit2.laid9]) (by simp [fit2.laid9]) (by simp [fit2.laid9]) ⟨_, hL'.tail.tail.tail.tail⟩ ⟨_, hL'.tail.tail.tail.tail.tail⟩)

theorem saidUpto : Rows.TokenSilentUptoSaid :=
  OpenClaim.holds_of_cond 6 Tryd.f6 rfl rfl rfl rfl rfl rfl rfl ⟨rfl, rfl, rfl, rfl, rfl⟩ rfl rfl rfl rfl rfl (by kernel_rfl) Tryd.func6 (by kernel_rfl)
    (of_decide_eq_true (by kernel_rfl)) (by unfold Func.isWrapper; first | (rw [if_pos (by decide +kernel)]; kernel_rfl) | (rw [if_neg (by decide +kernel)]; exact ⟨rfl, rfl⟩))
    (fun os started H enc _ F => by rw [OpenClaim.pre_eq_preRow]; exact lifted os started H enc F)

theorem plain (f : FuncId) (fn : Func) (hf : Tryd.pinned.checked.prog.funcNamed "sextant/sextantlaw09.TokenSilent" = some f) (hfn : Tryd.pinned.checked.prog.funcs[f]? = some fn) :
    true = Tryd.pinned.checked.prog.looks [] ∧ ∀ (j : Nat) t, fn.params[j]? = some t → Tryd.pinned.checked.prog.wantsStandIn t = false := by
  obtain rfl : f = 6 := Option.some.inj ((show Tryd.prog.funcNamed "sextant/sextantlaw09.TokenSilent" = some 6 by kernel_rfl).symm.trans hf) |>.symm
  obtain rfl : fn = Tryd.f6 := (Option.some.inj (Tryd.func6.symm.trans hfn)).symm
  refine ⟨by kernel_rfl, fun j t ht => ?_⟩
  rw [Tryd.params6] at ht
  have hm : t ∈ #[22, 45] := Array.mem_of_getElem? ht
  simp at hm
  have hn : ∀ u, u = 22 ∨ u = 45 → Tryd.prog.wantsStandIn u = false := by
    intro u hu
    rcases hu with rfl | rfl <;> kernel_rfl
  exact hn t hm

/-- ████ THE STATEMENT ████ -/
theorem proved : Rows.TokenSilentUptoCardSaid :=
  Claim7.holds_tied_plain_at .later [] _ _ _ _ saidUpto (fun _ h => by cases h) (by kernel_rfl) (fun _ h => by cases h) tokenSilentUpto_row_tie rfl ⟨rfl, rfl⟩ (by kernel_rfl) rfl plain (by kernel_rfl)
#print axioms proved
end Go.Proofs.YtedbcbncdfjocaaDoor.tokenSilent
