/-
  The statement 'TokenSpells' where what it reads is of bulk at most 1048576: the law returns true whenever it is called, and its arguments read as they did. What the program computes is told by a proved reader (texts ..Ev..); that this is true is proved in plain Lean (PlSpell).
-/
import Derived.Test.YtedbcbncdfjocaaDoorEvFit2
import Derived.Test.YtedbcbncdfjocaaDoorPlArg
import Derived.Test.YtedbcbncdfjocaaDoorPlSpell
import Derived.ChangeMaps5
set_option linter.unusedVariables false
set_option linter.unusedSimpArgs false
set_option maxRecDepth 100000
namespace Go.Proofs.YtedbcbncdfjocaaDoor.tokenSpells
open Go.ChangeShapes Go.WideShapes Go.ChangeAt Go.RowKit
open Go.ChangeMaps (open_string shut_string)

theorem contract (H : Type) (enc : TypeId × Value → H) (W : World) (base : Nat) (args : Array Value) (ds gs : List (DataW H)) (before : List MemPlace)
    (hval : ∀ (j : Nat) t v, Tryd.f4.params[j]? = some t → args[j]? = some v → Value.okWide Tryd.prog W .any base t v)
    (hW : DataW.Whole enc Tryd.prog Tryd.f4.params.toList Rows.tokenSpellsSpec.vars false W args.toList ds gs before) (hsm : Rows.uptoSmall H (ds ++ gs) = true) (hv : fit2.Vars W) :
    Calls Tryd.prog 4 args W fun e W' => ∃ v, e = .returned v ∧ Rows.tokenSpellsSpec.post enc Tryd.prog Tryd.f4 false true false false W args v W' := by
  have hW' := hW
  have hlt := hW.lt
  obtain ⟨p, q, hA0, hV, rfl, hfz, hnd⟩ := hW
  have hA : DataW.TrodAll enc Tryd.prog W 0 (fun _ => true) true Tryd.f4.params.toList args.toList ds p := hA0
  rw [Tryd.params4] at hA hval
  obtain ⟨v0, vs0, d0, ds0, p0, q0, hargs, rfl, rfl, t0, r0⟩ := trodAll_cons hA
  obtain ⟨v1, vs1, d1, ds1, p1, q1, rfl, rfl, rfl, t1, r1⟩ := trodAll_cons r0
  obtain ⟨rfl, rfl, rfl⟩ := trodAll_nil r1
  obtain rfl : args = #[v0, v1] := by cases args; simp_all
  obtain ⟨rfl, rfl⟩ := trodVars_none hV
  obtain ⟨glob, ro, hl, hro, hg⟩ := fit2.fits hv
  have hb := of_decide_eq_true hsm
  simp only [List.append_nil, Rows.uptoBulkAll] at hb
  obtain ⟨us0, hv0, hL0, hD0, hB0⟩ := Ev.open_flat (m := 4) (ks := Ev.tokKs) Tryd.underlying35 (by kernel_rfl) (hval 0 35 v0 rfl rfl) t0 (Ev.allRO W ro.pin)
  obtain ⟨a0, rfl, i0⟩ := Ev.tok_of hL0
  have ok0 : Ev.okT a0 := ⟨by simp [Ev.strSum, Ev.strSz] at hB0; omega, i0⟩
  obtain ⟨rw1, hL1, hD1, hB1⟩ := Ev.open_flats (m := 4) (ks := Ev.tokKs) Tryd.underlying22 (by kernel_rfl) (by kernel_rfl) (by decide) (hval 1 22 v1 rfl rfl) t1 ro.pin
  obtain ⟨a1, e1, i1, n1, s1⟩ := Ev.toks_of rw1 hL1
  rw [e1] at hD1
  obtain ⟨ok1, le1, wl1⟩ := Ev.toks_small (b := 1048576) i1 (by omega) (Nat.le_refl _)
  have hn : Ev.n4 ((a0.1, a0.2.1.1, a0.2.1.2.1, a0.2.1.2.2, a0.2.2.1, a0.2.2.2, a1.map Ev.encK)) = some true := Ev.plain4 a0 a1 ok0 ok1 le1 wl1
  have hs := (Ev.ok4 (gl := glob) hl).spec (4, Ev.e4) List.mem_cons_self
  have h := (hs [.agg [.val (.int .i64 a0.1), .val (.int .i64 a0.2.1.1), .val (.int .i64 a0.2.1.2.1), .val (.int .i64 a0.2.1.2.2), .val (.string a0.2.2.1), .val (.int .i64 a0.2.2.2)], .slice (a1.map Ev.encK)] (.one (.val (.bool true))) (by simp only [Ev.e4, Ev.mkE, Ev.d4, Option.bind_some, hn])).2 (Ev.allRO W ro.pin) W [_, v1] (Ev.allRO_holds hro) (hg.mono (Ev.allRO_le hro)) ⟨_, _, rfl, hD0, ⟨_, _, rfl, hD1, rfl⟩⟩
  subst hv0
  refine Calls.mono h ?_
  rintro e W' ⟨u, ro', rfl, hu, hL⟩
  simp only [Ev.PRel, Ev.DRel] at hu
  obtain ⟨rfl, _⟩ := hu
  have hk : ∀ k, k < W.heap.size → W'.heap[k]? = W.heap[k]? := fun k hk => hL.keep k hk (fun q => q)
  exact ⟨_, rfl, Ev.post_of_left (pv := []) hW' (fun _ _ _ => (trodAll_cons_mk (shut_bool Tryd.underlying4 _) trodAll_mk0)) (fun sp hsp => Ev.args_stay (by kernel_rfl) hk (fun t ht => by
      rw [Tryd.params4] at ht
      simp only [List.mem_cons, List.not_mem_nil, or_false] at ht
      rcases ht with rfl | rfl <;> exact ⟨by kernel_rfl, of_decide_eq_true (by kernel_rfl)⟩) (fun x hx => hlt x (by simpa using hx)) (fun x hx => hsp x (by simpa using hx)) hA0) (fun _ _ => rfl) rfl
    hL.os hL.output hk (ok_one (by kernel_rfl) rfl (okWide_bool_mk Tryd.underlying4 _))⟩

theorem reads (os : Os) (H : Type) (enc : TypeId × Value → H) : ∃ places, DataW.whole enc Tryd.prog ((fit2.laidWorld os).forCall (fun _ _ => 0) ⟨#[], #[.agg #[.int .i64 0, .int .i64 0, .int .i64 0, .int .i64 0, .string ⟨#[]⟩, .int .i64 0], .slice none 0 0], []⟩).memory Tryd.f4.params.toList Rows.tokenSpellsSpec.vars false #[Value.agg #[.int .i64 0, .int .i64 0, .int .i64 0, .int .i64 0, .string ⟨#[]⟩, .int .i64 0], Value.slice none 0 0].toList 8 = some ([.agg [.lit (.int .i64 0), .agg [.lit (.int .i64 0), .lit (.int .i64 0), .lit (.int .i64 0)], .lit (.string []), .lit (.int .i64 0)], .nil], [], places) :=
  ⟨[], by kernel_rfl⟩

theorem lifted (os : Os) (started : os.Started) (H : Type) (enc : TypeId × Value → H) (F : Stop.Interp) :
    ReturnsInHanded {} Tryd.checked os 4 .any ((Rows.OpenSpec.upto Rows.tokenSpellsSpec).preRow enc Tryd.prog Tryd.f4 Rows.tokenSpellsUptoRow.domain false Rows.tokenSpellsUptoRow.laid) (((Rows.OpenSpec.upto Rows.tokenSpellsSpec).at F).post enc Tryd.prog Tryd.f4 false true false false) := by
  obtain ⟨places, hx⟩ := reads os H enc
  refine returnsInHanded_of_row (C := Tryd.checked) (s := Rows.OpenSpec.upto Rows.tokenSpellsSpec) fit.own started (by kernel_rfl) Tryd.func4
    (witness_row_atRef (enc := enc) (C := Tryd.checked) false (fit2.laidWorld os) #[.agg #[.int .i64 0, .int .i64 0, .int .i64 0, .int .i64 0, .string ⟨#[]⟩, .int .i64 0], .slice none 0 0] rfl (by kernel_rfl) (by kernel_rfl) (by kernel_rfl)
      (OpenSpec.preRow_of_cond 8 hx (by kernel_rfl) (fun k hk => by cases hk; kernel_rfl) (by kernel_rfl) (fit2.laid_met os _))) ?_
  intro W base args ds gs before hval hW _ hcond _ hL hS _
  have hL' : laidMet Tryd.prog fit2.laid9 W := hL
  exact contract H enc W base args ds gs before hval hW (hcond _ rfl) (fit2.vars hS hL' (by simp [fit2.laid9]) (by simp [fit2.laid9]) (by simp [fit2.laid9]) (by simp [fit2.laid9]) ⟨_, hL'.tail.tail.tail.tail⟩ ⟨_, hL'.tail.tail.tail.tail.tail⟩)

theorem saidUpto : Rows.TokenSpellsUptoSaid :=
  OpenClaim.holds_of_cond 4 Tryd.f4 rfl rfl rfl rfl rfl rfl rfl ⟨rfl, rfl, rfl, rfl, rfl⟩ rfl rfl rfl rfl rfl (by kernel_rfl) Tryd.func4 (by kernel_rfl)
    (of_decide_eq_true (by kernel_rfl)) (by unfold Func.isWrapper; first | (rw [if_pos (by decide +kernel)]; kernel_rfl) | (rw [if_neg (by decide +kernel)]; exact ⟨rfl, rfl⟩))
    (fun os started H enc _ F => by rw [OpenClaim.pre_eq_preRow]; exact lifted os started H enc F)

theorem plain (f : FuncId) (fn : Func) (hf : Tryd.pinned.checked.prog.funcNamed "sextant/sextantlaw09.TokenSpells" = some f) (hfn : Tryd.pinned.checked.prog.funcs[f]? = some fn) :
    true = Tryd.pinned.checked.prog.looks [] ∧ ∀ (j : Nat) t, fn.params[j]? = some t → Tryd.pinned.checked.prog.wantsStandIn t = false := by
  obtain rfl : f = 4 := Option.some.inj ((show Tryd.prog.funcNamed "sextant/sextantlaw09.TokenSpells" = some 4 by kernel_rfl).symm.trans hf) |>.symm
  obtain rfl : fn = Tryd.f4 := (Option.some.inj (Tryd.func4.symm.trans hfn)).symm
  refine ⟨by kernel_rfl, fun j t ht => ?_⟩
  rw [Tryd.params4] at ht
  have hm : t ∈ #[35, 22] := Array.mem_of_getElem? ht
  simp at hm
  have hn : ∀ u, u = 35 ∨ u = 22 → Tryd.prog.wantsStandIn u = false := by
    intro u hu
    rcases hu with rfl | rfl <;> kernel_rfl
  exact hn t hm

/-- ████ THE STATEMENT ████ -/
theorem proved : Rows.TokenSpellsUptoCardSaid :=
  Claim7.holds_tied_plain_at .later [] _ _ _ _ saidUpto (fun _ h => by cases h) (by kernel_rfl) (fun _ h => by cases h) tokenSpellsUpto_row_tie rfl ⟨rfl, rfl⟩ (by kernel_rfl) rfl plain (by kernel_rfl)
#print axioms proved
end Go.Proofs.YtedbcbncdfjocaaDoor.tokenSpells
