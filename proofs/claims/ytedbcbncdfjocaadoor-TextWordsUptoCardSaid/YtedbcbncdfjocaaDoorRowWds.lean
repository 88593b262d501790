/-
  The statement 'TextWords' where what it reads is of bulk at most 1048576: the law returns true whenever it is called, and its arguments read as they did. What the program computes is told by a proved reader (texts ..Ev..); that this is true is proved in plain Lean (PlWords).
-/
import Derived.Test.YtedbcbncdfjocaaDoorEvFit
import Derived.Test.YtedbcbncdfjocaaDoorPlWords
import Derived.ChangeMaps5
set_option linter.unusedVariables false
set_option linter.unusedSimpArgs false
set_option maxRecDepth 100000
namespace Go.Proofs.YtedbcbncdfjocaaDoor.textWords
open Go.ChangeShapes Go.WideShapes Go.ChangeAt Go.RowKit
open Go.ChangeMaps (open_string shut_string)

theorem walk (W : World) (hv : fit.Vars W) (a0 : ByteArray) (a1 : Int) (hn : Ev.n9 (a0, a1) = some true) : Calls Tryd.prog 9 #[.string a0, .int .i64 a1] W fun e w' => e = .returned (.bool true) ∧ w'.os = W.os ∧ w'.output = W.output ∧ ∀ k, k < W.heap.size → w'.heap[k]? = W.heap[k]? := by
  obtain ⟨glob, ro, hl, hro, hg⟩ := fit.fits hv
  have hs := (Ev.ok9 (gl := glob) hl).spec (9, Ev.e9) List.mem_cons_self
  have h := (hs [.val (.string a0), .val (.int .i64 a1)] (.one (.val (.bool true))) (by simp only [Ev.e9, Ev.mkE, Ev.d9, Option.bind_some, hn])).2 ro W [.string a0, .int .i64 a1] hro hg (Ev.DArgs.ofVals (vs := [.string a0, .int .i64 a1]) (by simp [Value.oneCell']))
  refine Calls.mono h ?_
  rintro e w' ⟨u, ro', rfl, hu, hL⟩
  simp only [Ev.PRel, Ev.DRel] at hu
  obtain ⟨rfl, _⟩ := hu
  exact ⟨rfl, hL.os, hL.output, fun k hk => hL.keep k hk (fun q => q)⟩

theorem contract (H : Type) (enc : TypeId × Value → H) (W : World) (base : Nat) (args : Array Value) (ds gs : List (DataW H)) (before : List MemPlace)
    (hval : ∀ (j : Nat) t v, Tryd.f9.params[j]? = some t → args[j]? = some v → Value.okWide Tryd.prog W .any base t v)
    (hW : DataW.Whole enc Tryd.prog Tryd.f9.params.toList Rows.textWordsSpec.vars false W args.toList ds gs before) (hsm : Rows.uptoSmall H (ds ++ gs) = true) (hv : fit.Vars W) :
    Calls Tryd.prog 9 args W fun e W' => ∃ v, e = .returned v ∧ Rows.textWordsSpec.post enc Tryd.prog Tryd.f9 false true false false W args v W' := by
  have hW' := hW
  obtain ⟨p, q, hA0, hV, rfl, hfz, hnd⟩ := hW
  have hA : DataW.TrodAll enc Tryd.prog W 0 (fun _ => true) true Tryd.f9.params.toList args.toList ds p := hA0
  rw [Tryd.params9] at hA hval
  obtain ⟨v0, vs0, d0, ds0, p0, q0, hargs, rfl, rfl, t0, r0⟩ := trodAll_cons hA
  obtain ⟨v1, vs1, d1, ds1, p1, q1, rfl, rfl, rfl, t1, r1⟩ := trodAll_cons r0
  obtain ⟨rfl, rfl, rfl⟩ := trodAll_nil r1
  obtain rfl : args = #[v0, v1] := by cases args; simp_all
  obtain ⟨rfl, rfl⟩ := trodVars_none hV
  obtain ⟨a0, rfl, rfl, rfl, z0⟩ := open_string Tryd.underlying9 (hval 0 9 v0 rfl rfl) t0
  obtain ⟨a1, rfl, rfl, rfl, w1⟩ := open_int Tryd.underlying3 (hval 1 3 v1 rfl rfl) t1
  clear hA0
  simp only [List.append_nil] at hW'
  have hb := of_decide_eq_true hsm
  simp only [List.append_nil, Rows.uptoBulkAll, Rows.uptoBulk] at hb
  have h0 : a0.size ≤ 1048576 := by
    have e : a0.size = a0.data.toList.length := by simp
    omega
  refine (walk W hv a0 a1 (Ev.plain9 a0 a1 h0 w1)).mono fun e W' ⟨he, ho, hu, hk⟩ => ?_
  subst he
  exact ⟨_, rfl, Ev.post_of_left (pa := []) (pv := []) hW' (fun _ _ _ => (trodAll_cons_mk (shut_bool Tryd.underlying4 _) trodAll_mk0)) (fun sp _ => (trodAll_cons_mk (shut_string Tryd.underlying9 z0) (trodAll_cons_mk (shut_int Tryd.underlying3 w1) trodAll_mk0))) (fun _ _ => rfl) rfl
    ho hu hk (ok_one (by kernel_rfl) rfl (okWide_bool_mk Tryd.underlying4 _))⟩

theorem reads (os : Os) (H : Type) (enc : TypeId × Value → H) : ∃ places, DataW.whole enc Tryd.prog ((fit.laidWorld os).forCall (fun _ _ => 0) ⟨#[], #[.string ⟨#[]⟩, .int .i64 0], []⟩).memory Tryd.f9.params.toList Rows.textWordsSpec.vars false #[Value.string ⟨#[]⟩, Value.int .i64 0].toList 8 = some ([.lit (.string []), .lit (.int .i64 0)], [], places) :=
  ⟨[], by kernel_rfl⟩

theorem lifted (os : Os) (started : os.Started) (H : Type) (enc : TypeId × Value → H) (F : Stop.Interp) :
    ReturnsInHanded {} Tryd.checked os 9 .any ((Rows.OpenSpec.upto Rows.textWordsSpec).preRow enc Tryd.prog Tryd.f9 Rows.textWordsUptoRow.domain false Rows.textWordsUptoRow.laid) (((Rows.OpenSpec.upto Rows.textWordsSpec).at F).post enc Tryd.prog Tryd.f9 false true false false) := by
  obtain ⟨places, hx⟩ := reads os H enc
  refine returnsInHanded_of_row (C := Tryd.checked) (s := Rows.OpenSpec.upto Rows.textWordsSpec) fit.own started (by kernel_rfl) Tryd.func9
    (witness_row_atRef (enc := enc) (C := Tryd.checked) false (fit.laidWorld os) #[.string ⟨#[]⟩, .int .i64 0] rfl (by kernel_rfl) (by kernel_rfl) (by kernel_rfl)
      (OpenSpec.preRow_of_cond 8 hx (by kernel_rfl) (fun k hk => by cases hk; kernel_rfl) (by kernel_rfl) (fit.laid_met os _))) ?_
  intro W base args ds gs before hval hW _ hcond _ hL hS _
  have hL' : laidMet Tryd.prog fit.laid7 W := hL
  exact contract H enc W base args ds gs before hval hW (hcond _ rfl) (fit.vars hS hL' (by simp [fit.laid7]) (by simp [fit.laid7]) (by simp [fit.laid7]) ⟨_, hL'.tail.tail.tail.tail⟩ ⟨_, hL'.tail.tail.tail.tail.tail⟩)

theorem saidUpto : Rows.TextWordsUptoSaid :=
  OpenClaim.holds_of_cond 9 Tryd.f9 rfl rfl rfl rfl rfl rfl rfl ⟨rfl, rfl, rfl, rfl, rfl⟩ rfl rfl rfl rfl rfl (by kernel_rfl) Tryd.func9 (by kernel_rfl)
    (of_decide_eq_true (by kernel_rfl)) (by unfold Func.isWrapper; first | (rw [if_pos (by decide +kernel)]; kernel_rfl) | (rw [if_neg (by decide +kernel)]; exact ⟨rfl, rfl⟩))
    (fun os started H enc _ F => by rw [OpenClaim.pre_eq_preRow]; exact lifted os started H enc F)

theorem plain (f : FuncId) (fn : Func) (hf : Tryd.pinned.checked.prog.funcNamed "sextant/sextantlaw02.TextWords" = some f) (hfn : Tryd.pinned.checked.prog.funcs[f]? = some fn) :
    true = Tryd.pinned.checked.prog.looks [] ∧ ∀ (j : Nat) t, fn.params[j]? = some t → Tryd.pinned.checked.prog.wantsStandIn t = false := by
  obtain rfl : f = 9 := Option.some.inj ((show Tryd.prog.funcNamed "sextant/sextantlaw02.TextWords" = some 9 by kernel_rfl).symm.trans hf) |>.symm
  obtain rfl : fn = Tryd.f9 := (Option.some.inj (Tryd.func9.symm.trans hfn)).symm
  refine ⟨by kernel_rfl, fun j t ht => ?_⟩
  rw [Tryd.params9] at ht
  have hm : t ∈ #[9, 3] := Array.mem_of_getElem? ht
  simp at hm
  have hn : ∀ u, u = 9 ∨ u = 3 → Tryd.prog.wantsStandIn u = false := by
    intro u hu
    rcases hu with rfl | rfl <;> kernel_rfl
  exact hn t hm

/-- ████ THE STATEMENT ████ -/
theorem proved : Rows.TextWordsUptoCardSaid :=
  Claim7.holds_tied_plain_at .later [] _ _ _ _ saidUpto (fun _ h => by cases h) (by kernel_rfl) (fun _ h => by cases h) textWordsUpto_row_tie rfl ⟨rfl, rfl⟩ (by kernel_rfl) rfl plain (by kernel_rfl)
#print axioms proved
end Go.Proofs.YtedbcbncdfjocaaDoor.textWords
