/- What functions of the program compute, as plain Lean functions, each with its proof by a proved reader; plain laws about them (EvTh). -/
import Derived.Test.YtpnpdcfojbbglaaGreatDoorEvMe
set_option linter.unusedSimpArgs false
set_option linter.unusedVariables false
namespace Ev
open Go
variable {σ : Type} {P : Program} {glob : Nat → Option (List D)}
def bareA : AV → Bool
  | .d _ | .nsl => true
  | .func _ [] [] => true
  | _ => false
theorem bare_to {c c' : Cx} (h : c'.ro = c.ro) : ∀ {as : List AV} {us : List Value}, as.all bareA = true → ARels c as us → ARels c' as us
  | [], _, _, hA => hA
  | x :: xs, _, hb, hA => by
    simp only [List.all_cons, Bool.and_eq_true] at hb
    obtain ⟨u, us', rfl, h1, h2⟩ := hA
    refine ⟨u, us', rfl, ?_, bare_to h hb.2 h2⟩
    have hb1 := hb.1
    unfold bareA at hb1
    split at hb1
    · simp only [ARel] at h1 ⊢; rw [h]; exact h1
    · simp only [ARel] at h1 ⊢; exact h1
    · simp only [ARel, ARels] at h1 ⊢; exact h1
    · cases hb1
theorem len0 {e : List D} (h : e.length = 0) : AV.toD (.d (.slice e)) = some (.slice []) := by
  cases e with
  | nil => rfl
  | cons a b => cases h
theorem told_run {t : Tabs} {tab : Tab} (h : TabOk P t.glob tab) {f : FuncId} {fn : Func} (hf : P.funcs[f]? = some fn) (hen : enters fn = true) {α γ : Type}
    {nat : α → Option γ} {args : α → List AV} {res : AV → List Nat → Option γ}
    {seg : Nat → Option (SegE Unit)} (hc : fn.body = some (bodyOf fn)) (hs : SegsOk (cfgOf P t tab) (evFn (cfgOf P t tab) 9) f false noY seg (bodyOf fn))
    (hnat : ∀ a, nat a = bodyK (cfgOf P t tab) (toldOf tab) noY (inlN (cfgOf P t tab) (toldOf tab) noY) seg f fn (args a) [] [] () (fun v _ tk _ => res v tk)) {a : α} {o : γ} (h3 : nat a = some o) :
    ∃ v b tk s, bodyHd (cfgOf P t tab) (evFn (cfgOf P t tab) 9) Unit noY f (args a) [] [] () = some (.ret v, b, tk, s) ∧ res v tk = some o := by
  rw [hnat] at h3
  obtain ⟨v1, b1, tk, s1, q1, q2⟩ := bodyK_sound (H := evFn (cfgOf P t tab) 9) (pureOk_of (C := cfgOf P t tab) h rfl (fun _ => rfl) 9 (by omega)) (inlN_ok (C := cfgOf P t tab) h rfl (fun _ => rfl) (N := 0) (fun n _ => noMeth (fun _ => rfl))) (fun c hc' => by rw [hc] at hc'; cases hc'; exact hs) h3
  have hf' : (cfgOf P t tab).P.funcs[f]? = some fn := hf
  refine ⟨v1, b1, tk, s1, ?_, q2⟩
  simp only [bodyHd, hf', hen, if_true]
  exact q1
theorem good_none {c : Cx} {w : World} {boxes : List Box} (hW : WOk c boxes w) : Good Held.none c boxes () (fun _ => False) w := ⟨hW, fun _ h => h, fun _ h => h.elim⟩
theorem evo_none {c c' : Cx} {w w' : World} (hE : EvoX (fun _ => False) c w (fun _ => False) c' w') : Evo c w c' w' := ⟨hE.le, hE.os, hE.tape, hE.output, hE.size, fun k hk ho => hE.keep k hk ho (fun h => h), hE.new, fun b o h0 h1 => (hE.ronew b o h0 h1).elim .inl (fun q => q.elim (fun q => q.elim) .inr), hE.dead⟩
end Ev
