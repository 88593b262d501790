/- What functions of the program compute, as plain Lean functions, each with its proof by a proved reader; plain laws about them (EvTb). -/
import Derived.Test.YtpnpdcfojbbglaaGreatDoorEvTh
set_option linter.unusedSimpArgs false
set_option linter.unusedVariables false
namespace Ev
open Go
variable {σ : Type} {P : Program} {glob : Nat → Option (List D)}
def nilAt (i : Nat) (as : List AV) : Bool := match as[i]? with
  | some .nsl => true
  | _ => false
def nilE (i : Nat) (e1 e2 : OddE) : OddE where
  run := fun as bs ts k => bif nilAt i as then e1.run as bs ts k else e2.run as bs ts k
  fair := by
    intro β as bs ts k r h
    cases hb : nilAt i as with
    | true => simp only [hb, cond_true] at h ⊢; exact e1.fair β as bs ts k r h
    | false => simp only [hb, cond_false] at h ⊢; exact e2.fair β as bs ts k r h
theorem OddSound.nil {o : FuncId → Option OddE} {f : FuncId} {e1 e2 : OddE} {i : Nat} (h1 : OddSound P glob (fun g => bif Nat.beq g f then some e1 else o g)) (h2 : o f = some e2) (hO : OddSound P glob o) : OddSound P glob (fun g => bif Nat.beq g f then some (nilE i e1 e2) else o g) := by
  intro g e hg as boxes toks v b' t' hrun
  dsimp only at hg
  cases hb : Nat.beq g f with
  | false =>
    rw [hb, cond_false] at hg
    exact hO g e hg as boxes toks v b' t' hrun
  | true =>
    rw [hb, cond_true] at hg
    cases hg
    have hgf := Nat.eq_of_beq_eq_true hb
    subst hgf
    have hrun' : (bif nilAt i as then e1.run as boxes toks (fun v b t => some (v, b, t)) else e2.run as boxes toks (fun v b t => some (v, b, t))) = some (v, b', t') := hrun
    cases hn : nilAt i as with
    | true =>
      rw [hn, cond_true] at hrun'
      exact h1 g e1 (by dsimp only; rw [hb, cond_true]) as boxes toks v b' t' hrun'
    | false =>
      rw [hn, cond_false] at hrun'
      exact hO g e2 h2 as boxes toks v b' t' hrun'
theorem plain_any {H : Hd} (hH : HSound P glob H) {f : FuncId} {as : List AV} (hba : as.all bareA = true) {x : AV} {d : D} {bs : List Box} {tk : List Nat} {s0 : Unit} (hx : x.toD = some d) (hv : H Unit noY f as [] [] () = some (.ret x, bs, tk, s0)) :
    (∀ us w, (callFunc f us).run P w = .ok (.enter f us) w) ∧
    ∀ (L : Held σ) (s : σ) (c : Cx) (w : World) (X : Nat → Prop) (us : List Value) (boxes : List Box), Good L c boxes s X w → GlobIn P glob c.ro → ARels c as us →
      Calls P f us.toArray w (fun e w' => ∃ c' u, e = .returned u ∧ Good L c' boxes s X w' ∧ EvoX X c w X c' w' ∧ c'.toks = c.toks ∧ ARel c' (.d d) u) := by
  obtain ⟨h1, h2⟩ := hH Unit noY Held.none f _ _ _ _ _ _ _ _ hv
  refine ⟨h1, fun L s c w X us boxes hG hgl ha => ?_⟩
  refine Calls.mono (h2 ⟨[], [], [], c.ro, none, []⟩ w (fun _ => False) us rfl rfl ⟨⟨hG.ok.ro, rfl, by simp, by simp, by simp [Cx.has], by simp, rfl, by simp, by simp, by simp, by simp⟩, fun _ h => h.elim, fun _ h => h.elim⟩ (bare_to (c := c) (c' := ⟨[], [], [], c.ro, none, []⟩) rfl hba ha) ⟨hgl, by simp⟩) ?_
  rintro e' w' ⟨c2, X2, u, rfl, hg, hE, htk, hv'⟩
  have hd := ARel.toD x hv' hx
  have hl : Left (fun _ => False) c.ro w (fun _ => False) c2.ro w' :=
    ⟨hE.le.ro, hg.ok.ro, hE.os, hE.tape, hE.output, hE.size, fun k hk _ => hE.keep k hk (by simp [Cx.owns]) (by simp), fun _ h => h.elim, fun x o h0 h1 => by
      rcases hE.ronew x o h0 h1 with q | q | q
      · simp [Cx.owns] at q
      · exact q.elim
      · exact .inr q⟩
  obtain ⟨g1, g2⟩ := hG.pure hl
  exact ⟨_, _, rfl, g1, g2, rfl, by simp only [ARel]; exact hd⟩
def funcE {α γ : Type} (dec : List AV → Option α) (nat : α → Option γ) (enc : γ → D) : OddE where
  run := fun as bs ts k => (dec as).bind fun a => (nat a).bind fun o => k (.d (enc o)) bs ts
  fair := by
    intro β as bs ts k r h
    obtain ⟨a, h2, h⟩ := bind_some h
    obtain ⟨o, h3, h⟩ := bind_some h
    rw [h2, Option.bind_some, h3, Option.bind_some]
    exact ⟨_, _, _, rfl, h⟩
theorem told_func {t : Tabs} {tab : Tab} (h : TabOk P t.glob tab) (hm : P.follows .mixedOrders = true) (hO : OddSound P t.glob t.odd) {f : FuncId} {fn : Func} (hf : P.funcs[f]? = some fn) (hen : enters fn = true) {α γ : Type}
    {dec : List AV → Option α} {nat : α → Option γ} {enc : γ → D} {args : α → List AV} {res : AV → Option γ}
    {seg : Nat → Option (SegE Unit)} (hc : fn.body = some (bodyOf fn)) (hs : SegsOk (cfgOf P t tab) (evFn (cfgOf P t tab) 9) f false noY seg (bodyOf fn))
    (hdec : ∀ as a, dec as = some a → as = args a) (hbare : ∀ a, (args a).all bareA = true) (hres : ∀ v o, res v = some o → v.toD = some (enc o))
    (hnat : ∀ a, nat a = bodyK (cfgOf P t tab) (toldOf tab) noY (inlN (cfgOf P t tab) (toldOf tab) noY) seg f fn (args a) [] [] () (fun v _ tk _ => res v)) :
    OddSound P t.glob (fun g => bif Nat.beq g f then some (funcE dec nat enc) else t.odd g) := by
  intro g e hg as boxes toks v b' t' hrun
  dsimp only at hg
  cases hb : Nat.beq g f with
  | false =>
    rw [hb, cond_false] at hg
    exact hO g e hg as boxes toks v b' t' hrun
  | true =>
    rw [hb, cond_true] at hg
    cases hg
    have hgf := Nat.eq_of_beq_eq_true hb
    subst hgf
    obtain ⟨a, h2, hrun2⟩ := bind_some (show (dec as).bind _ = some (v, b', t') from hrun)
    clear hrun
    obtain ⟨o, h3, hrun⟩ := bind_some hrun2
    clear hrun2
    obtain ⟨v1, b1, tk, s1, hev, q2⟩ := told_run (args := args) (res := fun v _ => res v) h hf hen hc hs hnat h3
    have hds := hdec _ _ h2
    subst hds
    have hfs : HSound P t.glob (bodyHd (cfgOf P t tab) (evFn (cfgOf P t tab) 9)) := bodyHd_sound (C := cfgOf P t tab) ⟨rfl, rfl, hO⟩ hm (fn_sound (C := cfgOf P t tab) ⟨rfl, rfl, hO⟩ hm (TabOk.ext h) 9)
    simp only [Option.some.injEq, Prod.mk.injEq] at hrun
    obtain ⟨rfl, rfl, rfl⟩ := hrun
    obtain ⟨he, hp⟩ := plain_any (σ := Unit) hfs (hbare a) (hres _ _ q2) hev
    refine ⟨he, fun c w us hgl ht hW hA => ?_⟩
    subst ht
    refine Calls.mono (hp Held.none () c w (fun _ => False) us boxes (good_none hW) hgl hA) ?_
    rintro e' w' ⟨c', u, rfl, hG, hE, ht', hv⟩
    exact ⟨c', u, rfl, hG.ok, evo_none hE, ht', hv⟩
end Ev
