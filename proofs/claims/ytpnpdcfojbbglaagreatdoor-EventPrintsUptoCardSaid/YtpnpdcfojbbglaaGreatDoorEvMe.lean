/- What functions of the program compute, as plain Lean functions, each with its proof by a proved reader; plain laws about them (EvMe). -/
import Derived.Test.YtpnpdcfojbbglaaGreatDoorEvRg
import Derived.Test.YtpnpdcfojbbglaaGreatDoorEvSp
set_option linter.unusedSimpArgs false
set_option linter.unusedVariables false
namespace Ev
open Go
variable {P : Program} {glob : Nat → Option (List D)}
def mInl {α γ : Type} (f0 : FuncId) (dec : List AV → List Box → List Nat → Option α) (nat : α → Option γ) (encV : α → γ → AV) (encB : α → γ → List Box) (encT : α → γ → List Nat) {β : Type} : InlE Unit β :=
  fun f args boxes toks s k => bif Nat.beq f f0 then (dec args boxes toks).bind fun a => (nat a).bind fun o => k (encV a o) (encB a o) (encT a o) s else none
theorem lendK_fair {inl : {β : Type} → InlE Unit β} (hi : ∀ (β : Type) f args boxes toks s (k : AV → List Box → List Nat → Unit → Option β) r, inl f args boxes toks s k = some r → ∃ v b t, inl f args boxes toks s (fun v b t _ => some (v, b, t)) = some (v, b, t) ∧ k v b t s = some r)
    (hc : ∀ (β γ : Type) f args boxes toks s (g : AV → List Box → List Nat → Option γ) v b t, inl (β := AV × List Box × List Nat) f args boxes toks s (fun v b t _ => some (v, b, t)) = some (v, b, t) → inl f args boxes toks s (fun v b t _ => g v b t) = g v b t)
    {f : FuncId} {as : List AV} {bs : List Box} {ts : List Nat} {β : Type} {k : AV → List Box → List Nat → Option β} {r : β} (h : lendK inl f as bs ts () (fun v b t _ => k v b t) = some r) :
    ∃ v b t, lendK inl f as bs ts () (fun v b t _ => some (v, b, t)) = some (v, b, t) ∧ k v b t = some r := by
  unfold lendK at h ⊢
  dsimp only at h ⊢
  split at h
  · rename_i hl
    obtain ⟨v, b, t, h1, h2⟩ := hi _ _ _ _ _ _ _ _ h
    refine ⟨_, _, _, ?_, h2⟩
    rw [if_pos hl]
    exact hc Unit _ _ _ _ _ _ (fun v b t => some _) v b t h1
  · cases h
def methE {α γ : Type} (f0 : FuncId) (dec : List AV → List Box → List Nat → Option α) (nat : α → Option γ) (encV : α → γ → AV) (encB : α → γ → List Box) (encT : α → γ → List Nat) : OddE where
  run := fun as bs ts k => lendK (mInl f0 dec nat encV encB encT) f0 as bs ts () (fun v b t _ => k v b t)
  fair := by
    intro β as bs ts k r h
    refine lendK_fair (inl := mInl f0 dec nat encV encB encT) ?_ ?_ h
    · intro β f args boxes toks s k r h
      unfold mInl at h ⊢
      cases hb : Nat.beq f f0 with
      | false => rw [hb] at h; cases h
      | true =>
        rw [hb] at h
        rw [cond_true] at h ⊢
        obtain ⟨a, h1, h2⟩ := bind_some h
        obtain ⟨o, h3, h4⟩ := bind_some h2
        exact ⟨encV a o, encB a o, encT a o, by rw [h1, Option.bind_some, h3, Option.bind_some], h4⟩
    · intro β γ f args boxes toks s g v b t h
      unfold mInl at h ⊢
      cases hb : Nat.beq f f0 with
      | false => rw [hb] at h; cases h
      | true =>
        rw [hb] at h
        rw [cond_true] at h ⊢
        obtain ⟨a, h1, h2⟩ := bind_some h
        obtain ⟨o, h3, h4⟩ := bind_some h2
        cases h4
        rw [h1, Option.bind_some, h3, Option.bind_some]
theorem told_meth {P : Program} {t : Tabs} {tab : Tab} (h : TabOk P t.glob tab) (hm : P.follows .mixedOrders = true) (hO : OddSound P t.glob t.odd) {f : FuncId} {fn : Func} (hf : P.funcs[f]? = some fn) (hen : enters fn = true) (hx : look tab f = none) {α γ : Type}
    {dec : List AV → List Box → List Nat → Option α} {nat : α → Option γ} {encV : α → γ → AV} {encB : α → γ → List Box} {encT : α → γ → List Nat} {argsOf : α → List AV} {boxOf : α → List Box} {tokOf : α → List Nat} {res : α → AV → List Box → List Nat → Option γ}
    {seg : Nat → Option (SegE Unit)} (hc : fn.body = some (bodyOf fn)) (hs : SegsOk (cfgOf P t tab) (evFn (cfgOf P t tab) 9) f false noY seg (bodyOf fn))
    (hdec : ∀ as bs ts a, dec as bs ts = some a → as = argsOf a ∧ bs = boxOf a ∧ ts = tokOf a) (hres : ∀ a v b tk o, res a v b tk = some o → v = encV a o ∧ b = encB a o ∧ tk = encT a o)
    (hnat : ∀ a, nat a = bodyK (cfgOf P t tab) (toldOf tab) noY (inlN (cfgOf P t tab) (toldOf tab) noY) seg f fn (argsOf a) (boxOf a) (tokOf a) () (fun v b tk _ => res a v b tk)) :
    OddSound P t.glob (fun g => bif Nat.beq g f then some (methE f dec nat encV encB encT) else t.odd g) := by
  have hI : ∀ β : Type, InlOk (β := β) (evFn (cfgOf P t tab) 10) noY (mInl f dec nat encV encB encT) := by
    intro β g args boxes toks s k r hr
    unfold mInl at hr
    cases hb : Nat.beq g f with
    | false => rw [hb] at hr; cases hr
    | true =>
      rw [hb, cond_true] at hr
      have hg := Nat.eq_of_beq_eq_true hb
      subst hg
      obtain ⟨a, h1, h2⟩ := bind_some hr
      obtain ⟨o, h3, h4⟩ := bind_some h2
      rw [hnat] at h3
      obtain ⟨v, b, tk, s1, q1, q2⟩ := bodyK_sound (H := evFn (cfgOf P t tab) 9) (pureOk_of (C := cfgOf P t tab) h rfl (fun _ => rfl) 9 (by omega)) (inlN_ok (C := cfgOf P t tab) h rfl (fun _ => rfl) (N := 0) (fun n _ => noMeth (fun _ => rfl))) (fun c hc' => by rw [hc] at hc'; cases hc'; exact hs) h3
      obtain ⟨rfl, rfl, rfl⟩ := hdec _ _ _ _ h1
      obtain ⟨rfl, rfl, rfl⟩ := hres _ _ _ _ _ q2
      have hx' : (cfgOf P t tab).ext g = none := by
        show extOf tab g = none
        simp only [extOf, hx]
      have hf' : (cfgOf P t tab).P.funcs[g]? = some fn := hf
      refine ⟨_, _, _, s, ?_, h4⟩
      show evFn (cfgOf P t tab) (9 + 1) Unit noY g _ _ _ _ = _
      simp only [evFn, hx', hf', hen, if_true]
      exact q1
  intro g e hg args boxes toks v b' t' hrun
  dsimp only at hg
  cases hb : Nat.beq g f with
  | false =>
    rw [hb, cond_false] at hg
    exact hO g e hg args boxes toks v b' t' hrun
  | true =>
    rw [hb, cond_true] at hg
    cases hg
    have hgf := Nat.eq_of_beq_eq_true hb
    subst hgf
    have hrun' : lendK (mInl g dec nat encV encB encT) g args boxes toks () (fun v b t _ => some (v, b, t)) = some (v, b', t') := hrun
    obtain ⟨v0, b0, t0, s0, q1, q2⟩ := lendK_sound (hI _) hrun'
    cases q2
    have hfs : HSound P t.glob (evFn (cfgOf P t tab) 10) := fn_sound (C := cfgOf P t tab) ⟨rfl, rfl, hO⟩ hm (TabOk.ext h) 10
    obtain ⟨he, hp⟩ := lend_sound hfs Unit noY Held.none _ _ _ _ _ _ _ _ _ q1
    refine ⟨he, fun c w us hgl ht hW hA => ?_⟩
    refine Calls.mono (hp c w (fun _ => False) us ht ⟨hW, fun _ h => h, fun _ h => h.elim⟩ hA ⟨hgl, fun l hl => ?_⟩) ?_
    · intro ds s b s' e
      cases e
    rintro e' w' ⟨c', X', u, rfl, hG, hE, ht', hv⟩
    exact ⟨c', u, rfl, hG.ok, ⟨hE.le, hE.os, hE.tape, hE.output, hE.size, fun k hk ho => hE.keep k hk ho (fun h => h), hE.new, fun b o h0 h1 => (hE.ronew b o h0 h1).elim .inl (fun q => q.elim (fun q => q.elim) .inr), hE.dead⟩, ht', hv⟩
theorem OddSound.join {P : Program} {glob : Nat → Option (List D)} {o o' : FuncId → Option OddE} {f : FuncId} {e : OddE} (h : OddSound P glob (fun g => bif Nat.beq g f then some e else o g)) (h' : OddSound P glob o') : OddSound P glob (fun g => bif Nat.beq g f then some e else o' g) := by
  intro g e' hg
  dsimp only at hg
  cases hb : Nat.beq g f with
  | true =>
    rw [hb, cond_true] at hg
    exact h g e' (by dsimp only; rw [hb, cond_true]; exact hg)
  | false =>
    rw [hb, cond_false] at hg
    exact h' g e' hg
def oddAt (t : Tabs) (f : FuncId) (e : OddE) : Tabs := { t with odd := fun g => bif Nat.beq g f then some e else t.odd g }
theorem told_methRec {P : Program} {t : Tabs} {tab : Tab} (h : TabOk P t.glob tab) (hm : P.follows .mixedOrders = true) (hO : OddSound P t.glob t.odd) {f : FuncId} {fn : Func} (hf : P.funcs[f]? = some fn) (hen : enters fn = true) (hx : look tab f = none) {α γ : Type}
    {dec : List AV → List Box → List Nat → Option α} {nat : Nat → α → Option γ} {encV : α → γ → AV} {encB : α → γ → List Box} {encT : α → γ → List Nat} {argsOf : α → List AV} {boxOf : α → List Box} {tokOf : α → List Nat} {res : α → AV → List Box → List Nat → Option γ}
    {seg : Nat → Nat → Option (SegE Unit)} (hc : fn.body = some (bodyOf fn)) (hs : ∀ k, SegsOk (cfgOf P (oddAt t f (methE f dec (nat k) encV encB encT)) tab) (evFn (cfgOf P (oddAt t f (methE f dec (nat k) encV encB encT)) tab) 9) f false noY (seg k) (bodyOf fn))
    (hdec : ∀ as bs ts a, dec as bs ts = some a → as = argsOf a ∧ bs = boxOf a ∧ ts = tokOf a) (hres : ∀ a v b tk o, res a v b tk = some o → v = encV a o ∧ b = encB a o ∧ tk = encT a o) (hz : ∀ a, nat 0 a = none)
    (hnat : ∀ k a, nat (k + 1) a = bodyK (cfgOf P (oddAt t f (methE f dec (nat k) encV encB encT)) tab) (toldOf tab) noY (inlN (cfgOf P (oddAt t f (methE f dec (nat k) encV encB encT)) tab) (toldOf tab) noY) (seg k) f fn (argsOf a) (boxOf a) (tokOf a) () (fun v b tk _ => res a v b tk)) :
    ∀ k, OddSound P t.glob (fun g => bif Nat.beq g f then some (methE f dec (nat k) encV encB encT) else t.odd g)
  | 0 => by
    intro g e hg args boxes toks v b' t' hrun
    dsimp only at hg
    cases hb : Nat.beq g f with
    | false =>
      rw [hb, cond_false] at hg
      exact hO g e hg args boxes toks v b' t' hrun
    | true =>
      rw [hb, cond_true] at hg
      cases hg
      exfalso
      have hrun' : lendK (mInl f dec (nat 0) encV encB encT) f args boxes toks () (fun v b t _ => some (v, b, t)) = some (v, b', t') := hrun
      unfold lendK at hrun'
      dsimp only at hrun'
      split at hrun'
      case isFalse => cases hrun'
      unfold mInl at hrun'
      obtain ⟨_, h'⟩ := cond_of hrun'
      obtain ⟨a, h1, h2⟩ := bind_some h'
      rw [hz] at h2
      cases h2
  | k + 1 => by
    have ih := told_methRec h hm hO hf hen hx hc hs hdec hres hz hnat k
    have := told_meth (t := oddAt t f (methE f dec (nat k) encV encB encT)) h hm ih hf hen hx hc (hs k) hdec hres (hnat k)
    intro g e hg
    refine this g e ?_
    dsimp only at hg ⊢
    cases hb : Nat.beq g f with
    | true => rw [hb, cond_true] at hg; rw [cond_true]; exact hg
    | false =>
      rw [hb, cond_false] at hg
      rw [cond_false]
      show (bif Nat.beq g f then _ else t.odd g) = some e
      rw [hb, cond_false]
      exact hg
end Ev
