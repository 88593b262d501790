/- What functions of the program compute, as plain Lean functions, each with its proof by a proved reader; plain laws about them (LibClone). -/
import Derived.Test.YtohmflkolmobmaaGreatDoorEvMe
import Derived.Test.YtohmflkolmobmaaGreatDoorEvS
import Derived.Below
import Derived.Lib.AppendIntMem
import Derived.Laws.AppendOwn
set_option linter.unusedSimpArgs false
set_option linter.unusedVariables false
namespace Ev
open Go
variable {σ : Type} {P : Program} {glob : Nat → Option (List D)}
theorem len0 {e : List D} (h : e.length = 0) : AV.toD (.d (.slice e)) = some (.slice []) := by
  cases e with
  | nil => rfl
  | cons a b => cases h
theorem good_none {c : Cx} {w : World} {boxes : List Box} (hW : WOk c boxes w) : Good Held.none c boxes () (fun _ => False) w := ⟨hW, fun _ h => h, fun _ h => h.elim⟩
theorem evo_none {c c' : Cx} {w w' : World} (hE : EvoX (fun _ => False) c w (fun _ => False) c' w') : Evo c w c' w' := ⟨hE.le, hE.os, hE.tape, hE.output, hE.size, fun k hk ho => hE.keep k hk ho (fun h => h), hE.new, fun b o h0 h1 => (hE.ronew b o h0 h1).elim .inl (fun q => q.elim (fun q => q.elim) .inr), hE.dead⟩
end Ev

set_option linter.unusedSimpArgs false
set_option linter.unusedVariables false
namespace Ev
open Go
variable {σ : Type} {P : Program} {glob : Nat → Option (List D)}
def nilAt (i : Nat) (as : List AV) : Bool := match as[i]? with
  | some .nsl => true
  | _ => false
def nilE (i : Nat) (e1 e2 : OddE) : OddE where
  run := fun as bs ts k => bif nilAt i as then e1.run as bs ts k else e2.run as bs ts k
  fair := by
    intro β as bs ts k r h
    cases hb : nilAt i as with
    | true => simp only [hb, cond_true] at h ⊢; exact e1.fair β as bs ts k r h
    | false => simp only [hb, cond_false] at h ⊢; exact e2.fair β as bs ts k r h
theorem OddSound.nil {o : FuncId → Option OddE} {f : FuncId} {e1 e2 : OddE} {i : Nat} (h1 : OddSound P glob (fun g => bif Nat.beq g f then some e1 else o g)) (h2 : o f = some e2) (hO : OddSound P glob o) : OddSound P glob (fun g => bif Nat.beq g f then some (nilE i e1 e2) else o g) := by
  intro g e hg as boxes toks v b' t' hrun
  dsimp only at hg
  cases hb : Nat.beq g f with
  | false =>
    rw [hb, cond_false] at hg
    exact hO g e hg as boxes toks v b' t' hrun
  | true =>
    rw [hb, cond_true] at hg
    cases hg
    have hgf := Nat.eq_of_beq_eq_true hb
    subst hgf
    have hrun' : (bif nilAt i as then e1.run as boxes toks (fun v b t => some (v, b, t)) else e2.run as boxes toks (fun v b t => some (v, b, t))) = some (v, b', t') := hrun
    cases hn : nilAt i as with
    | true =>
      rw [hn, cond_true] at hrun'
      exact h1 g e1 (by dsimp only; rw [hb, cond_true]) as boxes toks v b' t' hrun'
    | false =>
      rw [hn, cond_false] at hrun'
      exact hO g e2 h2 as boxes toks v b' t' hrun'
end Ev

set_option linter.unusedSimpArgs false
set_option linter.unusedVariables false
namespace Ev
open Go
variable {P : Program} {glob : Nat → Option (List D)}
def payOf : Ex → Option (TypeId × List Value)
  | .panic (.d (.val (.iface t (.agg cs)))) => some (t, cs.toList)
  | _ => none
theorem payOf_some {ex : Ex} {t : TypeId} {l : List Value} (h : payOf ex = some (t, l)) : ex = .panic (.d (.val (.iface t (.agg l.toArray)))) := by
  unfold payOf at h
  split at h
  · cases h; rfl
  · cases h
def payO : Out → Option (TypeId × List Value)
  | .panic (.d (.val (.iface t (.agg cs)))) => some (t, cs.toList)
  | _ => none
theorem payO_some {ex : Out} {t : TypeId} {l : List Value} (h : payO ex = some (t, l)) : ex = .panic (.d (.val (.iface t (.agg l.toArray)))) := by
  unfold payO at h
  split at h
  · cases h; rfl
  · cases h
def endO {R Q : Type} (encV : R → AV) (pay : Q → Value) : R ⊕ Q → Out
  | .inl r => .ret (encV r)
  | .inr q => .panic (.d (.val (pay q)))
def endB {R Q : Type} (encB : R → List Box) (gones : List Box) : R ⊕ Q → List Box
  | .inl r => encB r
  | .inr _ => gones
def endT {R Q : Type} (encT : R → List Nat) : R ⊕ Q → List Nat
  | .inl r => encT r
  | .inr _ => []
def methP {α R Q : Type} (dec : List AV → List Box → List Nat → Option α) (nat : α → Option (R ⊕ Q)) (encV : R → AV) (encB : R → List Box) (encT : R → List Nat) (pay : Q → Value) (gones : List Box) : MethP where
  run := fun as bs ts k => (dec as bs ts).bind fun a => (nat a).bind fun o => match o with
    | .inl r => k (.ret (encV r)) (encB r) (encT r)
    | .inr q => k (.panic (.d (.val (pay q)))) gones []
  fair := by
    intro β as bs ts k r h
    obtain ⟨a, h1, h2⟩ := bind_some h
    obtain ⟨o, h3, h4⟩ := bind_some h2
    cases o with
    | inl x => exact ⟨_, _, _, by rw [h1, Option.bind_some, h3, Option.bind_some], h4⟩
    | inr x => exact ⟨_, _, _, by rw [h1, Option.bind_some, h3, Option.bind_some], h4⟩
theorem methP_run {α R Q : Type} {dec : List AV → List Box → List Nat → Option α} {nat : α → Option (R ⊕ Q)} {encV : R → AV} {encB : R → List Box} {encT : R → List Nat} {pay : Q → Value} {gones : List Box} {as : List AV} {bs : List Box} {ts : List Nat} {o : Out} {b : List Box} {t : List Nat}
    (h : (methP dec nat encV encB encT pay gones).run as bs ts (fun o b t => some (o, b, t)) = some (o, b, t)) : ∃ a r, dec as bs ts = some a ∧ nat a = some r ∧ o = endO encV pay r ∧ b = endB encB gones r ∧ t = endT encT r := by
  obtain ⟨a, h1, h2⟩ := bind_some h
  obtain ⟨r, h3, h4⟩ := bind_some h2
  refine ⟨a, r, h1, h3, ?_⟩
  cases r <;> (cases h4; exact ⟨rfl, rfl, rfl⟩)
def EndP {R Q : Type} (encV : R → AV) (encB : R → List Box) (encT : R → List Nat) (pay : Q → Value) (gones : List Box) (o : Out) (b : List Box) (tk : List Nat) : R ⊕ Q → Prop
  | .inl r => (∃ v p, o = .ret v ∧ toPR v = some p ∧ encV r = p.av) ∧ b = encB r ∧ tk = encT r
  | .inr q => o = .panic (.d (.val (pay q))) ∧ b = gones ∧ tk = []
theorem told_methP {t : Tabs} {tab : Tab} (h : TabOk P t.glob tab) (hm : P.follows .mixedOrders = true) (hO : OddSound P t.glob t.odd) (hM : MethSound P t.glob t.meth) {f : FuncId} {fn : Func} (hf : P.funcs[f]? = some fn) (hen : enters fn = true) {α R Q : Type}
    {dec : List AV → List Box → List Nat → Option α} {nat : α → Option (R ⊕ Q)} {encV : R → AV} {encB : R → List Box} {encT : R → List Nat} {pay : Q → Value} {gones : List Box} {argsOf : α → List AV} {boxOf : α → List Box} {tokOf : α → List Nat} {res : Out → List Box → List Nat → Option (R ⊕ Q)}
    {seg : Nat → Option (SegE Unit)} (hc : fn.body = some (bodyOf fn)) (hs : SegsOk (cfgOf P t tab) (evFn (cfgOf P t tab) 9) f false noY seg (bodyOf fn))
    (hdec : ∀ as bs ts a, dec as bs ts = some a → as = argsOf a ∧ bs = boxOf a ∧ ts = tokOf a) (hres : ∀ v b tk o, res v b tk = some o → EndP encV encB encT pay gones v b tk o)
    (hnat : ∀ a, nat a = bodyK (cfgOf P t tab) (toldOf tab) noY (inlN (cfgOf P t tab) (toldOf tab) noY) seg f fn (argsOf a) (boxOf a) (tokOf a) () (fun v b tk _ => res v b tk)) :
    MethSound P t.glob (fun g => bif Nat.beq g f then some (methP dec nat encV encB encT pay gones) else t.meth g) := by
  intro g e hg args boxes toks o b' t' hrun
  dsimp only at hg
  cases hb : Nat.beq g f with
  | false =>
    rw [hb, cond_false] at hg
    exact hM g e hg args boxes toks o b' t' hrun
  | true =>
    rw [hb, cond_true] at hg
    cases hg
    have hgf := Nat.eq_of_beq_eq_true hb
    subst hgf
    obtain ⟨a, q, h1, h3, rfl, rfl, rfl⟩ := methP_run hrun
    rw [hnat] at h3
    obtain ⟨o1, b1, tk, s1, q1, q2⟩ := bodyK_sound (H := evFn (cfgOf P t tab) 9) (pureOk_of (C := cfgOf P t tab) h rfl (fun _ => rfl) 9 (by omega)) (inlN_ok (C := cfgOf P t tab) h rfl (fun _ => rfl) (N := 0) (fun n _ => noMeth (fun _ => rfl))) (fun c hc' => by rw [hc] at hc'; cases hc'; exact hs) h3
    obtain ⟨rfl, rfl, rfl⟩ := hdec _ _ _ _ h1
    have hf' : (cfgOf P t tab).P.funcs[g]? = some fn := hf
    have hrun' : bodyHd (cfgOf P t tab) (evFn (cfgOf P t tab) 9) Unit noY g (argsOf a) (boxOf a) (tokOf a) () = some (o1, b1, tk, s1) := by
      simp only [bodyHd, hf', hen, if_true]
      exact q1
    have hfs : HSound P t.glob (bodyHd (cfgOf P t tab) (evFn (cfgOf P t tab) 9)) := bodyHd_sound (C := cfgOf P t tab) ⟨rfl, rfl, hO⟩ hm (fn_sound (C := cfgOf P t tab) ⟨rfl, rfl, hO⟩ hm (TabOk.ext h) hM 9)
    obtain ⟨he, hp⟩ := hfs Unit noY Held.none _ _ _ _ _ _ _ _ _ hrun'
    refine ⟨he, fun c w us hgl ht hd hW hA => ?_⟩
    refine Calls.mono (hp c w (fun _ => False) us ht hd ⟨hW, fun _ h => h, fun _ h => h.elim⟩ hA ⟨hgl, fun l hl => ?_⟩) ?_
    · intro ds s b s' e
      cases e
    rintro e' w' ⟨c', X', u, rfl, hG, hE, ht', hv⟩
    have hEv : Evo c w c' w' := ⟨hE.le, hE.os, hE.tape, hE.output, hE.size, fun k hk ho => hE.keep k hk ho (fun h => h), hE.new, fun b o h0 h1 => (hE.ronew b o h0 h1).elim .inl (fun q => q.elim (fun q => q.elim) .inr), hE.dead⟩
    have hend := hres _ _ _ _ q2
    cases q with
    | inl r =>
      obtain ⟨⟨v, p, rfl, hpr, hev⟩, rfl, rfl⟩ := hend
      exact ⟨c', u, rfl, hG.ok, hEv, ht', by simp only [endO, Out.val, hev]; exact PRel.av rfl (toPR_rel hv hpr)⟩
    | inr r =>
      obtain ⟨rfl, rfl, rfl⟩ := hend
      exact ⟨c', u, rfl, hG.ok, hEv, ht', hv⟩
theorem MethSound.join {o o' : FuncId → Option MethP} {f : FuncId} {e : MethP} (h : MethSound P glob (fun g => bif Nat.beq g f then some e else o g)) (h' : MethSound P glob o') : MethSound P glob (fun g => bif Nat.beq g f then some e else o' g) := by
  intro g e' hg
  dsimp only at hg
  cases hb : Nat.beq g f with
  | true =>
    rw [hb, cond_true] at hg
    exact h g e' (by dsimp only; rw [hb, cond_true]; exact hg)
  | false =>
    rw [hb, cond_false] at hg
    exact h' g e' hg
theorem MethSound.zero {o : FuncId → Option MethP} {f : FuncId} {α R Q : Type} {dec : List AV → List Box → List Nat → Option α} {nat : α → Option (R ⊕ Q)} {encV : R → AV} {encB : R → List Box} {encT : R → List Nat} {pay : Q → Value} {gones : List Box} (hz : ∀ a, nat a = Option.none) (h : MethSound P glob o) :
    MethSound P glob (fun g => bif Nat.beq g f then some (methP dec nat encV encB encT pay gones) else o g) := by
  intro g e hg args boxes toks v b' t' hrun
  dsimp only at hg
  cases hb : Nat.beq g f with
  | false =>
    rw [hb, cond_false] at hg
    exact h g e hg args boxes toks v b' t' hrun
  | true =>
    rw [hb, cond_true] at hg
    cases hg
    obtain ⟨a, q, h1, h3, _⟩ := methP_run hrun
    rw [hz] at h3
    cases h3
def methAt (t : Tabs) (f : FuncId) (e : MethP) : Tabs := { t with meth := fun g => bif Nat.beq g f then some e else t.meth g }
section
variable {σ β : Type} (C : Cfg) (T : Told) (Y : Yd σ)
noncomputable def preK (inl : InlP σ β) (f : FuncId) : Code → St σ → (St σ → Option β) → Option β
  | .skip, st, k => k st
  | .region id ops false, st, k => fSt (hookSt C f id st) fun st => opsK C T Y inl false [] ops.toList (ops.toList.length + 1) ops.toList st k (fun _ _ => none)
  | .seq a b, st, k => preK inl f a st fun st1 => preK inl f b st1 k
  | _, _, _ => none
noncomputable def codeDK (inl : InlP σ β) (seg : Nat → Option (SegE σ)) (f : FuncId) : Code → St σ → (Ex → St σ → FuncId → List AV → Option β) → Option β
  | .region id ops false, st, k => match splitDefer ops.toList with
    | some (pre, _, g, post) => fSt (hookSt C f id st) fun st => opsK C T Y inl false [] ops.toList (pre.length + 1) pre st (fun st1 => match operand st1.env g with
      | .func (.func fd) [] caps => opsK C T Y inl false [] ops.toList (post.length + 1) post st1 (fun st2 => k .normal st2 fd caps) (fun _ _ => none)
      | _ => none) (fun _ _ => none)
    | none => none
  | .seq a b, st, k => if hasDefer a then codeDK inl seg f a st fun ex st1 fd caps => (match ex with
      | .normal => evK C T Y inl seg f b st1 fun ex st2 => k ex st2 fd caps
      | _ => none)
    else preK C T Y inl f a st fun st1 => codeDK inl seg f b st1 k
  | _, _, _ => none
noncomputable def codeRK (inl : InlP σ β) (f : FuncId) (rv : AV) : Code → St σ → (Ex → St σ → Option β) → Option β
  | .region _ ops false, st, k => match ops.toList with
    | o :: r => match o.op with
      | .call { callee := .builtin .recover, .. } => if o.guard.isNone then (match evPlains C r { st with env := putA st.env o.dst rv } with
        | some st' => fSt st' fun st' => k .normal st'
        | none => none) else none
      | _ => none
    | [] => none
  | .seq a b, st, k => if simpleC b then codeRK inl f rv a st fun ex st1 => (match ex with
      | .normal => evK C T Y inl (fun _ => none) f b st1 k
      | _ => none) else none
  | _, _, _ => none
def recAt : Ex → Option AV
  | .normal | .ret => some (.d (.val .nilIface))
  | .panic v => some v
  | .exit _ => none
noncomputable def finDK (inl : InlP σ β) (f : FuncId) (fn : Func) (m mt : Nat) (st : St σ) (fd : FuncId) (caps : List AV) (rv : AV) (k : AV → List Box → List Nat → σ → Option β) : Option β := match C.P.funcs[fd]? with
  | some fnd => match fnd.body with
    | some cd => if enters fnd && fnd.results.isEmpty then codeRK C T Y inl fd rv cd { env := caps ++ List.replicate (fnd.ntmps - caps.length) (.tup []), boxes := st.boxes, toks := st.toks, s := st.s } fun ex st2 => (match ex with
      | .normal | .ret => match resultsA C.P st.env st2.boxes fn.results.toList with
        | some vs => if C.fin f then k (single (vs.map (gcA m mt))) ((st2.boxes.take m).map (gcBox m mt)) (st2.toks.take mt) st2.s else k (single vs) st2.boxes st2.toks st2.s
        | none => none
      | _ => none) else none
    | none => none
  | none => none
noncomputable def bodyDK (inl : InlP σ β) (seg : Nat → Option (SegE σ)) (f : FuncId) (fn : Func) (args : List AV) (boxes : List Box) (toks : List Nat) (s : σ) (k : AV → List Box → List Nat → σ → Option β) : Option β := match fn.body with
  | some c => codeDK C T Y inl seg f c { env := args ++ List.replicate (fn.ntmps - args.length) (.tup []), boxes, toks, s } fun ex st fd caps => match recAt ex with
    | some rv => finDK C T Y inl f fn boxes.length toks.length st fd caps rv k
    | none => none
  | none => none
end
section
variable {σ β : Type} {C : Cfg} {T : Told} {H : Hd} {Y : Yd σ}
theorem preK_sound {inl : InlP σ β} (hp : PureOk T H) (hI : InlPOk H Y inl) {f : FuncId} : ∀ {code : Code} {st : St σ} {k : St σ → Option β} {r : β}, preK C T Y inl f code st k = some r →
    ∃ st', evPre C H f σ Y code st = some st' ∧ k st' = some r := by
  intro code
  induction code with
  | skip => intro st k r h; exact ⟨st, rfl, h⟩
  | region id ops draw =>
    intro st k r h
    cases draw with
    | true => simp [preK] at h
    | false =>
      simp only [preK, fSt_eq] at h
      rcases opsK_sound hp hI h with ⟨st', h1, h2⟩ | ⟨u, st', _, _, h2⟩
      · exact ⟨st', by simp only [evPre, h1], h2⟩
      · cases h2
  | seq a b iha ihb =>
    intro st k r h
    simp only [preK] at h
    obtain ⟨st1, h1, h2⟩ := iha h
    obtain ⟨st2, h3, h4⟩ := ihb h2
    exact ⟨st2, by simp only [evPre, h1]; exact h3, h4⟩
  | _ => intro st k r h; simp [preK] at h
theorem codeDK_sound {inl : InlP σ β} (hp : PureOk T H) (hI : InlPOk H Y inl) {seg : Nat → Option (SegE σ)} {f : FuncId} : ∀ {code : Code} {st : St σ} {k : Ex → St σ → FuncId → List AV → Option β} {r : β}, SegsOk C H f false Y seg code → codeDK C T Y inl seg f code st k = some r →
    ∃ ex st' fd caps, evCodeD C H f C.lim σ Y code st = some (ex, st', fd, caps) ∧ k ex st' fd caps = some r := by
  intro code
  induction code with
  | region id ops draw =>
    intro st k r _ h
    cases draw with
    | true => simp [codeDK] at h
    | false =>
      simp only [codeDK, fSt_eq] at h
      split at h
      case h_2 => cases h
      rename_i pre dop g post hsp
      rcases opsK_sound hp hI h with ⟨st1, h1, h2⟩ | ⟨u, st', _, _, h2⟩
      · split at h2
        case h_2 => cases h2
        rename_i fd caps hg
        rcases opsK_sound hp hI h2 with ⟨st2, h3, h4⟩ | ⟨u, st', _, _, h4⟩
        · exact ⟨.normal, st2, fd, caps, by simp only [evCodeD, hsp, h1, hg, h3], h4⟩
        · cases h4
      · cases h2
  | seq a b iha ihb =>
    intro st k r hs h
    simp only [codeDK] at h
    split at h
    · rename_i hd
      obtain ⟨ex, st1, fd, caps, h1, h2⟩ := iha (fun p hp' => hs p (by simp [segsOf, hp'])) h
      cases ex with
      | normal =>
        obtain ⟨ex2, st2, h3, h4⟩ := evK_sound hp hI (fun p hp' => hs p (by simp [segsOf, hp'])) h2
        exact ⟨ex2, st2, fd, caps, by simp only [evCodeD, if_pos hd, h1, h3], h4⟩
      | _ => cases h2
    · rename_i hd
      obtain ⟨st1, h1, h2⟩ := preK_sound hp hI h
      obtain ⟨ex, st2, fd, caps, h3, h4⟩ := ihb (fun p hp' => hs p (by simp [segsOf, hp'])) h2
      exact ⟨ex, st2, fd, caps, by simp only [evCodeD, if_neg hd, h1]; exact h3, h4⟩
  | _ => intro st k r _ h; simp [codeDK] at h
theorem codeRK_sound {inl : InlP σ β} (hp : PureOk T H) (hI : InlPOk H Y inl) {f : FuncId} {rv : AV} : ∀ {code : Code} {st : St σ} {k : Ex → St σ → Option β} {r : β}, codeRK C T Y inl f rv code st k = some r →
    ∃ ex st', evCodeR C H f C.lim σ Y rv code st = some (ex, st') ∧ k ex st' = some r := by
  intro code
  induction code with
  | region id ops draw =>
    intro st k r h
    cases draw with
    | true => simp [codeRK] at h
    | false =>
      simp only [codeRK] at h
      split at h
      · rename_i o l hops
        split at h
        · rename_i args ats ho
          split at h
          · rename_i hg
            split at h
            · rename_i st' hst
              rw [fSt_eq] at h
              exact ⟨.normal, st', by simp only [evCodeR, hops, ho, if_pos hg, hst], h⟩
            · cases h
          · cases h
        · cases h
      · cases h
  | seq a b iha ihb =>
    intro st k r h
    simp only [codeRK] at h
    split at h
    · rename_i hs
      obtain ⟨ex, st1, h1, h2⟩ := iha h
      cases ex with
      | normal =>
        obtain ⟨ex2, st2, h3, h4⟩ := evK_sound (rnd := false) hp hI (segsOk_nil b) h2
        exact ⟨ex2, st2, by simp only [evCodeR, if_pos hs, h1, h3], h4⟩
      | _ => cases h2
    · cases h
  | _ => intro st k r h; simp [codeRK] at h
theorem bodyDK_sound {inl : InlP σ β} (hp : PureOk T H) (hI : InlPOk H Y inl) {seg : Nat → Option (SegE σ)} {f : FuncId} {fn : Func} (hs : ∀ c, fn.body = some c → SegsOk C H f false Y seg c) {args : List AV} {boxes : List Box} {toks : List Nat} {s : σ} {k : AV → List Box → List Nat → σ → Option β} {r : β}
    (h : bodyDK C T Y inl seg f fn args boxes toks s k = some r) : ∃ v b t s', evBodyD C H f C.lim fn σ Y args boxes toks s = some (.ret v, b, t, s') ∧ k v b t s' = some r := by
  unfold bodyDK at h
  split at h
  case h_2 => cases h
  rename_i c hc
  obtain ⟨ex, st, fd, caps, h1, h2⟩ := codeDK_sound hp hI (hs c hc) h
  split at h2
  case h_2 => cases h2
  rename_i rv hrv
  have key : ∃ v b t s', evFinD C H f C.lim fn σ Y boxes.length toks.length st fd caps rv = some (.ret v, b, t, s') ∧ k v b t s' = some r := by
    unfold finDK at h2
    split at h2
    case h_2 => cases h2
    rename_i fnd hfd
    split at h2
    case h_2 => cases h2
    rename_i cd hcd
    split at h2
    case isFalse => cases h2
    rename_i hen
    obtain ⟨ex2, st2, h3, h4⟩ := codeRK_sound hp hI h2
    have fin : (ex2 = .normal ∨ ex2 = .ret) → (match resultsA C.P st.env st2.boxes fn.results.toList with
        | some vs => if C.fin f then k (single (vs.map (gcA boxes.length toks.length))) ((st2.boxes.take boxes.length).map (gcBox boxes.length toks.length)) (st2.toks.take toks.length) st2.s else k (single vs) st2.boxes st2.toks st2.s
        | none => none) = some r → ∃ v b t s', evFinD C H f C.lim fn σ Y boxes.length toks.length st fd caps rv = some (.ret v, b, t, s') ∧ k v b t s' = some r := by
      intro hx h5
      split at h5
      · rename_i vs hvs
        split at h5
        · rename_i hf
          refine ⟨_, _, _, _, ?_, h5⟩
          rcases hx with rfl | rfl <;> simp only [evFinD, hfd, hcd, if_pos hen, h3, hvs, if_pos hf]
        · rename_i hf
          refine ⟨_, _, _, _, ?_, h5⟩
          rcases hx with rfl | rfl <;> simp only [evFinD, hfd, hcd, if_pos hen, h3, hvs, if_neg hf]
      · cases h5
    cases ex2 with
    | normal => exact fin (.inl rfl) h4
    | ret => exact fin (.inr rfl) h4
    | exit j => cases h4
    | panic v => cases h4
  obtain ⟨v, b, t, s', q1, q2⟩ := key
  refine ⟨v, b, t, s', ?_, q2⟩
  cases ex with
  | normal => cases hrv; simp only [evBodyD, hc, h1]; exact q1
  | ret => cases hrv; simp only [evBodyD, hc, h1]; exact q1
  | panic v => cases hrv; simp only [evBodyD, hc, h1]; exact q1
  | exit j => cases hrv
end
theorem told_fnD {t : Tabs} {tab : Tab} (h : TabOk P t.glob tab) (hm : P.follows .mixedOrders = true) (hO : OddSound P t.glob t.odd) (hM : MethSound P t.glob t.meth) {f : FuncId} {fn : Func} (hf : P.funcs[f]? = some fn) (hen : enters fn = true) (hx : look tab f = none) {α γ : Type} {dec : List D → Option α} {nat : α → Option γ} {enc : γ → PR} {args : α → List D} {res : AV → Option γ}
    {seg : Nat → Option (SegE Unit)} (hc : fn.body = some (bodyOf fn)) (hs : SegsOk (cfgOf P t tab) (evFn (cfgOf P t tab) 9) f false noY seg (bodyOf fn))
    (hdec : ∀ ds a, dec ds = some a → ds = args a) (hres : ∀ v r, res v = some r → toPR v = some (enc r))
    (hnat : ∀ a, nat a = bodyDK (cfgOf P t tab) (toldOf tab) noY (inlN (cfgOf P t tab) (toldOf tab) noY) seg f fn ((args a).map .d) [] [] () (fun v _ _ _ => res v)) :
    TabOk P t.glob ((f, mkE dec nat enc) :: tab) := by
  refine h.cons (mkE_fair dec nat enc) ?_
  intro ds p hp
  simp only [mkE] at hp
  obtain ⟨a, h1, h2⟩ := bind_some hp
  obtain ⟨r, h3, h4⟩ := bind_some h2
  cases h4
  rw [hnat] at h3
  have hf' : (cfgOf P t tab).P.funcs[f]? = some fn := hf
  have hpc : pureCall (bodyHdD (cfgOf P t tab) (evFn (cfgOf P t tab) 9)) f ds = some (enc r) := by
    obtain ⟨v, b, tk, s', q1, q2⟩ := bodyDK_sound (H := evFn (cfgOf P t tab) 9) (pureOk_of (C := cfgOf P t tab) h rfl (fun _ => rfl) 9 (by omega)) (inlN_ok (C := cfgOf P t tab) h rfl (fun _ => rfl) (N := 0) (fun n _ => noMeth (fun _ => rfl))) (fun c hc' => by rw [hc] at hc'; cases hc'; exact hs) h3
    unfold pureCall
    simp only [bodyHdD, hf', hen, if_true]
    rw [hdec ds a h1, q1]
    exact hres v r q2
  exact pureCall_sound (bodyD_sound (P := P) (glob := t.glob) (C := cfgOf P t tab) ⟨rfl, rfl, hO⟩ hm (fn_sound (P := P) (glob := t.glob) (C := cfgOf P t tab) ⟨rfl, rfl, hO⟩ hm (TabOk.ext h) hM 9)) hpc
end Ev

set_option linter.unusedSimpArgs false
set_option linter.unusedVariables false
namespace Ev
open Go
variable {P : Program} {glob : Nat → Option (List D)}
def demHd (H : Hd) : Hd := fun σ Y f args boxes toks s => match H σ Y f args boxes toks s with
  | some (.ret v, b, t, s') => (match toPR v with | some p => some (.ret p.av, b, t, s') | none => none)
  | _ => none
theorem demHd_sound {H : Hd} (h : HSound P glob H) : HSound P glob (demHd H) := by
  intro σ Y L f args boxes toks s o b t s' e
  unfold demHd at e
  split at e
  · rename_i v b1 t1 s1 hv
    split at e
    · rename_i p hp
      cases e
      obtain ⟨he, hc⟩ := h σ Y L f _ _ _ _ _ _ _ _ hv
      refine ⟨he, fun c w X us ht hd hG hA hY => Calls.mono (hc c w X us ht hd hG hA hY) ?_⟩
      rintro e' w' ⟨c', X', u, rfl, g1, g2, g3, g4⟩
      exact ⟨c', X', u, rfl, g1, g2, g3, PRel.av rfl (toPR_rel g4 hp)⟩
    · cases e
  · cases e
def EndD {α γ : Type} (encV : α → γ → AV) (encB : α → γ → List Box) (encT : α → γ → List Nat) (a : α) (v : AV) (b : List Box) (tk : List Nat) (o : γ) : Prop := (∃ p, toPR v = some p ∧ encV a o = p.av) ∧ b = encB a o ∧ tk = encT a o
theorem told_methD {t : Tabs} {tab : Tab} (h : TabOk P t.glob tab) (hm : P.follows .mixedOrders = true) (hO : OddSound P t.glob t.odd) (hM : MethSound P t.glob t.meth) {f : FuncId} {fn : Func} (hf : P.funcs[f]? = some fn) (hen : enters fn = true) {α γ : Type}
    {dec : List AV → List Box → List Nat → Option α} {nat : α → Option γ} {encV : α → γ → AV} {encB : α → γ → List Box} {encT : α → γ → List Nat} {argsOf : α → List AV} {boxOf : α → List Box} {tokOf : α → List Nat} {res : α → AV → List Box → List Nat → Option γ}
    {seg : Nat → Option (SegE Unit)} (hc : fn.body = some (bodyOf fn)) (hs : SegsOk (cfgOf P t tab) (evFn (cfgOf P t tab) 9) f false noY seg (bodyOf fn))
    (hdec : ∀ as bs ts a, dec as bs ts = some a → as = argsOf a ∧ bs = boxOf a ∧ ts = tokOf a) (hres : ∀ a v b tk o, res a v b tk = some o → EndD encV encB encT a v b tk o)
    (hnat : ∀ a, nat a = bodyDK (cfgOf P t tab) (toldOf tab) noY (inlN (cfgOf P t tab) (toldOf tab) noY) seg f fn (argsOf a) (boxOf a) (tokOf a) () (fun v b tk _ => res a v b tk)) :
    OddSound P t.glob (fun g => bif Nat.beq g f then some (methE f dec nat encV encB encT) else t.odd g) := by
  have hI : ∀ β : Type, InlOk (β := β) (demHd (bodyHdD (cfgOf P t tab) (evFn (cfgOf P t tab) 9))) noY (mInl f dec nat encV encB encT) := by
    intro β g args boxes toks s k r hr
    unfold mInl at hr
    cases hb : Nat.beq g f with
    | false => rw [hb] at hr; cases hr
    | true =>
      rw [hb, cond_true] at hr
      have hg := Nat.eq_of_beq_eq_true hb
      subst hg
      obtain ⟨a, h1, h2⟩ := bind_some hr
      obtain ⟨o, h3, h4⟩ := bind_some h2
      rw [hnat] at h3
      obtain ⟨v, b, tk, s1, q1, q2⟩ := bodyDK_sound (H := evFn (cfgOf P t tab) 9) (pureOk_of (C := cfgOf P t tab) h rfl (fun _ => rfl) 9 (by omega)) (inlN_ok (C := cfgOf P t tab) h rfl (fun _ => rfl) (N := 0) (fun n _ => noMeth (fun _ => rfl))) (fun c hc' => by rw [hc] at hc'; cases hc'; exact hs) h3
      obtain ⟨rfl, rfl, rfl⟩ := hdec _ _ _ _ h1
      obtain ⟨⟨p, hp1, hp2⟩, rfl, rfl⟩ := hres _ _ _ _ _ q2
      have hf' : (cfgOf P t tab).P.funcs[g]? = some fn := hf
      refine ⟨_, _, _, s, ?_, h4⟩
      have q1' : bodyHdD (cfgOf P t tab) (evFn (cfgOf P t tab) 9) Unit noY g (argsOf a) (boxOf a) (tokOf a) s = some (.ret v, encB a o, encT a o, s) := by
        simp only [bodyHdD, hf', hen, if_true]
        exact q1
      simp only [demHd, q1', hp1, hp2]
  intro g e hg args boxes toks v b' t' hrun
  dsimp only at hg
  cases hb : Nat.beq g f with
  | false =>
    rw [hb, cond_false] at hg
    exact hO g e hg args boxes toks v b' t' hrun
  | true =>
    rw [hb, cond_true] at hg
    cases hg
    have hgf := Nat.eq_of_beq_eq_true hb
    subst hgf
    have hrun' : lendK (mInl g dec nat encV encB encT) g args boxes toks () (fun v b t _ => some (v, b, t)) = some (v, b', t') := hrun
    obtain ⟨v0, b0, t0, s0, q1, q2⟩ := lendK_sound (hI _) hrun'
    cases q2
    have hfs : HSound P t.glob (demHd (bodyHdD (cfgOf P t tab) (evFn (cfgOf P t tab) 9))) := demHd_sound (bodyD_sound (C := cfgOf P t tab) ⟨rfl, rfl, hO⟩ hm (fn_sound (C := cfgOf P t tab) ⟨rfl, rfl, hO⟩ hm (TabOk.ext h) hM 9))
    obtain ⟨he, hp⟩ := lend_sound hfs Unit noY Held.none _ _ _ _ _ _ _ _ _ q1
    refine ⟨he, fun c w us hgl ht hW hA => ?_⟩
    refine Calls.mono (hp c w (fun _ => False) us ht ⟨hW, fun _ h => h, fun _ h => h.elim⟩ hA ⟨hgl, fun l hl => ?_⟩) ?_
    · intro ds s b s' e
      cases e
    rintro e' w' ⟨c', X', u, rfl, hG, hE, ht', hv⟩
    exact ⟨c', u, rfl, hG.ok, ⟨hE.le, hE.os, hE.tape, hE.output, hE.size, fun k hk ho => hE.keep k hk ho (fun h => h), hE.new, fun b o h0 h1 => (hE.ronew b o h0 h1).elim .inl (fun q => q.elim (fun q => q.elim) .inr), hE.dead⟩, ht', hv⟩
def pureO {α γ : Type} (dec : List D → Option α) (nat : α → Option γ) (enc : γ → PR) : OddE where
  run := fun as bs ts k => (datas as).bind fun ds => (dec ds).bind fun a => (nat a).bind fun r => k (enc r).av bs ts
  fair := by
    intro β as bs ts k r h
    obtain ⟨ds, h1, h⟩ := bind_some h
    obtain ⟨a, h2, h⟩ := bind_some h
    obtain ⟨o, h3, h⟩ := bind_some h
    exact ⟨_, _, _, by rw [h1, Option.bind_some, h2, Option.bind_some, h3, Option.bind_some], h⟩
  quiet := true
  calm := by
    intro _ as bs ts v b t h
    obtain ⟨ds, h1, h⟩ := bind_some h
    obtain ⟨a, h2, h⟩ := bind_some h
    obtain ⟨o, h3, h⟩ := bind_some h
    cases h
    exact ⟨rfl, rfl⟩
theorem OddSound.pureO {o : FuncId → Option OddE} {f : FuncId} {α γ : Type} {dec : List D → Option α} {nat : α → Option γ} {enc : γ → PR} (hs : SpecOk P glob f (fun ds => mkE dec nat enc ds some)) (hO : OddSound P glob o) :
    OddSound P glob (fun g => bif Nat.beq g f then some (Ev.pureO dec nat enc) else o g) := by
  intro g e hg args boxes toks v b' t' hrun
  dsimp only at hg
  cases hb : Nat.beq g f with
  | false =>
    rw [hb, cond_false] at hg
    exact hO g e hg args boxes toks v b' t' hrun
  | true =>
    rw [hb, cond_true] at hg
    cases hg
    have hgf := Nat.eq_of_beq_eq_true hb
    subst hgf
    obtain ⟨ds, h1, hrun⟩ := bind_some hrun
    obtain ⟨a, h2, hrun⟩ := bind_some hrun
    obtain ⟨r, h3, hrun⟩ := bind_some hrun
    cases hrun
    obtain ⟨he, hp⟩ := hs ds (enc r) (by simp only [mkE, h2, Option.bind_some, h3])
    refine ⟨he, fun c w us hgl ht hW hA => ?_⟩
    refine Calls.mono (hp c.ro w us hW.ro hgl (DArgs.of hA h1)) ?_
    rintro e' w' ⟨u, ro', rfl, hd, hl⟩
    obtain ⟨g1, g2⟩ := (good_none hW).pure hl
    exact ⟨_, u, rfl, g1.ok, evo_none g2, ht, PRel.av rfl hd⟩
def isRsb : List AV → Bool
  | .rsb .. :: _ => true
  | _ => false
def rowOr (e1 e2 : OddE) : OddE where
  run := fun as bs ts k => bif isRsb as then e1.run as bs ts k else e2.run as bs ts k
  fair := by
    intro β as bs ts k r h
    cases hb : isRsb as with
    | true => rw [hb, cond_true] at h; rw [cond_true]; exact e1.fair _ _ _ _ _ _ h
    | false => rw [hb, cond_false] at h; rw [cond_false]; exact e2.fair _ _ _ _ _ _ h
theorem OddSound.rowOr {o : FuncId → Option OddE} {f : FuncId} {e1 e2 : OddE} (h1 : OddSound P glob (fun g => bif Nat.beq g f then some e1 else o g)) (h2 : OddSound P glob (fun g => bif Nat.beq g f then some e2 else o g)) (hO : OddSound P glob o) :
    OddSound P glob (fun g => bif Nat.beq g f then some (Ev.rowOr e1 e2) else o g) := by
  intro g e hg args boxes toks v b' t' hrun
  dsimp only at hg
  cases hb : Nat.beq g f with
  | false =>
    rw [hb, cond_false] at hg
    exact hO g e hg args boxes toks v b' t' hrun
  | true =>
    rw [hb, cond_true] at hg
    cases hg
    have hrun : (bif isRsb args then e1.run args boxes toks (fun v b t => some (v, b, t)) else e2.run args boxes toks (fun v b t => some (v, b, t))) = some (v, b', t') := hrun
    cases hr : isRsb args with
    | true => rw [hr, cond_true] at hrun; exact h1 g e1 (by dsimp only; rw [hb, cond_true]) args boxes toks v b' t' hrun
    | false => rw [hr, cond_false] at hrun; exact h2 g e2 (by dsimp only; rw [hb, cond_true]) args boxes toks v b' t' hrun
end Ev

set_option linter.unusedSimpArgs false
set_option linter.unusedVariables false
namespace Ev
open Go Go.RowKit
theorem left_below' {ro : RO} {w w' : World} (h : ro.holds w) (hb : Below w.heap.size w w') : Left (fun _ => False) ro w (fun _ => False) ro w' :=
  ⟨RO.le_refl _, ⟨fun b o v e => by rw [cell_of_block (hb.block b (World.block_lt_of_cell? w ⟨b, o, none⟩ (h b o v e)))]; exact h b o v e, fun b n e => (h.whole b n e).same (hb.block b (h.whole b n e).lt), h.known, fun b n e => (h.big b n e).same (hb.block b (h.big b n e).lt)⟩, hb.os, hb.tape, hb.output, hb.size, fun k hk _ => hb.block k hk, fun _ h => h.elim, fun _ _ h0 h1 => (h1 h0).elim⟩
theorem left_owns {ro : RO} {w w' : World} (hro : ro.holds w) (hb : Below w.heap.size w w') {e : TypeId} {size : Nat} {v : Value} {n : Nat} {xs : List Value} (ho : w'.ownsRow w.heap.size e size v n xs) (hn : n ≠ 0) :
    ∃ (ro' : RO) (g cap : Nat), v = .slice (some ⟨g, 0, none⟩) n cap ∧ n ≤ cap ∧ Left (fun _ => False) ro w (fun _ => False) ro' w' ∧ ∀ (j : Nat) (x : Value), xs[j]? = some x → ro' g j = some x := by
  obtain ⟨hl, h⟩ := ho
  rcases h with ⟨_, h0⟩ | ⟨g, cap, cur, rfl, hg, hh, hc, _, hcs, hx⟩
  · exact (hn h0).elim
  have hne : ∀ b o v, ro b o = some v → b < w.heap.size := fun b o v e => World.block_lt_of_cell? w ⟨b, o, none⟩ (hro b o v e)
  have hng : ∀ b, b < w.heap.size → b ≠ g := fun b h e => by omega
  refine ⟨⟨fun b o => if b = g then xs[o]? else ro b o, ro.pin, ro.siz⟩, g, cap, rfl, hc, ⟨⟨fun b o v e => ?_, rfl, fun _ _ h => h⟩, ⟨fun b o v e => ?_, fun b n e => (hro.whole b n e).same (hb.block b (hro.whole b n e).lt), fun b n e => ⟨(hro.known b n e).1, fun o ho => ?_⟩, fun b n e => (hro.big b n e).same (hb.block b (hro.big b n e).lt)⟩, hb.os, hb.tape, hb.output, hb.size, fun k hk _ => hb.block k hk, fun _ h => h.elim, fun b o h0 h1 => ?_⟩, fun j x e => ?_⟩
  · simp only [if_neg (hng b (hne b o v e))]; exact e
  · simp only at e
    split at e
    · rename_i hbg
      subst hbg
      simp only [World.cell?, hh]
      rw [← hx, List.getElem?_take] at e
      split at e
      · simpa using e
      · cases e
    · rw [cell_of_block (hb.block b (hne b o v e))]
      exact hro b o v e
  · simp only [if_neg (hng b (hro.whole b n e).lt)]
    exact (hro.known b n e).2 o ho
  · simp only at h1
    split at h1
    · rename_i hbg; exact .inr (by omega)
    · exact (h1 h0).elim
  · simp only [if_true]; exact e
end Ev

set_option linter.unusedSimpArgs false
set_option linter.unusedVariables false
namespace Ev
open Go Go.RowKit
variable {P : Program} {glob : Nat → Option (List D)}
structure CloneOk (P : Program) (f : FuncId) (T : TypeId) : Prop where
  enters : ∀ us w, (callFunc f us).run P w = .ok (.enter f us) w
  at_ : ∀ (a : Addr) (n c : Nat) (xs : List Int) (w : World), xs.length = n → n ≤ 140737488355328 → (∀ i, i < n → w.cell? (a.add i) = some (.int .u8 (xs.getD i 0))) →
    Calls P f #[.slice (some a) n c] w fun e w' => ∃ v', e = .returned v' ∧ w'.ownsRow w.heap.size T 1 v' n (xs.map (Value.int .u8)) ∧ v' ≠ .slice none 0 0 ∧ Below w.heap.size w w'
  nil_ : ∀ (n c : Nat) (w : World), Calls P f #[.slice none n c] w fun e w' => e = .returned (.slice none 0 0) ∧ w' = w
def bytesNums (s : ByteArray) : List Int := s.data.toList.map fun x => (x.toNat : Int)
theorem bytesNums_get (s : ByteArray) {i : Nat} (hi : i < s.size) : (bytesNums s).getD i 0 = (s[i].toNat : Int) := by
  rw [List.getD_eq_getElem?_getD, bytesNums, List.getElem?_map, Array.getElem?_toList]
  have : s.data[i]? = some s[i] := getElem?_pos s.data i hi
  rw [this]; rfl
theorem clone_at {f : FuncId} {T : TypeId} (h : CloneOk P f T) {ro : RO} {w : World} (hro : ro.holds w) {A : Option Addr} {s : ByteArray} {c : Nat} (hs : s.size ≤ 140737488355328) (hA : s.size = 0 ∨ ∃ b off, A = some ⟨b, off, none⟩ ∧ ∀ (i : Nat) (hi : i < s.size), w.cell? ⟨b, off + i, none⟩ = some (.int .u8 s[i].toNat)) :
    Calls P f #[.slice A s.size c] w fun e w' => ∃ u ro', e = .returned u ∧ DRel ro' (.bytes s) u ∧ Left (fun _ => False) ro w (fun _ => False) ro' w' := by
  by_cases h0 : s.size = 0
  · cases A with
    | none =>
      refine Calls.mono (h.nil_ s.size c w) ?_
      rintro e w' ⟨rfl, rfl⟩
      refine ⟨_, ro, rfl, ?_, left_below' hro (Below.refl _ _)⟩
      simp only [DRel]
      exact ⟨none, 0, by rw [h0], by omega, .inl h0⟩
    | some a =>
      refine Calls.mono (h.at_ a s.size c [] w (by simp [h0]) (by omega) (fun i hi => by omega)) ?_
      rintro e w' ⟨v', rfl, ho, _, hbl⟩
      refine ⟨_, ro, rfl, ?_, left_below' hro hbl⟩
      simp only [DRel]
      rcases ho.2 with ⟨rfl, hn⟩ | ⟨g, cap, cur, rfl, _, _, hcap, _⟩
      · exact ⟨none, 0, by rw [h0], by omega, .inl h0⟩
      · exact ⟨some ⟨g, 0, none⟩, cap, rfl, hcap, .inl h0⟩
  · obtain ⟨b, off, rfl, hx⟩ := hA.resolve_left h0
    refine Calls.mono (h.at_ ⟨b, off, none⟩ s.size c (bytesNums s) w (by rw [bytesNums, List.length_map, Array.length_toList]; rfl) hs (fun i hi => ?_)) ?_
    · rw [show (⟨b, off, none⟩ : Addr).add i = ⟨b, off + i, none⟩ by simp [Addr.add], hx i hi, bytesNums_get s hi]
    · rintro e w' ⟨v', rfl, ho, _, hbl⟩
      obtain ⟨ro', g, cap, rfl, hcap, hL, hk⟩ := left_owns hro hbl ho h0
      refine ⟨_, ro', rfl, ?_, hL⟩
      simp only [DRel]
      refine ⟨some ⟨g, 0, none⟩, cap, rfl, hcap, .inr ⟨g, 0, rfl, fun i x hx' => ?_⟩⟩
      rw [Nat.zero_add]
      refine hk i _ ?_
      have hi : i < s.size := by
        rcases Nat.lt_or_ge i s.size with h | h
        · exact h
        · rw [getElem?_neg s i (by omega)] at hx'; cases hx'
      rw [bytesNums, List.getElem?_map, List.getElem?_map, Array.getElem?_toList]
      have h6 : s.data[i]? = some s[i] := getElem?_pos s.data i hi
      rw [getElem?_pos s i hi] at hx'
      cases hx'
      rw [h6]; rfl
def cloneOkB (b : ByteArray) : Prop := Nat.ble b.size 140737488355328 = true
instance (b : ByteArray) : Decidable (cloneOkB b) := inferInstanceAs (Decidable (_ = true))
def cloneE : OddE where
  run := fun as bs ts k => match as with
    | [.rsb i 1 off n] => match bs[i]? with
      | some (.row 1 es) => (partBytes off n es).bind fun b => ask (cloneOkB b) (k (.d (.bytes b)) bs ts)
      | _ => none
    | [x] => match x.toD with
      | some (.bytes b) => ask (cloneOkB b) (k (.d (.bytes b)) bs ts)
      | _ => none
    | _ => none
  fair := by
    intro β as bs ts k r h
    split at h
    · split at h
      · obtain ⟨b, h1, h⟩ := bind_some h
        obtain ⟨h2, h⟩ := ask_some h
        refine ⟨_, _, _, ?_, h⟩
        rw [h1, Option.bind_some]
        unfold ask
        rw [if_pos h2]
      · cases h
    · split at h
      · obtain ⟨h2, h⟩ := ask_some h
        refine ⟨_, _, _, ?_, h⟩
        unfold ask
        rw [if_pos h2]
      · cases h
    · cases h
  quiet := true
  calm := by
    intro _ as bs ts v b t h
    split at h
    · split at h
      · obtain ⟨b, h1, h⟩ := bind_some h
        obtain ⟨h2, h⟩ := ask_some h
        cases h; exact ⟨rfl, rfl⟩
      · cases h
    · split at h
      · obtain ⟨h2, h⟩ := ask_some h
        cases h; exact ⟨rfl, rfl⟩
      · cases h
    · cases h
theorem cloneE_sound {f : FuncId} {T : TypeId} (hc : CloneOk P f T) {o : FuncId → Option OddE} (hO : OddSound P glob o) : OddSound P glob (fun g => bif Nat.beq g f then some cloneE else o g) := by
  intro g e hg args boxes toks v b' t' hrun
  dsimp only at hg
  cases hb : Nat.beq g f with
  | false =>
    rw [hb, cond_false] at hg
    exact hO g e hg args boxes toks v b' t' hrun
  | true =>
    rw [hb, cond_true] at hg
    cases hg
    have hgf := Nat.eq_of_beq_eq_true hb
    subst hgf
    have fin : ∀ (b : ByteArray), cloneOkB b → v = .d (.bytes b) → b' = boxes → t' = toks → (∀ (c : Cx) (w : World) (us : List Value), WOk c boxes w → ARels c args us → ∃ A cp, us = [.slice A b.size cp] ∧ (b.size = 0 ∨ ∃ k off, A = some ⟨k, off, none⟩ ∧ ∀ (i : Nat) (hi : i < b.size), w.cell? ⟨k, off + i, none⟩ = some (.int .u8 b[i].toNat))) →
        (∀ us w, (callFunc g us).run P w = .ok (.enter g us) w) ∧ ∀ (c : Cx) (w : World) (us : List Value), GlobIn P glob c.ro → c.toks = toks → WOk c boxes w → ARels c args us → Calls P g us.toArray w (fun e w' => ∃ c' u, e = .returned u ∧ WOk c' b' w' ∧ Evo c w c' w' ∧ c'.toks = t' ∧ ARel c' v u) := by
      rintro b hs rfl rfl rfl harg
      refine ⟨hc.enters, fun c w us hgl ht hW hA => ?_⟩
      obtain ⟨A, cp, rfl, hcell⟩ := harg c w us hW hA
      refine Calls.mono (clone_at hc hW.ro (Nat.le_of_ble_eq_true hs) hcell) ?_
      rintro e' w' ⟨u, ro', rfl, hd, hl⟩
      obtain ⟨g1, g2⟩ := (good_none hW).pure hl
      exact ⟨_, u, rfl, g1.ok, evo_none g2, ht, by simp only [ARel]; exact hd⟩
    have hrun : (match args with
      | [.rsb i 1 off n] => match boxes[i]? with
        | some (.row 1 es) => (partBytes off n es).bind fun b => ask (cloneOkB b) (some (AV.d (.bytes b), boxes, toks))
        | _ => none
      | [x] => match x.toD with
        | some (.bytes b) => ask (cloneOkB b) (some (AV.d (.bytes b), boxes, toks))
        | _ => none
      | _ => none) = some (v, b', t') := hrun
    split at hrun
    · rename_i i0 off n _
      split at hrun
      · rename_i es hbx
        obtain ⟨b, h1, hrun⟩ := bind_some hrun
        obtain ⟨h2, hrun⟩ := ask_some hrun
        cases hrun
        refine fin b h2 rfl rfl rfl (fun c w us hW hA => ?_)
        obtain ⟨u, us', rfl, hu, rfl⟩ := hA
        simp only [ARel] at hu
        obtain ⟨k, cap, hk, hcap, rfl⟩ := hu
        obtain ⟨cs, et, hh, hrow⟩ := hW.box i0 _ k hbx hk
        unfold partBytes at h1
        split at h1
        case isFalse => cases h1
        rename_i hlen
        obtain ⟨t1, t2⟩ := toBytes_get h1
        have hsz : n = b.size := by rw [List.length_take, List.length_drop] at t1; omega
        refine ⟨_, cap, by rw [hsz], .inr ⟨k, off * 1, rfl, fun j hj => ?_⟩⟩
        have h7 := t2 j _ (getElem?_pos b j hj)
        rw [List.getElem?_take_of_lt (by omega), List.getElem?_drop] at h7
        obtain ⟨u, r1, r2, r3⟩ := hrow (off + j) _ h7
        simp only [DRel] at r1
        obtain ⟨rfl, _⟩ := r1
        have := r3 0 (.int .u8 (b[j]).toNat) rfl
        simp only [Nat.mul_one, Nat.add_zero] at this ⊢
        simp only [World.cell?, hh]
        exact this
      · cases hrun
    · rename_i x hnx
      split at hrun
      · rename_i b hx
        obtain ⟨h2, hrun⟩ := ask_some hrun
        cases hrun
        refine fin b h2 rfl rfl rfl (fun c w us hW hA => ?_)
        obtain ⟨u, us', rfl, hu, rfl⟩ := hA
        have hd := ARel.toD _ hu hx
        simp only [DRel] at hd
        obtain ⟨A, cp, rfl, hcp, hd⟩ := hd
        refine ⟨A, cp, rfl, ?_⟩
        rcases hd with hd | ⟨k, off, rfl, hd⟩
        · exact .inl hd
        · exact .inr ⟨k, off, rfl, fun j hj => hW.ro _ _ _ (hd j _ (getElem?_pos b j hj))⟩
      · cases hrun
    · cases hrun
end Ev
