/- What functions of the program compute, as plain Lean functions, each with its proof by a proved reader; plain laws about them (EvMe). -/
import Derived.Test.YtohmflkolmobmaaGreatDoorEvRg
import Derived.Test.YtohmflkolmobmaaGreatDoorEvSp
set_option linter.unusedSimpArgs false
set_option linter.unusedVariables false
namespace Ev
open Go
variable {P : Program} {glob : Nat → Option (List D)}
def mInl {α γ : Type} (f0 : FuncId) (dec : List AV → List Box → List Nat → Option α) (nat : α → Option γ) (encV : α → γ → AV) (encB : α → γ → List Box) (encT : α → γ → List Nat) {β : Type} : InlE Unit β :=
  fun f args boxes toks s k => bif Nat.beq f f0 then (dec args boxes toks).bind fun a => (nat a).bind fun o => k (encV a o) (encB a o) (encT a o) s else none
theorem lendK_fair {inl : {β : Type} → InlE Unit β} (hi : ∀ (β : Type) f args boxes toks s (k : AV → List Box → List Nat → Unit → Option β) r, inl f args boxes toks s k = some r → ∃ v b t, inl f args boxes toks s (fun v b t _ => some (v, b, t)) = some (v, b, t) ∧ k v b t s = some r)
    (hc : ∀ (β γ : Type) f args boxes toks s (g : AV → List Box → List Nat → Option γ) v b t, inl (β := AV × List Box × List Nat) f args boxes toks s (fun v b t _ => some (v, b, t)) = some (v, b, t) → inl f args boxes toks s (fun v b t _ => g v b t) = g v b t)
    {f : FuncId} {as : List AV} {bs : List Box} {ts : List Nat} {β : Type} {k : AV → List Box → List Nat → Option β} {r : β} (h : lendK inl f as bs ts () (fun v b t _ => k v b t) = some r) :
    ∃ v b t, lendK inl f as bs ts () (fun v b t _ => some (v, b, t)) = some (v, b, t) ∧ k v b t = some r := by
  unfold lendK at h ⊢
  dsimp only at h ⊢
  split at h
  · rename_i hl
    obtain ⟨v, b, t, h1, h2⟩ := hi _ _ _ _ _ _ _ _ h
    refine ⟨_, _, _, ?_, h2⟩
    rw [if_pos hl]
    exact hc Unit _ _ _ _ _ _ (fun v b t => some _) v b t h1
  · cases h
def methE {α γ : Type} (f0 : FuncId) (dec : List AV → List Box → List Nat → Option α) (nat : α → Option γ) (encV : α → γ → AV) (encB : α → γ → List Box) (encT : α → γ → List Nat) : OddE where
  run := fun as bs ts k => lendK (mInl f0 dec nat encV encB encT) f0 as bs ts () (fun v b t _ => k v b t)
  fair := by
    intro β as bs ts k r h
    refine lendK_fair (inl := mInl f0 dec nat encV encB encT) ?_ ?_ h
    · intro β f args boxes toks s k r h
      unfold mInl at h ⊢
      cases hb : Nat.beq f f0 with
      | false => rw [hb] at h; cases h
      | true =>
        rw [hb] at h
        rw [cond_true] at h ⊢
        obtain ⟨a, h1, h2⟩ := bind_some h
        obtain ⟨o, h3, h4⟩ := bind_some h2
        exact ⟨encV a o, encB a o, encT a o, by rw [h1, Option.bind_some, h3, Option.bind_some], h4⟩
    · intro β γ f args boxes toks s g v b t h
      unfold mInl at h ⊢
      cases hb : Nat.beq f f0 with
      | false => rw [hb] at h; cases h
      | true =>
        rw [hb] at h
        rw [cond_true] at h ⊢
        obtain ⟨a, h1, h2⟩ := bind_some h
        obtain ⟨o, h3, h4⟩ := bind_some h2
        cases h4
        rw [h1, Option.bind_some, h3, Option.bind_some]
theorem told_meth {P : Program} {t : Tabs} {tab : Tab} (h : TabOk P t.glob tab) (hm : P.follows .mixedOrders = true) (hO : OddSound P t.glob t.odd) (hM : MethSound P t.glob t.meth) {f : FuncId} {fn : Func} (hf : P.funcs[f]? = some fn) (hen : enters fn = true) (hx : look tab f = none) {α γ : Type}
    {dec : List AV → List Box → List Nat → Option α} {nat : α → Option γ} {encV : α → γ → AV} {encB : α → γ → List Box} {encT : α → γ → List Nat} {argsOf : α → List AV} {boxOf : α → List Box} {tokOf : α → List Nat} {res : α → AV → List Box → List Nat → Option γ}
    {seg : Nat → Option (SegE Unit)} (hc : fn.body = some (bodyOf fn)) (hs : SegsOk (cfgOf P t tab) (evFn (cfgOf P t tab) 9) f false noY seg (bodyOf fn))
    (hdec : ∀ as bs ts a, dec as bs ts = some a → as = argsOf a ∧ bs = boxOf a ∧ ts = tokOf a) (hres : ∀ a v b tk o, res a v b tk = some o → v = encV a o ∧ b = encB a o ∧ tk = encT a o)
    (hnat : ∀ a, nat a = bodyK (cfgOf P t tab) (toldOf tab) noY (inlN (cfgOf P t tab) (toldOf tab) noY) seg f fn (argsOf a) (boxOf a) (tokOf a) () (retK fun v b tk _ => res a v b tk)) :
    OddSound P t.glob (fun g => bif Nat.beq g f then some (methE f dec nat encV encB encT) else t.odd g) := by
  have hI : ∀ β : Type, InlOk (β := β) (bodyHd (cfgOf P t tab) (evFn (cfgOf P t tab) 9)) noY (mInl f dec nat encV encB encT) := by
    intro β g args boxes toks s k r hr
    unfold mInl at hr
    cases hb : Nat.beq g f with
    | false => rw [hb] at hr; cases hr
    | true =>
      rw [hb, cond_true] at hr
      have hg := Nat.eq_of_beq_eq_true hb
      subst hg
      obtain ⟨a, h1, h2⟩ := bind_some hr
      obtain ⟨o, h3, h4⟩ := bind_some h2
      rw [hnat] at h3
      obtain ⟨v, b, tk, s1, q1, q2⟩ := bodyK_ret (H := evFn (cfgOf P t tab) 9) (pureOk_of (C := cfgOf P t tab) h rfl (fun _ => rfl) 9 (by omega)) (inlN_ok (C := cfgOf P t tab) h rfl (fun _ => rfl) (N := 0) (fun n _ => noMeth (fun _ => rfl))) (fun c hc' => by rw [hc] at hc'; cases hc'; exact hs) h3
      obtain ⟨rfl, rfl, rfl⟩ := hdec _ _ _ _ h1
      obtain ⟨rfl, rfl, rfl⟩ := hres _ _ _ _ _ q2
      have hf' : (cfgOf P t tab).P.funcs[g]? = some fn := hf
      refine ⟨_, _, _, s, ?_, h4⟩
      simp only [bodyHd, hf', hen, if_true]
      exact q1
  intro g e hg args boxes toks v b' t' hrun
  dsimp only at hg
  cases hb : Nat.beq g f with
  | false =>
    rw [hb, cond_false] at hg
    exact hO g e hg args boxes toks v b' t' hrun
  | true =>
    rw [hb, cond_true] at hg
    cases hg
    have hgf := Nat.eq_of_beq_eq_true hb
    subst hgf
    have hrun' : lendK (mInl g dec nat encV encB encT) g args boxes toks () (fun v b t _ => some (v, b, t)) = some (v, b', t') := hrun
    obtain ⟨v0, b0, t0, s0, q1, q2⟩ := lendK_sound (hI _) hrun'
    cases q2
    have hfs : HSound P t.glob (bodyHd (cfgOf P t tab) (evFn (cfgOf P t tab) 9)) := bodyHd_sound (C := cfgOf P t tab) ⟨rfl, rfl, hO⟩ hm (fn_sound (C := cfgOf P t tab) ⟨rfl, rfl, hO⟩ hm (TabOk.ext h) hM 9)
    obtain ⟨he, hp⟩ := lend_sound hfs Unit noY Held.none _ _ _ _ _ _ _ _ _ q1
    refine ⟨he, fun c w us hgl ht hW hA => ?_⟩
    refine Calls.mono (hp c w (fun _ => False) us ht ⟨hW, fun _ h => h, fun _ h => h.elim⟩ hA ⟨hgl, fun l hl => ?_⟩) ?_
    · intro ds s b s' e
      cases e
    rintro e' w' ⟨c', X', u, rfl, hG, hE, ht', hv⟩
    exact ⟨c', u, rfl, hG.ok, ⟨hE.le, hE.os, hE.tape, hE.output, hE.size, fun k hk ho => hE.keep k hk ho (fun h => h), hE.new, fun b o h0 h1 => (hE.ronew b o h0 h1).elim .inl (fun q => q.elim (fun q => q.elim) .inr), hE.dead⟩, ht', hv⟩
theorem OddSound.join {P : Program} {glob : Nat → Option (List D)} {o o' : FuncId → Option OddE} {f : FuncId} {e : OddE} (h : OddSound P glob (fun g => bif Nat.beq g f then some e else o g)) (h' : OddSound P glob o') : OddSound P glob (fun g => bif Nat.beq g f then some e else o' g) := by
  intro g e' hg
  dsimp only at hg
  cases hb : Nat.beq g f with
  | true =>
    rw [hb, cond_true] at hg
    exact h g e' (by dsimp only; rw [hb, cond_true]; exact hg)
  | false =>
    rw [hb, cond_false] at hg
    exact h' g e' hg
def oddAt (t : Tabs) (f : FuncId) (e : OddE) : Tabs := { t with odd := fun g => bif Nat.beq g f then some e else t.odd g }
theorem told_methRec {P : Program} {t : Tabs} {tab : Tab} (h : TabOk P t.glob tab) (hm : P.follows .mixedOrders = true) (hO : OddSound P t.glob t.odd) (hM : MethSound P t.glob t.meth) {f : FuncId} {fn : Func} (hf : P.funcs[f]? = some fn) (hen : enters fn = true) (hx : look tab f = none) {α γ : Type}
    {dec : List AV → List Box → List Nat → Option α} {nat : Nat → α → Option γ} {encV : α → γ → AV} {encB : α → γ → List Box} {encT : α → γ → List Nat} {argsOf : α → List AV} {boxOf : α → List Box} {tokOf : α → List Nat} {res : α → AV → List Box → List Nat → Option γ}
    {seg : Nat → Nat → Option (SegE Unit)} (hc : fn.body = some (bodyOf fn)) (hs : ∀ k, SegsOk (cfgOf P (oddAt t f (methE f dec (nat k) encV encB encT)) tab) (evFn (cfgOf P (oddAt t f (methE f dec (nat k) encV encB encT)) tab) 9) f false noY (seg k) (bodyOf fn))
    (hdec : ∀ as bs ts a, dec as bs ts = some a → as = argsOf a ∧ bs = boxOf a ∧ ts = tokOf a) (hres : ∀ a v b tk o, res a v b tk = some o → v = encV a o ∧ b = encB a o ∧ tk = encT a o) (hz : ∀ a, nat 0 a = none)
    (hnat : ∀ k a, nat (k + 1) a = bodyK (cfgOf P (oddAt t f (methE f dec (nat k) encV encB encT)) tab) (toldOf tab) noY (inlN (cfgOf P (oddAt t f (methE f dec (nat k) encV encB encT)) tab) (toldOf tab) noY) (seg k) f fn (argsOf a) (boxOf a) (tokOf a) () (retK fun v b tk _ => res a v b tk)) :
    ∀ k, OddSound P t.glob (fun g => bif Nat.beq g f then some (methE f dec (nat k) encV encB encT) else t.odd g)
  | 0 => by
    intro g e hg args boxes toks v b' t' hrun
    dsimp only at hg
    cases hb : Nat.beq g f with
    | false =>
      rw [hb, cond_false] at hg
      exact hO g e hg args boxes toks v b' t' hrun
    | true =>
      rw [hb, cond_true] at hg
      cases hg
      exfalso
      have hrun' : lendK (mInl f dec (nat 0) encV encB encT) f args boxes toks () (fun v b t _ => some (v, b, t)) = some (v, b', t') := hrun
      unfold lendK at hrun'
      dsimp only at hrun'
      split at hrun'
      case isFalse => cases hrun'
      unfold mInl at hrun'
      obtain ⟨_, h'⟩ := cond_of hrun'
      obtain ⟨a, h1, h2⟩ := bind_some h'
      rw [hz] at h2
      cases h2
  | k + 1 => by
    have ih := told_methRec h hm hO hM hf hen hx hc hs hdec hres hz hnat k
    have := told_meth (t := oddAt t f (methE f dec (nat k) encV encB encT)) h hm ih hM hf hen hx hc (hs k) hdec hres (hnat k)
    intro g e hg
    refine this g e ?_
    dsimp only at hg ⊢
    cases hb : Nat.beq g f with
    | true => rw [hb, cond_true] at hg; rw [cond_true]; exact hg
    | false =>
      rw [hb, cond_false] at hg
      rw [cond_false]
      show (bif Nat.beq g f then _ else t.odd g) = some e
      rw [hb, cond_false]
      exact hg
mutual
theorem AV.ren_back {f g f' g' : Nat → Nat} : ∀ (x : AV), (∀ i ∈ x.refs, f' (f i) = i) → (∀ i ∈ x.tks, g' (g i) = i) → (x.ren f g).ren f' g' = x
  | .d _, _, _ | .nsl, _, _ | .ept _ _, _, _ | .gptr _ _, _, _ | .yld, _, _ | .undef, _, _ => by simp [AV.ren]
  | .osl k _, _, h => by simp [AV.ren, h k (by simp [AV.tks])]
  | .obs k _, _, h => by simp [AV.ren, h k (by simp [AV.tks])]
  | .ptr i _, h, _ => by simp [AV.ren, h i (by simp [AV.refs])]
  | .msl i _ _, h, _ => by simp [AV.ren, h i (by simp [AV.refs])]
  | .msb i _ _, h, _ => by simp [AV.ren, h i (by simp [AV.refs])]
  | .mpv i, h, _ => by simp [AV.ren, h i (by simp [AV.refs])]
  | .rsb i _ _ _, h, _ => by simp [AV.ren, h i (by simp [AV.refs])]
  | .rsl i _ _, h, _ => by simp [AV.ren, h i (by simp [AV.refs])]
  | .fsl i t _ _, h, h' => by simp [AV.ren, h i (by simp [AV.refs]), h' t (by simp [AV.tks])]
  | .rpt i _ _ _, h, _ => by simp [AV.ren, h i (by simp [AV.refs])]
  | .iter i, h, _ => by simp [AV.ren, h i (by simp [AV.refs])]
  | .func _ a b, h, k => by
    simp only [AV.ren]
    rw [renL_back a (fun i hi => h i (by simp [AV.refs, hi])) (fun i hi => k i (by simp [AV.tks, hi])), renL_back b (fun i hi => h i (by simp [AV.refs, hi])) (fun i hi => k i (by simp [AV.tks, hi]))]
  | .ifc _ x, h, k => by
    simp only [AV.ren]
    rw [AV.ren_back x (fun i hi => h i (by simpa [AV.refs] using hi)) (fun i hi => k i (by simpa [AV.tks] using hi))]
  | .agg cs, h, k => by
    simp only [AV.ren]
    rw [renL_back cs (fun i hi => h i (by simpa [AV.refs] using hi)) (fun i hi => k i (by simpa [AV.tks] using hi))]
  | .tup cs, h, k => by
    simp only [AV.ren]
    rw [renL_back cs (fun i hi => h i (by simpa [AV.refs] using hi)) (fun i hi => k i (by simpa [AV.tks] using hi))]
theorem renL_back {f g f' g' : Nat → Nat} : ∀ (xs : List AV), (∀ i ∈ refsL xs, f' (f i) = i) → (∀ i ∈ tksL xs, g' (g i) = i) → renL f' g' (renL f g xs) = xs
  | [], _, _ => rfl
  | x :: xs, h, k => by
    simp only [renL]
    rw [AV.ren_back x (fun i hi => h i (by simp [refsL, hi])) (fun i hi => k i (by simp [tksL, hi])), renL_back xs (fun i hi => h i (by simp [refsL, hi])) (fun i hi => k i (by simp [tksL, hi]))]
end
theorem Box.ren_back {f g f' g' : Nat → Nat} (x : Box) (h : ∀ i ∈ x.refs, f' (f i) = i) (k : ∀ i ∈ x.tks, g' (g i) = i) : (x.ren f g).ren f' g' = x := by
  cases x with
  | cells ty cs => simp only [Box.ren]; rw [renL_back cs h k]
  | _ => rfl
theorem backIdx_of {rs : List Nat} {n i : Nat} (h : i ∈ rs) : backIdx rs n (indexOf i rs) = i := by
  have := indexOf_get h
  obtain ⟨h1, h2⟩ := List.getElem?_eq_some_iff.1 this
  unfold backIdx
  rw [if_pos h1, List.getD_eq_getElem?_getD, this]; rfl
theorem allIn_mem {l m : List Nat} (h : allIn l m = true) {i : Nat} (hi : i ∈ l) : i ∈ m := by
  have := List.all_eq_true.1 h i hi
  simpa using this
theorem putBack_self {α : Type} {d : α} : ∀ (rs : List Nat) (l : List α), putBack l (rs.zip (rs.map fun i => l.getD i d)) = l
  | [], _ => rfl
  | i :: r, l => by
    simp only [List.map_cons, List.zip_cons_cons, putBack]
    have : l.set i (l.getD i d) = l := by
      by_cases h : i < l.length
      · apply List.ext_getElem?
        intro j
        by_cases hj : i = j
        · subst hj
          rw [List.getElem?_set_self h, List.getD_eq_getElem?_getD, List.getElem?_eq_getElem h]; rfl
        · rw [List.getElem?_set_ne hj]
      · rw [List.set_eq_of_length_le (by omega)]
    rw [this]
    exact putBack_self r l
theorem merge_self {α : Type} {d : α} (l : List α) (rs : List Nat) (keep : Bool) : merge l rs (rs.map fun i => l.getD i d) keep = l := by
  unfold merge
  rw [List.take_of_length_le (by simp), List.drop_eq_nil_of_le (by simp), putBack_self]
  cases keep <;> simp
def mCore {α γ : Type} (f0 : FuncId) (dec : List AV → List Box → List Nat → Option α) (nat : α → Option γ) (encV : γ → AV) (encB : α → γ → List Box) (encT : α → γ → List Nat) (as : List AV) (bs : List Box) (ts : List Nat) : Option (AV × List Box × List Nat) := lendK (mInl f0 dec nat (fun _ => encV) encB encT) f0 as bs ts () (fun v b t _ => some (v, b, t))
theorem mCore_bind {α γ β : Type} {f0 : FuncId} {dec : List AV → List Box → List Nat → Option α} {nat : α → Option γ} {encV : γ → AV} {encB : α → γ → List Box} {encT : α → γ → List Nat} {as : List AV} {bs : List Box} {ts : List Nat} (k : AV → List Box → List Nat → Option β) :
    lendK (mInl f0 dec nat (fun _ => encV) encB encT) f0 as bs ts () (fun v b t _ => k v b t) = (mCore f0 dec nat encV encB encT as bs ts).bind fun p => k p.1 p.2.1 p.2.2 := by
  unfold mCore lendK mInl
  dsimp only
  split
  · cases Nat.beq f0 f0 with
    | false => rfl
    | true =>
      rw [cond_true, cond_true]
      cases dec _ _ _ with
      | none => rfl
      | some a =>
        rw [Option.bind_some, Option.bind_some]
        cases nat a with
        | none => rfl
        | some o => rfl
  · rfl
theorem core_calm {α γ : Type} {f0 : FuncId} {dec : List AV → List Box → List Nat → Option α} {nat : α → Option γ} {encV : γ → AV} {encB : α → γ → List Box} {encT : α → γ → List Nat} {boxOf : α → List Box} {tokOf : α → List Nat} (hd : ∀ as bs ts a, dec as bs ts = some a → bs = boxOf a ∧ ts = tokOf a)
    (hq : ∀ a o, nat a = some o → encB a o = boxOf a ∧ encT a o = tokOf a) {as : List AV} {bs : List Box} {ts : List Nat} {v : AV} {b : List Box} {t : List Nat} (h' : mCore f0 dec nat encV encB encT as bs ts = some (v, b, t)) : b = bs ∧ t = ts := by
  unfold mCore lendK at h'
  dsimp only at h'
  split at h'
  case isFalse => cases h'
  rename_i hl
  unfold mInl at h'
  obtain ⟨_, h'⟩ := cond_of h'
  obtain ⟨a, h1, h2⟩ := bind_some h'
  obtain ⟨o, h3, h4⟩ := bind_some h2
  obtain ⟨e1, e2⟩ := hd _ _ _ _ h1
  obtain ⟨e3, e4⟩ := hq _ _ h3
  simp only [Option.some.injEq, Prod.mk.injEq] at h4
  obtain ⟨_, h5, h6⟩ := h4
  have hL := lent_of hl
  rw [e3, ← e1] at h5
  rw [e4, ← e2] at h6
  have hx : (((lentB as bs).map fun i => bs.getD i .gone).map (Box.ren (indexOf · (lentB as bs)) (indexOf · (lentT as ((lentB as bs).map fun i => bs.getD i .gone))))).map (Box.ren (backIdx (lentB as bs) bs.length) (backIdx (lentT as ((lentB as bs).map fun i => bs.getD i .gone)) ts.length)) = (lentB as bs).map fun i => bs.getD i .gone := by
    rw [List.map_map]
    conv => rhs; rw [← List.map_id ((lentB as bs).map fun i => bs.getD i .gone)]
    apply List.map_congr_left
    intro x hx
    refine Box.ren_back x (fun i hi => backIdx_of ?_) (fun i hi => backIdx_of ?_)
    · exact allIn_mem hL.br (List.mem_flatMap.2 ⟨x, hx, hi⟩)
    · exact allIn_mem hL.bt (List.mem_flatMap.2 ⟨x, hx, hi⟩)
  rw [hx] at h5
  exact ⟨by rw [← h5]; exact merge_self .., by rw [← h6]; exact merge_self ..⟩
def methR {α γ : Type} (f0 : FuncId) (dec : List AV → List Box → List Nat → Option α) (nat : α → Option γ) (encV : γ → AV) (encB : γ → List Box) (encT : γ → List Nat) : OddE where
  run := fun as bs ts k => lendK (mInl f0 dec nat (fun _ => encV) (fun _ => encB) (fun _ => encT)) f0 as bs ts () (fun v _ _ _ => k v bs ts)
  fair := by
    intro β as bs ts k r h
    have h' := (mCore_bind (f0 := f0) (dec := dec) (nat := nat) (encV := encV) (encB := fun _ => encB) (encT := fun _ => encT) (as := as) (bs := bs) (ts := ts) (fun v _ _ => k v bs ts)).symm.trans h
    obtain ⟨p, h1, h2⟩ := bind_some h'
    refine ⟨p.1, bs, ts, ?_, h2⟩
    refine (mCore_bind (fun v _ _ => some (v, bs, ts))).trans ?_
    rw [h1]; rfl
  quiet := true
  calm := by
    intro _ as bs ts v b t h
    have h' := (mCore_bind (f0 := f0) (dec := dec) (nat := nat) (encV := encV) (encB := fun _ => encB) (encT := fun _ => encT) (as := as) (bs := bs) (ts := ts) (fun v _ _ => some (v, bs, ts))).symm.trans h
    obtain ⟨p, h1, h2⟩ := bind_some h'
    cases h2
    exact ⟨rfl, rfl⟩
theorem told_methR {P : Program} {t : Tabs} {tab : Tab} (h : TabOk P t.glob tab) (hm : P.follows .mixedOrders = true) (hO : OddSound P t.glob t.odd) (hM : MethSound P t.glob t.meth) {f : FuncId} {fn : Func} (hf : P.funcs[f]? = some fn) (hen : enters fn = true) (hx : look tab f = none) {α γ : Type}
    {dec : List AV → List Box → List Nat → Option α} {nat : α → Option γ} {encV : γ → AV} {encB : γ → List Box} {encT : γ → List Nat} {argsOf : α → List AV} {boxOf : α → List Box} {tokOf : α → List Nat} {res : AV → List Box → List Nat → Option γ} (hq : ∀ a o, nat a = some o → encB o = boxOf a ∧ encT o = tokOf a)
    {seg : Nat → Option (SegE Unit)} (hc : fn.body = some (bodyOf fn)) (hs : SegsOk (cfgOf P t tab) (evFn (cfgOf P t tab) 9) f false noY seg (bodyOf fn))
    (hdec : ∀ as bs ts a, dec as bs ts = some a → as = argsOf a ∧ bs = boxOf a ∧ ts = tokOf a) (hres : ∀ v b tk o, res v b tk = some o → v = encV o ∧ b = encB o ∧ tk = encT o)
    (hnat : ∀ a, nat a = bodyK (cfgOf P t tab) (toldOf tab) noY (inlN (cfgOf P t tab) (toldOf tab) noY) seg f fn (argsOf a) (boxOf a) (tokOf a) () (retK fun v b tk _ => res v b tk)) :
    OddSound P t.glob (fun g => bif Nat.beq g f then some (methR f dec nat encV encB encT) else t.odd g) := by
  have H := told_meth h hm hO hM hf hen hx (encB := fun _ => encB) (encT := fun _ => encT) (res := fun _ => res) hc hs hdec (fun _ => hres) hnat
  intro g e hg args boxes toks v b' t' hrun
  dsimp only at hg
  cases hb : Nat.beq g f with
  | false =>
    rw [hb, cond_false] at hg
    exact hO g e hg args boxes toks v b' t' hrun
  | true =>
    rw [hb, cond_true] at hg
    cases hg
    have hgf := Nat.eq_of_beq_eq_true hb
    subst hgf
    have h' := (mCore_bind (f0 := g) (dec := dec) (nat := nat) (encV := encV) (encB := fun _ => encB) (encT := fun _ => encT) (as := args) (bs := boxes) (ts := toks) (fun v _ _ => some (v, boxes, toks))).symm.trans hrun
    obtain ⟨⟨v0, b0, t0⟩, h1, h2⟩ := bind_some h'
    cases h2
    obtain ⟨rfl, rfl⟩ := core_calm (fun as bs ts a q => (hdec as bs ts a q).2) hq h1
    exact H g (methE g dec nat (fun _ => encV) (fun _ => encB) (fun _ => encT)) (by dsimp only; rw [hb, cond_true]) args _ _ v0 _ _ h1
def Qt {γ : Type} (x : Option γ) (P : γ → Prop) : Prop := ∀ o, x = some o → P o
theorem qt_some {γ : Type} {P : γ → Prop} {v : γ} (h : P v) : Qt (some v) P := fun o e => by cases e; exact h
theorem qt_none {γ : Type} {P : γ → Prop} : Qt none P := fun o e => by cases e
theorem qt_bif {γ : Type} {P : γ → Prop} {c : Bool} {x y : Option γ} (h : Qt x P) (k : Qt y P) : Qt (bif c then x else y) P := by cases c <;> assumption
theorem qt_ask {γ : Type} {P : γ → Prop} {p : Prop} [Decidable p] {x : Option γ} (h : Qt x P) : Qt (ask p x) P := fun o e => h o (ask_some e).2
theorem qt_bind {α γ : Type} {P : γ → Prop} {x : Option α} {f : α → Option γ} (h : ∀ v, Qt (f v) P) : Qt (x.bind f) P := fun o e => by
  obtain ⟨v, _, e⟩ := bind_some e
  exact h v o e
end Ev
