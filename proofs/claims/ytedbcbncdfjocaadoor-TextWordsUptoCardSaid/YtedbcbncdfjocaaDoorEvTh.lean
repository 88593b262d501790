/- What functions of the program compute, as plain Lean functions, each with its proof by the reader (EvTh); printed by a tool of this work. -/
import Derived.Test.YtedbcbncdfjocaaDoorEvMe
set_option linter.unusedSimpArgs false
set_option linter.unusedVariables false
namespace Ev
open Go
variable {σ : Type} {P : Program} {glob : Nat → Option (List D)}
def thawV (x : AV) (rest : List D) : AV := match rest with
  | [] => x
  | r :: rs => .tup (x :: .d r :: rs.map .d)
def rowOk (z : Nat) (es : List D) : Bool := es.all flatD && es.all (fun x => x.cells.length == z) && decide (0 < z)
theorem rowOk_of {z : Nat} {es : List D} (h : rowOk z es = true) : (∀ x ∈ es, flatD x = true) ∧ (∀ x ∈ es, x.cells.length = z) ∧ 0 < z := by
  simp only [rowOk, Bool.and_eq_true, List.all_eq_true, decide_eq_true_eq, beq_iff_eq] at h
  exact ⟨h.1.1, h.1.2, h.2⟩
theorem thawV_rel {c : Cx} {x : AV} {rest : List D} {u : Value} (hf : rest.all flatD = true) (h : ARel c (thawV x rest) u) : ∃ u0, ARel c x u0 ∧ ∀ c' y, ARel c' y u0 → ARel c' (thawV y rest) u := by
  cases rest with
  | nil => exact ⟨u, h, fun c' y h' => h'⟩
  | cons r rs =>
    simp only [thawV, ARel] at h
    obtain ⟨us, rfl, h⟩ := h
    obtain ⟨u0, us', rfl, h1, h2⟩ := h
    refine ⟨u0, h1, fun c' y h' => ?_⟩
    simp only [thawV, ARel]
    refine ⟨_, rfl, u0, us', rfl, h', ?_⟩
    have : ∀ (l : List D) (vs : List Value), l.all flatD = true → ARels c (l.map .d) vs → ARels c' (l.map .d) vs := by
      intro l
      induction l with
      | nil => intro vs _ h; exact h
      | cons d l ih =>
        intro vs hl h
        simp only [List.all_cons, Bool.and_eq_true] at hl
        obtain ⟨v, vs', rfl, q1, q2⟩ := h
        refine ⟨v, vs', rfl, ?_, ih vs' hl.2 q2⟩
        simp only [ARel] at q1 ⊢
        exact flat_rel hl.1 q1
    exact this (r :: rs) us' hf h2
theorem thaw_row {H : Hd} (hH : HSound P glob H) {f : FuncId} {ds : List D} {t z : Nat} {e0 : D} {es rest : List D} {bs : List Box} {tk : List Nat} {s0 : Unit} (hv : H Unit noY f (ds.map .d) [] [] () = some (.ret (thawV (.osl t (e0 :: es)) rest), bs, tk, s0))
    (ht : tk[t]? = some (es.length + 1)) (hok : rowOk z (e0 :: es) = true) (hrf : rest.all flatD = true) :
    (∀ us w, (callFunc f us).run P w = .ok (.enter f us) w) ∧
    ∀ (L : Held σ) (s : σ) (c : Cx) (w : World) (X : Nat → Prop) (us : List Value) (boxes : List Box), Good L c boxes s X w → GlobIn P glob c.ro → DArgs c.ro ds us →
      Calls P f us.toArray w (fun e w' => ∃ c' u, e = .returned u ∧ Good L c' (boxes ++ [.row z (e0 :: es)]) s X w' ∧ EvoX X c w X c' w' ∧ c'.toks = c.toks ∧ ARel c' (thawV (.rsl boxes.length z (e0 :: es).length) rest) u) := by
  obtain ⟨hfl, hz, hpos⟩ := rowOk_of hok
  obtain ⟨h1, h2⟩ := hH Unit noY Held.none f _ _ _ _ _ _ _ _ hv
  refine ⟨h1, fun L s c w X us boxes hG hgl ha => ?_⟩
  refine Calls.mono (h2 ⟨[], [], [], c.ro, none, []⟩ w (fun _ => False) us rfl rfl ⟨⟨hG.ok.ro, rfl, by simp, by simp, by simp [Cx.has], by simp, rfl, by simp, by simp, by simp, by simp⟩, fun _ h => h.elim, fun _ h => h.elim⟩ (DArgs.to rfl ha) ⟨hgl, by simp⟩) ?_
  rintro e' w' ⟨c2, X2, u, rfl, hg, hE, htk, hv'⟩
  obtain ⟨u0, hv0, hback⟩ := thawV_rel hrf hv'
  simp only [ARel] at hv0
  rcases hv0 with ⟨b, cap, k, rfl, hcap, ⟨_, hrows⟩, n, hn, hln, hτ⟩ | ⟨hv0, _⟩
  case inr => cases hv0
  rw [htk, ht] at hn
  have hlen : (e0 :: es).length = n := by simpa using Option.some.inj hn
  have hτ := hτ hlen
  have hown : c2.owns b := .inr ⟨t, _, hτ, rfl⟩
  have hbw : w.heap.size ≤ b := by
    rcases hE.new b hown with q | q
    · simp [Cx.owns] at q
    · exact q
  obtain ⟨_, cur, el, hcur, hcsz, _⟩ := hg.ok.tok t n b cap (k, false) (by rw [htk, ht, ← hlen]; simp) hτ
  have hcb : ∀ o, c.ro b o = Option.none := fun o => ro_new hG.ok b o hbw
  have hl : Left (fun _ => False) c.ro w (fun _ => False) ⟨fun x o => if x = b then Option.none else c2.ro x o, c.ro.pin, fun x => if x = b then some (cap * k) else c2.ro.siz x⟩ w' := by
    have hpin : c2.ro.pin = c.ro.pin := hE.le.ro.pin
    have hnp : ∀ x q, c.ro.pin x = some q → x ≠ b := fun x q e e' => by rw [e', hG.ok.ro.newpin hbw] at e; cases e
    refine ⟨⟨fun x o v e => ?_, rfl, fun x q e => by
      have : x ≠ b := fun e' => by subst e'; have := (hG.ok.ro.big _ _ e).lt; omega
      simp only [if_neg this]; exact hE.le.ro.siz x q e⟩, ⟨fun x o v e => ?_, fun x q e => hg.ok.ro.whole x q (by rw [hpin]; exact e), fun x q e => ⟨(hg.ok.ro.known x q (by rw [hpin]; exact e)).1, fun o ho hz => by
      simp only [if_neg (hnp x q e)] at hz
      exact (hg.ok.ro.known x q (by rw [hpin]; exact e)).2 o ho hz⟩, fun x q e => by
      simp only at e
      split at e
      · rename_i hx; cases e; rw [hx]; exact ⟨cur, el, _, hcur, hcsz⟩
      · exact hg.ok.ro.big x q e⟩, hE.os, hE.tape, hE.output, hE.size, fun k hk _ => hE.keep k hk (by simp [Cx.owns]) (by simp), fun _ h => h.elim, fun x o h0 h1 => ?_⟩
    · have hne : x ≠ b := fun e' => by subst e'; rw [hcb o] at e; cases e
      simp only [if_neg hne]; exact hE.le.ro x o v e
    · simp only at e
      split at e
      · cases e
      · exact hg.ok.ro x o v e
    · simp only at h1
      split at h1
      · exact (h1 rfl).elim
      · rcases hE.ronew x o h0 h1 with q | q | q
        · simp [Cx.owns] at q
        · exact q.elim
        · exact .inr q
  obtain ⟨g1, g2⟩ := hG.pure hl
  have hkz : k = z := by
    obtain ⟨v, q1, q2, _⟩ := DRows.get (i := 0) (x := e0) hrows rfl
    have := DRels.length (DRel.cells q1)
    rw [hz e0 (by simp)] at this
    rw [← q2, this]; simp
  subst hkz
  have hnh : ¬ ({ c with ro := ⟨fun x o => if x = b then Option.none else c2.ro x o, c.ro.pin, fun x => if x = b then some (cap * k) else c2.ro.siz x⟩ } : Cx).has b := fun q => by
    have : b < w.heap.size := hG.ok.lt b q
    omega
  have hG2 := g1.adopt (b := b) (bx := .row k (e0 :: es)) (lt_of_cells hcur) hnh (by simp) (fun hx => by have := L.lt hG.held b hx; omega) ⟨cur, el, hcur, fun i x hx => by
    obtain ⟨v, q1, q2, q3⟩ := DRows.get hrows hx
    refine ⟨v, flat_rel (hfl x (List.mem_of_getElem? hx)) q1, q2, fun j y hj => ?_⟩
    have h4 := hg.ok.ro b _ _ (q3 j y hj)
    simp only [World.cell?, hcur] at h4
    simpa using h4⟩
  refine ⟨_, _, rfl, hG2, ⟨Cx.le_trans g2.le (Cx.le_addBox _ b), g2.os, g2.tape, g2.output, g2.size, g2.keep, fun k hk => ?_, g2.newX, g2.ronew, g2.dead⟩, rfl, ?_⟩
  · rcases hk with ⟨hk, hd⟩ | hk
    · simp only [Cx.addBox, List.mem_append, List.mem_singleton] at hk
      rcases hk with hk | rfl
      · exact .inl (.inl ⟨hk, hd⟩)
      · exact .inr hbw
    · exact .inl (.inr hk)
  · refine hback _ _ ?_
    simp only [ARel]
    exact ⟨b, cap, by simp [Cx.addBox, hG.ok.len], by simpa using hcap, by simp [Cx.addBox], by simp⟩
theorem thaw_nil {H : Hd} (hH : HSound P glob H) {f : FuncId} {ds : List D} {x : AV} {rest : List D} {bs : List Box} {tk : List Nat} {s0 : Unit} (hx : x = .nsl ∨ ∃ t, x = .osl t []) (hv : H Unit noY f (ds.map .d) [] [] () = some (.ret (thawV x rest), bs, tk, s0)) (hrf : rest.all flatD = true) :
    (∀ us w, (callFunc f us).run P w = .ok (.enter f us) w) ∧
    ∀ (L : Held σ) (s : σ) (c : Cx) (w : World) (X : Nat → Prop) (us : List Value) (boxes : List Box), Good L c boxes s X w → GlobIn P glob c.ro → DArgs c.ro ds us →
      Calls P f us.toArray w (fun e w' => ∃ c' u, e = .returned u ∧ Good L c' boxes s X w' ∧ EvoX X c w X c' w' ∧ c'.toks = c.toks ++ [0] ∧ ARel c' (thawV (.osl c.toks.length []) rest) u) := by
  obtain ⟨h1, h2⟩ := hH Unit noY Held.none f _ _ _ _ _ _ _ _ hv
  refine ⟨h1, fun L s c w X us boxes hG hgl ha => ?_⟩
  refine Calls.mono (h2 ⟨[], [], [], c.ro, none, []⟩ w (fun _ => False) us rfl rfl ⟨⟨hG.ok.ro, rfl, by simp, by simp, by simp [Cx.has], by simp, rfl, by simp, by simp, by simp, by simp⟩, fun _ h => h.elim, fun _ h => h.elim⟩ (DArgs.to rfl ha) ⟨hgl, by simp⟩) ?_
  rintro e' w' ⟨c2, X2, u, rfl, hg, hE, htk, hv'⟩
  obtain ⟨u0, hv0, hback⟩ := thawV_rel hrf hv'
  have hnil : ∃ A, u0 = .slice A 0 0 := by
    rcases hx with rfl | ⟨t, rfl⟩
    · simp only [ARel] at hv0; exact ⟨none, hv0⟩
    · simp only [ARel] at hv0
      rcases hv0 with ⟨b, cap, k, rfl, hcap, ⟨hne, _⟩, _⟩ | ⟨_, ⟨A, rfl⟩, _⟩
      · exact (hne rfl).elim
      · exact ⟨A, rfl⟩
  obtain ⟨A, rfl⟩ := hnil
  have hl : Left (fun _ => False) c.ro w (fun _ => False) c2.ro w' :=
    ⟨hE.le.ro, hg.ok.ro, hE.os, hE.tape, hE.output, hE.size, fun k hk _ => hE.keep k hk (by simp [Cx.owns]) (by simp), fun _ h => h.elim, fun x o h0 h1 => by
      rcases hE.ronew x o h0 h1 with q | q | q
      · simp [Cx.owns] at q
      · exact q.elim
      · exact .inr q⟩
  obtain ⟨g1, g2⟩ := hG.pure hl
  obtain ⟨g3, g4⟩ := g1.evo g1.ok.addNil (Evo.addNil g1.ok.tlen)
  refine ⟨_, _, rfl, g3, g2.trans g4, rfl, hback _ _ ?_⟩
  simp only [ARel]
  exact .inr ⟨by trivial, NilTok.new g1.ok.tlen A⟩
def thawN {α γ : Type} (dec : List D → Option α) (nat : α → Option γ) (row rest : γ → List D) (z : Nat) : OddE where
  run := fun as bs ts k => (datas as).bind fun ds => (dec ds).bind fun a => (nat a).bind fun o => ask (rowOk z (row o) = true) (match row o with
    | [] => k (thawV (.osl ts.length []) (rest o)) bs (ts ++ [0])
    | e :: es => k (thawV (.rsl bs.length z (e :: es).length) (rest o)) (bs ++ [.row z (e :: es)]) ts)
  fair := by
    intro β as bs ts k r h
    obtain ⟨ds, h1, h⟩ := bind_some h
    obtain ⟨a, h2, h⟩ := bind_some h
    obtain ⟨o, h3, h⟩ := bind_some h
    obtain ⟨h4, h⟩ := ask_some h
    rw [h1, Option.bind_some, h2, Option.bind_some, h3, Option.bind_some]
    unfold ask
    rw [if_pos h4]
    cases hr : row o with
    | nil => rw [hr] at h; exact ⟨_, _, _, rfl, h⟩
    | cons e es => rw [hr] at h; exact ⟨_, _, _, rfl, h⟩
def EndOk {γ : Type} (row rest : γ → List D) (v : AV) (tk : List Nat) (o : γ) : Prop := ((∃ j, v = thawV (.osl j (row o)) (rest o) ∧ tk[j]? = some (row o).length) ∨ (v = thawV .nsl (rest o) ∧ row o = [])) ∧ (rest o).all flatD = true
theorem told_run {t : Tabs} {tab : Tab} (h : TabOk P t.glob tab) {f : FuncId} {fn : Func} (hf : P.funcs[f]? = some fn) (hen : enters fn = true) (hx : look tab f = none) {α γ : Type}
    {nat : α → Option γ} {args : α → List D} {res : AV → List Nat → Option γ}
    {seg : Nat → Option (SegE Unit)} (hc : fn.body = some (bodyOf fn)) (hs : SegsOk (cfgOf P t tab) (evFn (cfgOf P t tab) 9) f false noY seg (bodyOf fn))
    (hnat : ∀ a, nat a = bodyK (cfgOf P t tab) (toldOf tab) noY (inlN (cfgOf P t tab) (toldOf tab) noY) seg f fn ((args a).map .d) [] [] () (fun v _ tk _ => res v tk)) {a : α} {o : γ} (h3 : nat a = some o) :
    ∃ v b tk s, evFn (cfgOf P t tab) 10 Unit noY f ((args a).map .d) [] [] () = some (.ret v, b, tk, s) ∧ res v tk = some o := by
  rw [hnat] at h3
  obtain ⟨v1, b1, tk, s1, q1, q2⟩ := bodyK_sound (H := evFn (cfgOf P t tab) 9) (pureOk_of (C := cfgOf P t tab) h rfl (fun _ => rfl) 9 (by omega)) (inlN_ok (C := cfgOf P t tab) h rfl (fun _ => rfl) (N := 0) (fun n _ => noMeth (fun _ => rfl))) (fun c hc' => by rw [hc] at hc'; cases hc'; exact hs) h3
  have hx' : (cfgOf P t tab).ext f = none := by
    show extOf tab f = none
    simp only [extOf, hx]
  have hf' : (cfgOf P t tab).P.funcs[f]? = some fn := hf
  refine ⟨v1, b1, tk, s1, ?_, q2⟩
  show evFn (cfgOf P t tab) (9 + 1) Unit noY f _ _ _ _ = _
  simp only [evFn, hx', hf', hen, if_true]
  exact q1
theorem good_none {c : Cx} {w : World} {boxes : List Box} (hW : WOk c boxes w) : Good Held.none c boxes () (fun _ => False) w := ⟨hW, fun _ h => h, fun _ h => h.elim⟩
theorem evo_none {c c' : Cx} {w w' : World} (hE : EvoX (fun _ => False) c w (fun _ => False) c' w') : Evo c w c' w' := ⟨hE.le, hE.os, hE.tape, hE.output, hE.size, fun k hk ho => hE.keep k hk ho (fun h => h), hE.new, fun b o h0 h1 => (hE.ronew b o h0 h1).elim .inl (fun q => q.elim (fun q => q.elim) .inr), hE.dead⟩
theorem told_thawN {t : Tabs} {tab : Tab} (h : TabOk P t.glob tab) (hm : P.follows .mixedOrders = true) (hO : OddSound P t.glob t.odd) {f : FuncId} {fn : Func} (hf : P.funcs[f]? = some fn) (hen : enters fn = true) (hx : look tab f = none) {α γ : Type}
    {dec : List D → Option α} {nat : α → Option γ} {row rest : γ → List D} {z : Nat} {args : α → List D} {res : AV → List Nat → Option γ}
    {seg : Nat → Option (SegE Unit)} (hc : fn.body = some (bodyOf fn)) (hs : SegsOk (cfgOf P t tab) (evFn (cfgOf P t tab) 9) f false noY seg (bodyOf fn))
    (hdec : ∀ ds a, dec ds = some a → ds = args a) (hres : ∀ v tk o, res v tk = some o → EndOk row rest v tk o)
    (hnat : ∀ a, nat a = bodyK (cfgOf P t tab) (toldOf tab) noY (inlN (cfgOf P t tab) (toldOf tab) noY) seg f fn ((args a).map .d) [] [] () (fun v _ tk _ => res v tk)) :
    OddSound P t.glob (fun g => bif Nat.beq g f then some (thawN dec nat row rest z) else t.odd g) := by
  intro g e hg as boxes toks v b' t' hrun
  dsimp only at hg
  cases hb : Nat.beq g f with
  | false =>
    rw [hb, cond_false] at hg
    exact hO g e hg as boxes toks v b' t' hrun
  | true =>
    rw [hb, cond_true] at hg
    cases hg
    have hgf := Nat.eq_of_beq_eq_true hb
    subst hgf
    obtain ⟨ds, h1, hrun1⟩ := bind_some (show (datas as).bind _ = some (v, b', t') from hrun)
    clear hrun
    obtain ⟨a, h2, hrun2⟩ := bind_some hrun1
    clear hrun1
    obtain ⟨o, h3, hrun⟩ := bind_some hrun2
    clear hrun2
    obtain ⟨h4, hrun3⟩ := ask_some hrun
    clear hrun
    have hrun := hrun3
    clear hrun3
    obtain ⟨v1, b1, tk, s1, hev, q2⟩ := told_run h hf hen hx hc hs hnat h3
    have hds := hdec _ _ h2
    subst hds
    obtain ⟨hends, hrf⟩ := hres _ _ _ q2
    have hfs : HSound P t.glob (evFn (cfgOf P t tab) 10) := fn_sound (C := cfgOf P t tab) ⟨rfl, rfl, hO⟩ hm (TabOk.ext h) 10
    cases hr : row o with
    | nil =>
      have hx : ∃ x, (x = .nsl ∨ ∃ t, x = .osl t []) ∧ v1 = thawV x (rest o) := by
        rcases hends with ⟨j, rfl, _⟩ | ⟨rfl, _⟩
        · rw [hr]; exact ⟨_, .inr ⟨j, rfl⟩, rfl⟩
        · exact ⟨_, .inl rfl, rfl⟩
      obtain ⟨x, hx, rfl⟩ := hx
      rw [hr] at hrun
      simp only [Option.some.injEq, Prod.mk.injEq] at hrun
      obtain ⟨rfl, rfl, rfl⟩ := hrun
      obtain ⟨he, hp⟩ := thaw_nil (σ := Unit) hfs hx hev hrf
      refine ⟨he, fun c w us hgl ht hW hA => ?_⟩
      subst ht
      refine Calls.mono (hp Held.none () c w (fun _ => False) us boxes (good_none hW) hgl (DArgs.of hA h1)) ?_
      rintro e' w' ⟨c', u, rfl, hG, hE, ht', hv⟩
      exact ⟨c', u, rfl, hG.ok, evo_none hE, ht', hv⟩
    | cons e0 es =>
      rcases hends with ⟨j, rfl, htk⟩ | ⟨_, h0⟩
      case inr => rw [hr] at h0; cases h0
      rw [hr] at hev hrun h4 htk
      simp only [Option.some.injEq, Prod.mk.injEq] at hrun
      obtain ⟨rfl, rfl, rfl⟩ := hrun
      obtain ⟨he, hp⟩ := thaw_row (σ := Unit) (z := z) hfs hev (by simpa using htk) h4 hrf
      refine ⟨he, fun c w us hgl ht hW hA => ?_⟩
      subst ht
      refine Calls.mono (hp Held.none () c w (fun _ => False) us boxes (good_none hW) hgl (DArgs.of hA h1)) ?_
      rintro e' w' ⟨c', u, rfl, hG, hE, ht', hv⟩
      exact ⟨c', u, rfl, hG.ok, evo_none hE, ht', hv⟩
end Ev
