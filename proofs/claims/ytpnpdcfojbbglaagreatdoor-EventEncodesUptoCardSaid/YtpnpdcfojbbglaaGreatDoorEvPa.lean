/- What functions of the program compute, as plain Lean functions, each with its proof by a proved reader; plain laws about them (EvPa). -/
import Derived.Test.YtpnpdcfojbbglaaGreatDoorEvMe
set_option linter.unusedSimpArgs false
set_option linter.unusedVariables false
namespace Ev
open Go
variable {σ : Type} {P : Program} {glob : Nat → Option (List D)}
def bareA : AV → Bool
  | .d _ | .nsl => true
  | .func _ [] [] => true
  | _ => false
theorem bare_to {c c' : Cx} (h : c'.ro = c.ro) : ∀ {as : List AV} {us : List Value}, as.all bareA = true → ARels c as us → ARels c' as us
  | [], _, _, hA => hA
  | x :: xs, _, hb, hA => by
    simp only [List.all_cons, Bool.and_eq_true] at hb
    obtain ⟨u, us', rfl, h1, h2⟩ := hA
    refine ⟨u, us', rfl, ?_, bare_to h hb.2 h2⟩
    have hb1 := hb.1
    unfold bareA at hb1
    split at hb1
    · simp only [ARel] at h1 ⊢; rw [h]; exact h1
    · simp only [ARel] at h1 ⊢; exact h1
    · simp only [ARel, ARels] at h1 ⊢; exact h1
    · cases hb1
theorem bare_map (ds : List D) : (ds.map AV.d).all bareA = true := by simp [bareA]
def thawV (x : AV) (rest : List D) : AV := match rest with
  | [] => x
  | r :: rs => .tup (x :: .d r :: rs.map .d)
theorem thawV_rel {c : Cx} {x : AV} {rest : List D} {u : Value} (hf : rest.all flatD = true) (h : ARel c (thawV x rest) u) : ∃ u0, ARel c x u0 ∧ ∀ c' y, ARel c' y u0 → ARel c' (thawV y rest) u := by
  cases rest with
  | nil => exact ⟨u, h, fun c' y h' => h'⟩
  | cons r rs =>
    simp only [thawV, ARel] at h
    obtain ⟨us, rfl, h⟩ := h
    obtain ⟨u0, us', rfl, h1, h2⟩ := h
    refine ⟨u0, h1, fun c' y h' => ?_⟩
    simp only [thawV, ARel]
    refine ⟨_, rfl, u0, us', rfl, h', ?_⟩
    have : ∀ (l : List D) (vs : List Value), l.all flatD = true → ARels c (l.map .d) vs → ARels c' (l.map .d) vs := by
      intro l
      induction l with
      | nil => intro vs _ h; exact h
      | cons d l ih =>
        intro vs hl h
        simp only [List.all_cons, Bool.and_eq_true] at hl
        obtain ⟨v, vs', rfl, q1, q2⟩ := h
        refine ⟨v, vs', rfl, ?_, ih vs' hl.2 q2⟩
        simp only [ARel] at q1 ⊢
        exact flat_rel hl.1 q1
    exact this (r :: rs) us' hf h2
def Cx.hasTok (c : Cx) (g cap : Nat) (z : Nat × Bool) (n : Nat) : Cx := { c with τ := c.τ ++ [some (g, cap, z)], toks := c.toks ++ [n] }
theorem hasTok_τ {c : Cx} {g cap n : Nat} {z : Nat × Bool} {t : Nat} {x : Option (Nat × Nat × Nat × Bool)} (e : (c.hasTok g cap z n).τ[t]? = some x) : c.τ[t]? = some x ∨ (t = c.τ.length ∧ x = some (g, cap, z)) := by
  simp only [Cx.hasTok] at e
  by_cases hlt : t < c.τ.length
  · rw [List.getElem?_append_left hlt] at e; exact .inl e
  · rw [List.getElem?_append_right (by omega)] at e
    have : t - c.τ.length = 0 := by
      have := (List.getElem?_eq_some_iff.1 e).1; simp at this; omega
    rw [this] at e; simp at e
    exact .inr ⟨by omega, e.symm⟩
theorem hasTok_le {c : Cx} (h : c.τ.length = c.toks.length) (g cap : Nat) (z : Nat × Bool) (n : Nat) : c.le (c.hasTok g cap z n) where
  ro := RO.le_refl _
  box := fun _ _ _ e => e
  tok := fun t m _ e => by
    have ht : t < c.toks.length := (List.getElem?_eq_some_iff.1 e).1
    refine ⟨m, ?_, Nat.le_refl _, fun _ => ?_⟩
    · simp only [id, Cx.hasTok]; rw [List.getElem?_append_left ht]; exact e
    · simp only [id, Cx.hasTok]; rw [List.getElem?_append_left (by rw [h]; exact ht)]
  l := rfl
theorem Good.adoptTok {L : Held σ} {c : Cx} {boxes : List Box} {s : σ} {X : Nat → Prop} {w : World} (h : Good L c boxes s X w) {g cap n : Nat} {z : Nat × Bool} (hb : g < w.heap.size) (hn : ¬ c.has g) (hx : ¬ X g) (ht : TokOk c w n g cap z) : Good L (c.hasTok g cap z n) boxes s X w := by
  have hle := hasTok_le h.ok.tlen g cap z n
  refine ⟨⟨h.ok.ro, h.ok.len, fun i bx k hi hk => (h.ok.box i bx k hi hk).mono hle rfl, h.ok.nodup, fun k hk => ?_, h.ok.robox, by simp [Cx.hasTok, h.ok.tlen], fun t m g' cap' z' q1 q2 => ?_, fun t t' x x' q1 q2 hne => ?_, fun t x q1 => ?_, h.ok.dead⟩, h.held, fun k hk ho => ?_⟩
  · rcases hk with hk | ⟨t, x, q, rfl⟩
    · exact h.ok.lt k (.inl hk)
    · rcases hasTok_τ q with q | ⟨_, q⟩
      · exact h.ok.lt x.1 (.inr ⟨t, x, q, rfl⟩)
      · cases q; exact hb
  · rcases hasTok_τ q2 with q2 | ⟨rfl, r2⟩
    · have htl : t < c.toks.length := by rw [← h.ok.tlen]; exact (List.getElem?_eq_some_iff.1 q2).1
      simp only [Cx.hasTok] at q1
      rw [List.getElem?_append_left htl] at q1
      exact h.ok.tok t m g' cap' z' q1 q2
    · cases r2
      have : m = n := by
        simp only [Cx.hasTok, h.ok.tlen] at q1
        rw [List.getElem?_append_right (by omega)] at q1
        simp at q1; exact q1.symm
      subst this
      exact ht
  · rcases hasTok_τ q1 with q1 | ⟨r1, q1⟩ <;> rcases hasTok_τ q2 with q2 | ⟨r2, q2⟩
    · exact h.ok.tdis t t' x x' q1 q2 hne
    · cases q2; exact fun e => hn (.inr ⟨t, x, q1, e⟩)
    · cases q1; exact fun e => hn (.inr ⟨t', x', q2, e.symm⟩)
    · omega
  · rcases hasTok_τ q1 with q1 | ⟨_, q1⟩
    · exact h.ok.tbox t x q1
    · cases q1; exact fun q => hn (.inl q)
  · rcases ho with ho | ⟨t, x, q, rfl⟩
    · exact h.apart k hk (.inl ho)
    · rcases hasTok_τ q with q | ⟨_, q⟩
      · exact h.apart x.1 hk (.inr ⟨t, x, q, rfl⟩)
      · cases q; exact hx hk
theorem len0 {e : List D} (h : e.length = 0) : AV.toD (.d (.slice e)) = some (.slice []) := by
  cases e with
  | nil => rfl
  | cons a b => cases h
theorem told_run {t : Tabs} {tab : Tab} (h : TabOk P t.glob tab) {f : FuncId} {fn : Func} (hf : P.funcs[f]? = some fn) (hen : enters fn = true) {α γ : Type}
    {nat : α → Option γ} {args : α → List AV} {res : AV → List Nat → Option γ}
    {seg : Nat → Option (SegE Unit)} (hc : fn.body = some (bodyOf fn)) (hs : SegsOk (cfgOf P t tab) (evFn (cfgOf P t tab) 9) f false noY seg (bodyOf fn))
    (hnat : ∀ a, nat a = bodyK (cfgOf P t tab) (toldOf tab) noY (inlN (cfgOf P t tab) (toldOf tab) noY) seg f fn (args a) [] [] () (retK fun v _ tk _ => res v tk)) {a : α} {o : γ} (h3 : nat a = some o) :
    ∃ v b tk s, bodyHd (cfgOf P t tab) (evFn (cfgOf P t tab) 9) Unit noY f (args a) [] [] () = some (.ret v, b, tk, s) ∧ res v tk = some o := by
  rw [hnat] at h3
  obtain ⟨v1, b1, tk, s1, q1, q2⟩ := bodyK_ret (H := evFn (cfgOf P t tab) 9) (pureOk_of (C := cfgOf P t tab) h rfl (fun _ => rfl) 9 (by omega)) (inlN_ok (C := cfgOf P t tab) h rfl (fun _ => rfl) (N := 0) (fun n _ => noMeth (fun _ => rfl))) (fun c hc' => by rw [hc] at hc'; cases hc'; exact hs) h3
  have hf' : (cfgOf P t tab).P.funcs[f]? = some fn := hf
  refine ⟨v1, b1, tk, s1, ?_, q2⟩
  simp only [bodyHd, hf', hen, if_true]
  exact q1
theorem good_none {c : Cx} {w : World} {boxes : List Box} (hW : WOk c boxes w) : Good Held.none c boxes () (fun _ => False) w := ⟨hW, fun _ h => h, fun _ h => h.elim⟩
theorem evo_none {c c' : Cx} {w w' : World} (hE : EvoX (fun _ => False) c w (fun _ => False) c' w') : Evo c w c' w' := ⟨hE.le, hE.os, hE.tape, hE.output, hE.size, fun k hk ho => hE.keep k hk ho (fun h => h), hE.new, fun b o h0 h1 => (hE.ronew b o h0 h1).elim .inl (fun q => q.elim (fun q => q.elim) .inr), hE.dead⟩
end Ev

set_option linter.unusedSimpArgs false
set_option linter.unusedVariables false
namespace Ev
open Go
variable {σ : Type} {P : Program} {glob : Nat → Option (List D)}
theorem own_bytes {H : Hd} (hH : HSound P glob H) {f : FuncId} {as : List AV} (hba : as.all bareA = true) {t : Nat} {es : ByteArray} {rest : List D} {bs : List Box} {tk : List Nat} {s0 : Unit} (hv : H Unit noY f as [] [] () = some (.ret (thawV (.obs t es) rest), bs, tk, s0))
    (ht : tk[t]? = some es.size) (hrf : rest.all flatD = true) :
    (∀ us w, (callFunc f us).run P w = .ok (.enter f us) w) ∧
    ∀ (L : Held σ) (s : σ) (c : Cx) (w : World) (X : Nat → Prop) (us : List Value) (boxes : List Box), Good L c boxes s X w → GlobIn P glob c.ro → ARels c as us →
      Calls P f us.toArray w (fun e w' => ∃ c' u, e = .returned u ∧ Good L c' boxes s X w' ∧ EvoX X c w X c' w' ∧ c'.toks = c.toks ++ [es.size] ∧ ARel c' (thawV (.obs c.toks.length es) rest) u) := by
  obtain ⟨h1, h2⟩ := hH Unit noY Held.none f _ _ _ _ _ _ _ _ hv
  refine ⟨h1, fun L s c w X us boxes hG hgl ha => ?_⟩
  refine Calls.mono (h2 ⟨[], [], [], c.ro, none, []⟩ w (fun _ => False) us rfl rfl ⟨⟨hG.ok.ro, rfl, by simp, by simp, by simp [Cx.has], by simp, rfl, by simp, by simp, by simp, by simp⟩, fun _ h => h.elim, fun _ h => h.elim⟩ (bare_to (c := c) (c' := ⟨[], [], [], c.ro, none, []⟩) rfl hba ha) ⟨hgl, by simp⟩) ?_
  rintro e' w' ⟨c2, X2, u, rfl, hg, hE, htk, hv'⟩
  obtain ⟨u0, hv0, hback⟩ := thawV_rel hrf hv'
  simp only [ARel] at hv0
  rcases hv0 with ⟨b, cap, rfl, hcap, hrows, n, hn, hln, hτ⟩ | ⟨hv0, rfl, _⟩
  case inr =>
    have hl : Left (fun _ => False) c.ro w (fun _ => False) c2.ro w' :=
      ⟨hE.le.ro, hg.ok.ro, hE.os, hE.tape, hE.output, hE.size, fun k hk _ => hE.keep k hk (by simp [Cx.owns]) (by simp), fun _ h => h.elim, fun x o h0 h1 => by
        rcases hE.ronew x o h0 h1 with q | q | q
        · simp [Cx.owns] at q
        · exact q.elim
        · exact .inr q⟩
    obtain ⟨g1, g2⟩ := hG.pure hl
    obtain ⟨g3, g4⟩ := g1.evo g1.ok.addNil (Evo.addNil g1.ok.tlen)
    refine ⟨_, _, rfl, g3, g2.trans g4, by rw [hv0]; rfl, hback _ _ ?_⟩
    simp only [ARel]
    exact .inr ⟨hv0, trivial, NilTok.new g1.ok.tlen none⟩
  rw [htk, ht] at hn
  have hlen : es.size = n := by simpa using Option.some.inj hn
  have hτ := hτ hlen
  have hown : c2.owns b := .inr ⟨t, _, hτ, rfl⟩
  have hbw : w.heap.size ≤ b := by
    rcases hE.new b hown with q | q
    · simp [Cx.owns] at q
    · exact q
  have htok := hg.ok.tok t es.size b cap (1, true) (by rw [htk, ht]) hτ
  have hl : Left (fun _ => False) c.ro w (fun _ => False) c2.ro w' :=
    ⟨hE.le.ro, hg.ok.ro, hE.os, hE.tape, hE.output, hE.size, fun k hk _ => hE.keep k hk (by simp [Cx.owns]) (by simp), fun _ h => h.elim, fun x o h0 h1 => by
      rcases hE.ronew x o h0 h1 with q | q | q
      · simp [Cx.owns] at q
      · exact q.elim
      · exact .inr q⟩
  obtain ⟨g1, g2⟩ := hG.pure hl
  have hnh : ¬ ({ c with ro := c2.ro } : Cx).has b := fun q => by
    have : b < w.heap.size := hG.ok.lt b q
    omega
  obtain ⟨t1, cur, el, t2, t3, t4⟩ := htok
  have g3 := g1.adoptTok (g := b) (cap := cap) (z := (1, true)) (n := es.size) (lt_of_cells t2) hnh (fun hx => by have := L.lt hG.held b hx; omega) ⟨t1, cur, el, t2, t3, t4⟩
  refine ⟨_, _, rfl, g3, ⟨Cx.le_trans g2.le (hasTok_le g1.ok.tlen _ _ _ _), g2.os, g2.tape, g2.output, g2.size, g2.keep, fun j hj => ?_, g2.newX, g2.ronew, g2.dead⟩, rfl, hback _ _ ?_⟩
  · rcases hj with hj | ⟨t', x, q, rfl⟩
    · exact .inl (.inl hj)
    · rcases hasTok_τ q with q | ⟨_, q⟩
      · exact .inl (.inr ⟨t', x, q, rfl⟩)
      · cases q; exact .inr hbw
  · simp only [ARel]
    refine .inl ⟨b, cap, rfl, hcap, hrows, es.size, by simp [Cx.hasTok], Nat.le_refl _, fun _ => ?_⟩
    have := g1.ok.tlen
    simp only [Cx.hasTok] at this ⊢
    rw [← this]; simp
def ownB {α γ : Type} (dec : List D → Option α) (nat : α → Option γ) (row : γ → ByteArray) (rest : γ → List D) : OddE where
  run := fun as bs ts k => (datas as).bind fun ds => (dec ds).bind fun a => (nat a).bind fun o => k (thawV (.obs ts.length (row o)) (rest o)) bs (ts ++ [(row o).size])
  fair := by
    intro β as bs ts k r h
    obtain ⟨ds, h1, h⟩ := bind_some h
    obtain ⟨a, h2, h⟩ := bind_some h
    obtain ⟨o, h3, h⟩ := bind_some h
    rw [h1, Option.bind_some, h2, Option.bind_some, h3, Option.bind_some]
    exact ⟨_, _, _, rfl, h⟩
def EndB {γ : Type} (row : γ → ByteArray) (rest : γ → List D) (v : AV) (tk : List Nat) (o : γ) : Prop := (∃ j, v = thawV (.obs j (row o)) (rest o) ∧ tk[j]? = some (row o).size) ∧ (rest o).all flatD = true
theorem told_ownB {t : Tabs} {tab : Tab} (h : TabOk P t.glob tab) (hm : P.follows .mixedOrders = true) (hO : OddSound P t.glob t.odd) (hM : MethSound P t.glob t.meth) {f : FuncId} {fn : Func} (hf : P.funcs[f]? = some fn) (hen : enters fn = true) {α γ : Type}
    {dec : List D → Option α} {nat : α → Option γ} {row : γ → ByteArray} {rest : γ → List D} {args : α → List D} {res : AV → List Nat → Option γ}
    {seg : Nat → Option (SegE Unit)} (hc : fn.body = some (bodyOf fn)) (hs : SegsOk (cfgOf P t tab) (evFn (cfgOf P t tab) 9) f false noY seg (bodyOf fn))
    (hdec : ∀ ds a, dec ds = some a → ds = args a) (hres : ∀ v tk o, res v tk = some o → EndB row rest v tk o)
    (hnat : ∀ a, nat a = bodyK (cfgOf P t tab) (toldOf tab) noY (inlN (cfgOf P t tab) (toldOf tab) noY) seg f fn ((args a).map .d) [] [] () (retK fun v _ tk _ => res v tk)) :
    OddSound P t.glob (fun g => bif Nat.beq g f then some (ownB dec nat row rest) else t.odd g) := by
  intro g e hg as boxes toks v b' t' hrun
  dsimp only at hg
  cases hb : Nat.beq g f with
  | false =>
    rw [hb, cond_false] at hg
    exact hO g e hg as boxes toks v b' t' hrun
  | true =>
    rw [hb, cond_true] at hg
    cases hg
    have hgf := Nat.eq_of_beq_eq_true hb
    subst hgf
    obtain ⟨ds, h1, hrun1⟩ := bind_some (show (datas as).bind _ = some (v, b', t') from hrun)
    clear hrun
    obtain ⟨a, h2, hrun2⟩ := bind_some hrun1
    clear hrun1
    obtain ⟨o, h3, hrun⟩ := bind_some hrun2
    clear hrun2
    obtain ⟨v1, b1, tk, s1, hev, q2⟩ := told_run (args := fun a => (args a).map AV.d) h hf hen hc hs hnat h3
    have hds := hdec _ _ h2
    subst hds
    obtain ⟨⟨j, rfl, htk⟩, hrf⟩ := hres _ _ _ q2
    have hfs : HSound P t.glob (bodyHd (cfgOf P t tab) (evFn (cfgOf P t tab) 9)) := bodyHd_sound (C := cfgOf P t tab) ⟨rfl, rfl, hO⟩ hm (fn_sound (C := cfgOf P t tab) ⟨rfl, rfl, hO⟩ hm (TabOk.ext h) hM 9)
    simp only [Option.some.injEq, Prod.mk.injEq] at hrun
    obtain ⟨rfl, rfl, rfl⟩ := hrun
    obtain ⟨he, hp⟩ := own_bytes (σ := Unit) hfs (bare_map _) hev htk hrf
    refine ⟨he, fun c w us hgl ht hW hA => ?_⟩
    subst ht
    refine Calls.mono (hp Held.none () c w (fun _ => False) us boxes (good_none hW) hgl (DArgs.to rfl (DArgs.of hA h1))) ?_
    rintro e' w' ⟨c', u, rfl, hG, hE, ht', hv⟩
    exact ⟨c', u, rfl, hG.ok, evo_none hE, ht', hv⟩
def bytesD (b : ByteArray) : List D := b.data.toList.map fun x => .val (.int .u8 x.toNat)
theorem bytesD_get (b : ByteArray) (i : Nat) : (bytesD b)[i]? = (b[i]?).map fun x => D.val (.int .u8 x.toNat) := by
  unfold bytesD
  rw [List.getElem?_map, Array.getElem?_toList]
  rfl
theorem bytesD_len (b : ByteArray) : (bytesD b).length = b.size := by
  unfold bytesD
  rw [List.length_map, Array.length_toList]
  rfl
theorem thaw_bytes {H : Hd} (hH : HSound P glob H) {f : FuncId} {as : List AV} (hba : as.all bareA = true) {t : Nat} {es : ByteArray} {rest : List D} {bs : List Box} {tk : List Nat} {s0 : Unit} (hv : H Unit noY f as [] [] () = some (.ret (thawV (.obs t es) rest), bs, tk, s0))
    (hne : es.size ≠ 0) (ht : tk[t]? = some es.size) (hrf : rest.all flatD = true) :
    (∀ us w, (callFunc f us).run P w = .ok (.enter f us) w) ∧
    ∀ (L : Held σ) (s : σ) (c : Cx) (w : World) (X : Nat → Prop) (us : List Value) (boxes : List Box), Good L c boxes s X w → GlobIn P glob c.ro → ARels c as us →
      Calls P f us.toArray w (fun e w' => ∃ c' u, e = .returned u ∧ Good L c' (boxes ++ [.row 1 (bytesD es)]) s X w' ∧ EvoX X c w X c' w' ∧ c'.toks = c.toks ∧ ARel c' (thawV (.rsl boxes.length 1 es.size) rest) u) := by
  obtain ⟨h1, h2⟩ := hH Unit noY Held.none f _ _ _ _ _ _ _ _ hv
  refine ⟨h1, fun L s c w X us boxes hG hgl ha => ?_⟩
  refine Calls.mono (h2 ⟨[], [], [], c.ro, none, []⟩ w (fun _ => False) us rfl rfl ⟨⟨hG.ok.ro, rfl, by simp, by simp, by simp [Cx.has], by simp, rfl, by simp, by simp, by simp, by simp⟩, fun _ h => h.elim, fun _ h => h.elim⟩ (bare_to (c := c) (c' := ⟨[], [], [], c.ro, none, []⟩) rfl hba ha) ⟨hgl, by simp⟩) ?_
  rintro e' w' ⟨c2, X2, u, rfl, hg, hE, htk, hv'⟩
  obtain ⟨u0, hv0, hback⟩ := thawV_rel hrf hv'
  simp only [ARel] at hv0
  rcases hv0 with ⟨b, cap, rfl, hcap, hrows, n, hn, hln, hτ⟩ | ⟨hv0, _⟩
  case inr => exact (hne hv0).elim
  rw [htk, ht] at hn
  have hlen : es.size = n := by simpa using Option.some.inj hn
  have hτ := hτ hlen
  have hown : c2.owns b := .inr ⟨t, _, hτ, rfl⟩
  have hbw : w.heap.size ≤ b := by
    rcases hE.new b hown with q | q
    · simp [Cx.owns] at q
    · exact q
  obtain ⟨_, cur, el, hcur, hcsz, _⟩ := hg.ok.tok t n b cap (1, true) (by rw [htk, ht, ← hlen]) hτ
  have hcb : ∀ o, c.ro b o = Option.none := fun o => ro_new hG.ok b o hbw
  have hl : Left (fun _ => False) c.ro w (fun _ => False) ⟨fun x o => if x = b then Option.none else c2.ro x o, c.ro.pin, fun x => if x = b then some (cap * 1) else c2.ro.siz x⟩ w' := by
    have hpin : c2.ro.pin = c.ro.pin := hE.le.ro.pin
    have hnp : ∀ x q, c.ro.pin x = some q → x ≠ b := fun x q e e' => by rw [e', hG.ok.ro.newpin hbw] at e; cases e
    refine ⟨⟨fun x o v e => ?_, rfl, fun x q e => by
      have : x ≠ b := fun e' => by subst e'; have := (hG.ok.ro.big _ _ e).lt; omega
      simp only [if_neg this]; exact hE.le.ro.siz x q e⟩, ⟨fun x o v e => ?_, fun x q e => hg.ok.ro.whole x q (by rw [hpin]; exact e), fun x q e => ⟨(hg.ok.ro.known x q (by rw [hpin]; exact e)).1, fun o ho hz => by
      simp only [if_neg (hnp x q e)] at hz
      exact (hg.ok.ro.known x q (by rw [hpin]; exact e)).2 o ho hz⟩, fun x q e => by
      simp only at e
      split at e
      · rename_i hx; cases e; rw [hx]; exact ⟨cur, el, _, hcur, hcsz⟩
      · exact hg.ok.ro.big x q e⟩, hE.os, hE.tape, hE.output, hE.size, fun k hk _ => hE.keep k hk (by simp [Cx.owns]) (by simp), fun _ h => h.elim, fun x o h0 h1 => ?_⟩
    · have hne : x ≠ b := fun e' => by subst e'; rw [hcb o] at e; cases e
      simp only [if_neg hne]; exact hE.le.ro x o v e
    · simp only at e
      split at e
      · cases e
      · exact hg.ok.ro x o v e
    · simp only at h1
      split at h1
      · exact (h1 rfl).elim
      · rcases hE.ronew x o h0 h1 with q | q | q
        · simp [Cx.owns] at q
        · exact q.elim
        · exact .inr q
  obtain ⟨g1, g2⟩ := hG.pure hl
  have hnh : ¬ ({ c with ro := ⟨fun x o => if x = b then Option.none else c2.ro x o, c.ro.pin, fun x => if x = b then some (cap * 1) else c2.ro.siz x⟩ } : Cx).has b := fun q => by
    have : b < w.heap.size := hG.ok.lt b q
    omega
  have hG2 := g1.adopt (b := b) (bx := .row 1 (bytesD es)) (lt_of_cells hcur) hnh (by simp) (fun hx => by have := L.lt hG.held b hx; omega) ⟨cur, el, hcur, fun i x hx => by
    rw [bytesD_get] at hx
    cases hb : es[i]? with
    | none => rw [hb] at hx; cases hx
    | some y =>
      rw [hb] at hx
      cases hx
      refine ⟨.int .u8 y.toNat, by simp [DRel, Value.oneCell'], rfl, fun j v hj => ?_⟩
      cases j with
      | zero =>
        have h4 := hg.ok.ro b _ _ (hrows i y hb)
        simp only [World.cell?, hcur] at h4
        have hv : v = .int .u8 y.toNat := by simpa [Value.cells] using hj.symm
        rw [hv]
        simpa using h4
      | succ j => simp [Value.cells] at hj⟩
  refine ⟨_, _, rfl, hG2, ⟨Cx.le_trans g2.le (Cx.le_addBox _ b), g2.os, g2.tape, g2.output, g2.size, g2.keep, fun k hk => ?_, g2.newX, g2.ronew, g2.dead⟩, rfl, ?_⟩
  · rcases hk with ⟨hk, hd⟩ | hk
    · simp only [Cx.addBox, List.mem_append, List.mem_singleton] at hk
      rcases hk with hk | rfl
      · exact .inl (.inl ⟨hk, hd⟩)
      · exact .inr hbw
    · exact .inl (.inr hk)
  · refine hback _ _ ?_
    simp only [ARel]
    exact ⟨b, cap, by simp [Cx.addBox, hG.ok.len], by simpa using hcap, by simp [Cx.addBox], by simp⟩
theorem thaw_plain {d : D} {H : Hd} (hH : HSound P glob H) {f : FuncId} {as : List AV} (hba : as.all bareA = true) {x : AV} {rest : List D} {bs : List Box} {tk : List Nat} {s0 : Unit} (hx : x.toD = some d) (hv : H Unit noY f as [] [] () = some (.ret (thawV x rest), bs, tk, s0)) (hrf : rest.all flatD = true) :
    (∀ us w, (callFunc f us).run P w = .ok (.enter f us) w) ∧
    ∀ (L : Held σ) (s : σ) (c : Cx) (w : World) (X : Nat → Prop) (us : List Value) (boxes : List Box), Good L c boxes s X w → GlobIn P glob c.ro → ARels c as us →
      Calls P f us.toArray w (fun e w' => ∃ c' u, e = .returned u ∧ Good L c' boxes s X w' ∧ EvoX X c w X c' w' ∧ c'.toks = c.toks ∧ ARel c' (thawV (.d d) rest) u) := by
  obtain ⟨h1, h2⟩ := hH Unit noY Held.none f _ _ _ _ _ _ _ _ hv
  refine ⟨h1, fun L s c w X us boxes hG hgl ha => ?_⟩
  refine Calls.mono (h2 ⟨[], [], [], c.ro, none, []⟩ w (fun _ => False) us rfl rfl ⟨⟨hG.ok.ro, rfl, by simp, by simp, by simp [Cx.has], by simp, rfl, by simp, by simp, by simp, by simp⟩, fun _ h => h.elim, fun _ h => h.elim⟩ (bare_to (c := c) (c' := ⟨[], [], [], c.ro, none, []⟩) rfl hba ha) ⟨hgl, by simp⟩) ?_
  rintro e' w' ⟨c2, X2, u, rfl, hg, hE, htk, hv'⟩
  obtain ⟨u0, hv0, hback⟩ := thawV_rel hrf hv'
  have hd := ARel.toD x hv0 hx
  have hl : Left (fun _ => False) c.ro w (fun _ => False) c2.ro w' :=
    ⟨hE.le.ro, hg.ok.ro, hE.os, hE.tape, hE.output, hE.size, fun k hk _ => hE.keep k hk (by simp [Cx.owns]) (by simp), fun _ h => h.elim, fun x o h0 h1 => by
      rcases hE.ronew x o h0 h1 with q | q | q
      · simp [Cx.owns] at q
      · exact q.elim
      · exact .inr q⟩
  obtain ⟨g1, g2⟩ := hG.pure hl
  exact ⟨_, _, rfl, g1, g2, rfl, hback _ _ (by simp only [ARel]; exact hd)⟩
def thawBE {α γ : Type} (dec : List D → Option α) (nat : α → Option γ) (row : γ → ByteArray) (rest : γ → List D) : OddE where
  run := fun as bs ts k => (datas as).bind fun ds => (dec ds).bind fun a => (nat a).bind fun o => bif Nat.beq (row o).size 0 then k (thawV (.d (.bytes ByteArray.empty)) (rest o)) bs ts else k (thawV (.rsl bs.length 1 (row o).size) (rest o)) (bs ++ [.row 1 (bytesD (row o))]) ts
  fair := by
    intro β as bs ts k r h
    obtain ⟨ds, h1, h⟩ := bind_some h
    obtain ⟨a, h2, h⟩ := bind_some h
    obtain ⟨o, h3, h⟩ := bind_some h
    rw [h1, Option.bind_some, h2, Option.bind_some, h3, Option.bind_some]
    cases hb : Nat.beq (row o).size 0 with
    | true => rw [hb, cond_true] at h; exact ⟨_, _, _, rfl, h⟩
    | false => rw [hb, cond_false] at h; exact ⟨_, _, _, rfl, h⟩
def EndBE {γ : Type} (row : γ → ByteArray) (rest : γ → List D) (v : AV) (tk : List Nat) (o : γ) : Prop := ((∃ j, v = thawV (.obs j (row o)) (rest o) ∧ tk[j]? = some (row o).size) ∨ (∃ x, v = thawV x (rest o) ∧ x.toD = some (.bytes ByteArray.empty) ∧ (row o).size = 0)) ∧ (rest o).all flatD = true
theorem told_thawBE {t : Tabs} {tab : Tab} (h : TabOk P t.glob tab) (hm : P.follows .mixedOrders = true) (hO : OddSound P t.glob t.odd) (hM : MethSound P t.glob t.meth) {f : FuncId} {fn : Func} (hf : P.funcs[f]? = some fn) (hen : enters fn = true) {α γ : Type}
    {dec : List D → Option α} {nat : α → Option γ} {row : γ → ByteArray} {rest : γ → List D} {args : α → List D} {res : AV → List Nat → Option γ}
    {seg : Nat → Option (SegE Unit)} (hc : fn.body = some (bodyOf fn)) (hs : SegsOk (cfgOf P t tab) (evFn (cfgOf P t tab) 9) f false noY seg (bodyOf fn))
    (hdec : ∀ ds a, dec ds = some a → ds = args a) (hres : ∀ v tk o, res v tk = some o → EndBE row rest v tk o)
    (hnat : ∀ a, nat a = bodyK (cfgOf P t tab) (toldOf tab) noY (inlN (cfgOf P t tab) (toldOf tab) noY) seg f fn ((args a).map .d) [] [] () (retK fun v _ tk _ => res v tk)) :
    OddSound P t.glob (fun g => bif Nat.beq g f then some (thawBE dec nat row rest) else t.odd g) := by
  intro g e hg as boxes toks v b' t' hrun
  dsimp only at hg
  cases hb : Nat.beq g f with
  | false =>
    rw [hb, cond_false] at hg
    exact hO g e hg as boxes toks v b' t' hrun
  | true =>
    rw [hb, cond_true] at hg
    cases hg
    have hgf := Nat.eq_of_beq_eq_true hb
    subst hgf
    obtain ⟨ds, h1, hrun1⟩ := bind_some (show (datas as).bind _ = some (v, b', t') from hrun)
    clear hrun
    obtain ⟨a, h2, hrun2⟩ := bind_some hrun1
    clear hrun1
    obtain ⟨o, h3, hrun⟩ := bind_some hrun2
    clear hrun2
    obtain ⟨v1, b1, tk, s1, hev, q2⟩ := told_run (args := fun a => (args a).map AV.d) h hf hen hc hs hnat h3
    have hds := hdec _ _ h2
    subst hds
    obtain ⟨hends, hrf⟩ := hres _ _ _ q2
    have hfs : HSound P t.glob (bodyHd (cfgOf P t tab) (evFn (cfgOf P t tab) 9)) := bodyHd_sound (C := cfgOf P t tab) ⟨rfl, rfl, hO⟩ hm (fn_sound (C := cfgOf P t tab) ⟨rfl, rfl, hO⟩ hm (TabOk.ext h) hM 9)
    cases hb0 : Nat.beq (row o).size 0 with
    | false =>
      have hne : (row o).size ≠ 0 := fun q => by rw [q] at hb0; cases hb0
      rcases hends with ⟨j, rfl, htk⟩ | ⟨_, _, _, h0⟩
      case inr => exact (hne h0).elim
      rw [hb0, cond_false] at hrun
      simp only [Option.some.injEq, Prod.mk.injEq] at hrun
      obtain ⟨rfl, rfl, rfl⟩ := hrun
      obtain ⟨he, hp⟩ := thaw_bytes (σ := Unit) hfs (bare_map _) hev hne htk hrf
      refine ⟨he, fun c w us hgl ht hW hA => ?_⟩
      subst ht
      refine Calls.mono (hp Held.none () c w (fun _ => False) us boxes (good_none hW) hgl (DArgs.to rfl (DArgs.of hA h1))) ?_
      rintro e' w' ⟨c', u, rfl, hG, hE, ht', hv⟩
      exact ⟨c', u, rfl, hG.ok, evo_none hE, ht', hv⟩
    | true =>
      have h0 : (row o).size = 0 := Nat.eq_of_beq_eq_true hb0
      have he0 : row o = ByteArray.empty := by
        generalize row o = b at h0
        cases b with
        | mk d => simp [ByteArray.size] at h0; subst h0; rfl
      rw [hb0, cond_true] at hrun
      simp only [Option.some.injEq, Prod.mk.injEq] at hrun
      obtain ⟨rfl, rfl, rfl⟩ := hrun
      obtain ⟨x, rfl, hx⟩ : ∃ x, v1 = thawV x (rest o) ∧ x.toD = some (.bytes ByteArray.empty) := by
        rcases hends with ⟨j, rfl, htk⟩ | ⟨x, rfl, hx, _⟩
        · exact ⟨_, rfl, by rw [he0]; rfl⟩
        · exact ⟨x, rfl, hx⟩
      obtain ⟨he, hp⟩ := thaw_plain (σ := Unit) hfs (bare_map _) hx hev hrf
      refine ⟨he, fun c w us hgl ht hW hA => ?_⟩
      subst ht
      refine Calls.mono (hp Held.none () c w (fun _ => False) us boxes (good_none hW) hgl (DArgs.to rfl (DArgs.of hA h1))) ?_
      rintro e' w' ⟨c', u, rfl, hG, hE, ht', hv⟩
      exact ⟨c', u, rfl, hG.ok, evo_none hE, ht', hv⟩
def nilAt (i : Nat) (as : List AV) : Bool := match as[i]? with
  | some .nsl => true
  | _ => false
def nilE (i : Nat) (e1 e2 : OddE) : OddE where
  run := fun as bs ts k => bif nilAt i as then e1.run as bs ts k else e2.run as bs ts k
  fair := by
    intro β as bs ts k r h
    cases hb : nilAt i as with
    | true => simp only [hb, cond_true] at h ⊢; exact e1.fair β as bs ts k r h
    | false => simp only [hb, cond_false] at h ⊢; exact e2.fair β as bs ts k r h
theorem OddSound.nil {o : FuncId → Option OddE} {f : FuncId} {e1 e2 : OddE} {i : Nat} (h1 : OddSound P glob (fun g => bif Nat.beq g f then some e1 else o g)) (h2 : o f = some e2) (hO : OddSound P glob o) : OddSound P glob (fun g => bif Nat.beq g f then some (nilE i e1 e2) else o g) := by
  intro g e hg as boxes toks v b' t' hrun
  dsimp only at hg
  cases hb : Nat.beq g f with
  | false =>
    rw [hb, cond_false] at hg
    exact hO g e hg as boxes toks v b' t' hrun
  | true =>
    rw [hb, cond_true] at hg
    cases hg
    have hgf := Nat.eq_of_beq_eq_true hb
    subst hgf
    have hrun' : (bif nilAt i as then e1.run as boxes toks (fun v b t => some (v, b, t)) else e2.run as boxes toks (fun v b t => some (v, b, t))) = some (v, b', t') := hrun
    cases hn : nilAt i as with
    | true =>
      rw [hn, cond_true] at hrun'
      exact h1 g e1 (by dsimp only; rw [hb, cond_true]) as boxes toks v b' t' hrun'
    | false =>
      rw [hn, cond_false] at hrun'
      exact hO g e2 h2 as boxes toks v b' t' hrun'
def nilB {α γ : Type} (dec : List AV → Option α) (nat : α → Option γ) (row : γ → ByteArray) (rest : γ → List D) : OddE where
  run := fun as bs ts k => (dec as).bind fun a => (nat a).bind fun o => k (thawV (.obs ts.length (row o)) (rest o)) bs (ts ++ [(row o).size])
  fair := by
    intro β as bs ts k r h
    obtain ⟨a, h2, h⟩ := bind_some h
    obtain ⟨o, h3, h⟩ := bind_some h
    rw [h2, Option.bind_some, h3, Option.bind_some]
    exact ⟨_, _, _, rfl, h⟩
def EndNB {γ : Type} (row : γ → ByteArray) (rest : γ → List D) (v : AV) (tk : List Nat) (o : γ) : Prop := (∃ j, v = thawV (.obs j (row o)) (rest o) ∧ tk[j]? = some (row o).size) ∧ (rest o).all flatD = true
theorem told_nilB {t : Tabs} {tab : Tab} (h : TabOk P t.glob tab) (hm : P.follows .mixedOrders = true) (hO : OddSound P t.glob t.odd) (hM : MethSound P t.glob t.meth) {f : FuncId} {fn : Func} (hf : P.funcs[f]? = some fn) (hen : enters fn = true) {α γ : Type}
    {dec : List AV → Option α} {nat : α → Option γ} {row : γ → ByteArray} {rest : γ → List D} {args : α → List AV} {res : AV → List Nat → Option γ}
    {seg : Nat → Option (SegE Unit)} (hc : fn.body = some (bodyOf fn)) (hs : SegsOk (cfgOf P t tab) (evFn (cfgOf P t tab) 9) f false noY seg (bodyOf fn))
    (hdec : ∀ as a, dec as = some a → as = args a) (hbare : ∀ a, (args a).all bareA = true) (hres : ∀ v tk o, res v tk = some o → EndNB row rest v tk o)
    (hnat : ∀ a, nat a = bodyK (cfgOf P t tab) (toldOf tab) noY (inlN (cfgOf P t tab) (toldOf tab) noY) seg f fn (args a) [] [] () (retK fun v _ tk _ => res v tk)) :
    OddSound P t.glob (fun g => bif Nat.beq g f then some (nilB dec nat row rest) else t.odd g) := by
  intro g e hg as boxes toks v b' t' hrun
  dsimp only at hg
  cases hb : Nat.beq g f with
  | false =>
    rw [hb, cond_false] at hg
    exact hO g e hg as boxes toks v b' t' hrun
  | true =>
    rw [hb, cond_true] at hg
    cases hg
    have hgf := Nat.eq_of_beq_eq_true hb
    subst hgf
    obtain ⟨a, h2, hrun2⟩ := bind_some (show (dec as).bind _ = some (v, b', t') from hrun)
    clear hrun
    obtain ⟨o, h3, hrun⟩ := bind_some hrun2
    clear hrun2
    obtain ⟨v1, b1, tk, s1, hev, q2⟩ := told_run (args := args) h hf hen hc hs hnat h3
    have hds := hdec _ _ h2
    subst hds
    obtain ⟨⟨j, rfl, htk⟩, hrf⟩ := hres _ _ _ q2
    have hfs : HSound P t.glob (bodyHd (cfgOf P t tab) (evFn (cfgOf P t tab) 9)) := bodyHd_sound (C := cfgOf P t tab) ⟨rfl, rfl, hO⟩ hm (fn_sound (C := cfgOf P t tab) ⟨rfl, rfl, hO⟩ hm (TabOk.ext h) hM 9)
    simp only [Option.some.injEq, Prod.mk.injEq] at hrun
    obtain ⟨rfl, rfl, rfl⟩ := hrun
    obtain ⟨he, hp⟩ := own_bytes (σ := Unit) hfs (hbare a) hev htk hrf
    refine ⟨he, fun c w us hgl ht hW hA => ?_⟩
    subst ht
    refine Calls.mono (hp Held.none () c w (fun _ => False) us boxes (good_none hW) hgl hA) ?_
    rintro e' w' ⟨c', u, rfl, hG, hE, ht', hv⟩
    exact ⟨c', u, rfl, hG.ok, evo_none hE, ht', hv⟩
end Ev

set_option linter.unusedSimpArgs false
set_option linter.unusedVariables false
namespace Ev
open Go
variable {P : Program} {glob : Nat → Option (List D)}
def endO {R Q : Type} (encV : R → AV) (pay : Q → Value) : R ⊕ Q → Out
  | .inl r => .ret (encV r)
  | .inr q => .panic (.d (.val (pay q)))
def endB {R Q : Type} (encB : R → List Box) (gones : List Box) : R ⊕ Q → List Box
  | .inl r => encB r
  | .inr _ => gones
def endT {R Q : Type} (encT : R → List Nat) : R ⊕ Q → List Nat
  | .inl r => encT r
  | .inr _ => []
def methP {α R Q : Type} (dec : List AV → List Box → List Nat → Option α) (nat : α → Option (R ⊕ Q)) (encV : R → AV) (encB : R → List Box) (encT : R → List Nat) (pay : Q → Value) (gones : List Box) : MethP where
  run := fun as bs ts k => (dec as bs ts).bind fun a => (nat a).bind fun o => match o with
    | .inl r => k (.ret (encV r)) (encB r) (encT r)
    | .inr q => k (.panic (.d (.val (pay q)))) gones []
  fair := by
    intro β as bs ts k r h
    obtain ⟨a, h1, h2⟩ := bind_some h
    obtain ⟨o, h3, h4⟩ := bind_some h2
    cases o with
    | inl x => exact ⟨_, _, _, by rw [h1, Option.bind_some, h3, Option.bind_some], h4⟩
    | inr x => exact ⟨_, _, _, by rw [h1, Option.bind_some, h3, Option.bind_some], h4⟩
theorem methP_run {α R Q : Type} {dec : List AV → List Box → List Nat → Option α} {nat : α → Option (R ⊕ Q)} {encV : R → AV} {encB : R → List Box} {encT : R → List Nat} {pay : Q → Value} {gones : List Box} {as : List AV} {bs : List Box} {ts : List Nat} {o : Out} {b : List Box} {t : List Nat}
    (h : (methP dec nat encV encB encT pay gones).run as bs ts (fun o b t => some (o, b, t)) = some (o, b, t)) : ∃ a r, dec as bs ts = some a ∧ nat a = some r ∧ o = endO encV pay r ∧ b = endB encB gones r ∧ t = endT encT r := by
  obtain ⟨a, h1, h2⟩ := bind_some h
  obtain ⟨r, h3, h4⟩ := bind_some h2
  refine ⟨a, r, h1, h3, ?_⟩
  cases r <;> (cases h4; exact ⟨rfl, rfl, rfl⟩)
theorem MethSound.join {o o' : FuncId → Option MethP} {f : FuncId} {e : MethP} (h : MethSound P glob (fun g => bif Nat.beq g f then some e else o g)) (h' : MethSound P glob o') : MethSound P glob (fun g => bif Nat.beq g f then some e else o' g) := by
  intro g e' hg
  dsimp only at hg
  cases hb : Nat.beq g f with
  | true =>
    rw [hb, cond_true] at hg
    exact h g e' (by dsimp only; rw [hb, cond_true]; exact hg)
  | false =>
    rw [hb, cond_false] at hg
    exact h' g e' hg
theorem MethSound.zero {o : FuncId → Option MethP} {f : FuncId} {α R Q : Type} {dec : List AV → List Box → List Nat → Option α} {nat : α → Option (R ⊕ Q)} {encV : R → AV} {encB : R → List Box} {encT : R → List Nat} {pay : Q → Value} {gones : List Box} (hz : ∀ a, nat a = Option.none) (h : MethSound P glob o) :
    MethSound P glob (fun g => bif Nat.beq g f then some (methP dec nat encV encB encT pay gones) else o g) := by
  intro g e hg args boxes toks v b' t' hrun
  dsimp only at hg
  cases hb : Nat.beq g f with
  | false =>
    rw [hb, cond_false] at hg
    exact h g e hg args boxes toks v b' t' hrun
  | true =>
    rw [hb, cond_true] at hg
    cases hg
    obtain ⟨a, q, h1, h3, _⟩ := methP_run hrun
    rw [hz] at h3
    cases h3
section
variable {σ β : Type} (C : Cfg) (T : Told) (Y : Yd σ)
end
section
variable {σ β : Type} {C : Cfg} {T : Told} {H : Hd} {Y : Yd σ}
end
end Ev
