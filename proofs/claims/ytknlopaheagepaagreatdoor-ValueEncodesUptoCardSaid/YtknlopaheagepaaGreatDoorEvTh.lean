/- What functions of the program compute, as plain Lean functions, each with its proof by a proved reader; plain laws about them (EvTh). -/
import Derived.Test.YtknlopaheagepaaGreatDoorEvMe
set_option linter.unusedSimpArgs false
set_option linter.unusedVariables false
namespace Ev
open Go
variable {σ : Type} {P : Program} {glob : Nat → Option (List D)}
def bareA : AV → Bool
  | .d _ | .nsl => true
  | _ => false
theorem bare_to {c c' : Cx} (h : c'.ro = c.ro) : ∀ {as : List AV} {us : List Value}, as.all bareA = true → ARels c as us → ARels c' as us
  | [], _, _, hA => hA
  | x :: xs, _, hb, hA => by
    simp only [List.all_cons, Bool.and_eq_true] at hb
    obtain ⟨u, us', rfl, h1, h2⟩ := hA
    refine ⟨u, us', rfl, ?_, bare_to h hb.2 h2⟩
    cases x <;> first | (cases hb.1; done) | skip
    · simp only [ARel] at h1 ⊢; rw [h]; exact h1
    · simp only [ARel] at h1 ⊢; exact h1
theorem bare_map (ds : List D) : (ds.map AV.d).all bareA = true := by simp [bareA]
def thawV (x : AV) (rest : List D) : AV := match rest with
  | [] => x
  | r :: rs => .tup (x :: .d r :: rs.map .d)
theorem thawV_rel {c : Cx} {x : AV} {rest : List D} {u : Value} (hf : rest.all flatD = true) (h : ARel c (thawV x rest) u) : ∃ u0, ARel c x u0 ∧ ∀ c' y, ARel c' y u0 → ARel c' (thawV y rest) u := by
  cases rest with
  | nil => exact ⟨u, h, fun c' y h' => h'⟩
  | cons r rs =>
    simp only [thawV, ARel] at h
    obtain ⟨us, rfl, h⟩ := h
    obtain ⟨u0, us', rfl, h1, h2⟩ := h
    refine ⟨u0, h1, fun c' y h' => ?_⟩
    simp only [thawV, ARel]
    refine ⟨_, rfl, u0, us', rfl, h', ?_⟩
    have : ∀ (l : List D) (vs : List Value), l.all flatD = true → ARels c (l.map .d) vs → ARels c' (l.map .d) vs := by
      intro l
      induction l with
      | nil => intro vs _ h; exact h
      | cons d l ih =>
        intro vs hl h
        simp only [List.all_cons, Bool.and_eq_true] at hl
        obtain ⟨v, vs', rfl, q1, q2⟩ := h
        refine ⟨v, vs', rfl, ?_, ih vs' hl.2 q2⟩
        simp only [ARel] at q1 ⊢
        exact flat_rel hl.1 q1
    exact this (r :: rs) us' hf h2
theorem thaw_nil {H : Hd} (hH : HSound P glob H) {f : FuncId} {as : List AV} (hba : as.all bareA = true) {x : AV} {rest : List D} {bs : List Box} {tk : List Nat} {s0 : Unit} (hx : x = .nsl ∨ ∃ t, x = .osl t []) (hv : H Unit noY f as [] [] () = some (.ret (thawV x rest), bs, tk, s0)) (hrf : rest.all flatD = true) :
    (∀ us w, (callFunc f us).run P w = .ok (.enter f us) w) ∧
    ∀ (L : Held σ) (s : σ) (c : Cx) (w : World) (X : Nat → Prop) (us : List Value) (boxes : List Box), Good L c boxes s X w → GlobIn P glob c.ro → ARels c as us →
      Calls P f us.toArray w (fun e w' => ∃ c' u, e = .returned u ∧ Good L c' boxes s X w' ∧ EvoX X c w X c' w' ∧ c'.toks = c.toks ++ [0] ∧ ARel c' (thawV (.osl c.toks.length []) rest) u) := by
  obtain ⟨h1, h2⟩ := hH Unit noY Held.none f _ _ _ _ _ _ _ _ hv
  refine ⟨h1, fun L s c w X us boxes hG hgl ha => ?_⟩
  refine Calls.mono (h2 ⟨[], [], [], c.ro, none, []⟩ w (fun _ => False) us rfl rfl ⟨⟨hG.ok.ro, rfl, by simp, by simp, by simp [Cx.has], by simp, rfl, by simp, by simp, by simp, by simp⟩, fun _ h => h.elim, fun _ h => h.elim⟩ (bare_to (c := c) (c' := ⟨[], [], [], c.ro, none, []⟩) rfl hba ha) ⟨hgl, by simp⟩) ?_
  rintro e' w' ⟨c2, X2, u, rfl, hg, hE, htk, hv'⟩
  obtain ⟨u0, hv0, hback⟩ := thawV_rel hrf hv'
  have hnil : ∃ A, u0 = .slice A 0 0 := by
    rcases hx with rfl | ⟨t, rfl⟩
    · simp only [ARel] at hv0; exact ⟨none, hv0⟩
    · simp only [ARel] at hv0
      rcases hv0 with ⟨b, cap, k, rfl, hcap, ⟨hne, _⟩, _⟩ | ⟨_, ⟨A, rfl⟩, _⟩
      · exact (hne rfl).elim
      · exact ⟨A, rfl⟩
  obtain ⟨A, rfl⟩ := hnil
  have hl : Left (fun _ => False) c.ro w (fun _ => False) c2.ro w' :=
    ⟨hE.le.ro, hg.ok.ro, hE.os, hE.tape, hE.output, hE.size, fun k hk _ => hE.keep k hk (by simp [Cx.owns]) (by simp), fun _ h => h.elim, fun x o h0 h1 => by
      rcases hE.ronew x o h0 h1 with q | q | q
      · simp [Cx.owns] at q
      · exact q.elim
      · exact .inr q⟩
  obtain ⟨g1, g2⟩ := hG.pure hl
  obtain ⟨g3, g4⟩ := g1.evo g1.ok.addNil (Evo.addNil g1.ok.tlen)
  refine ⟨_, _, rfl, g3, g2.trans g4, rfl, hback _ _ ?_⟩
  simp only [ARel]
  exact .inr ⟨by trivial, NilTok.new g1.ok.tlen A⟩
def Cx.hasTok (c : Cx) (g cap : Nat) (z : Nat × Bool) (n : Nat) : Cx := { c with τ := c.τ ++ [some (g, cap, z)], toks := c.toks ++ [n] }
theorem hasTok_τ {c : Cx} {g cap n : Nat} {z : Nat × Bool} {t : Nat} {x : Option (Nat × Nat × Nat × Bool)} (e : (c.hasTok g cap z n).τ[t]? = some x) : c.τ[t]? = some x ∨ (t = c.τ.length ∧ x = some (g, cap, z)) := by
  simp only [Cx.hasTok] at e
  by_cases hlt : t < c.τ.length
  · rw [List.getElem?_append_left hlt] at e; exact .inl e
  · rw [List.getElem?_append_right (by omega)] at e
    have : t - c.τ.length = 0 := by
      have := (List.getElem?_eq_some_iff.1 e).1; simp at this; omega
    rw [this] at e; simp at e
    exact .inr ⟨by omega, e.symm⟩
theorem hasTok_le {c : Cx} (h : c.τ.length = c.toks.length) (g cap : Nat) (z : Nat × Bool) (n : Nat) : c.le (c.hasTok g cap z n) where
  ro := RO.le_refl _
  box := fun _ _ _ e => e
  tok := fun t m _ e => by
    have ht : t < c.toks.length := (List.getElem?_eq_some_iff.1 e).1
    refine ⟨m, ?_, Nat.le_refl _, fun _ => ?_⟩
    · simp only [id, Cx.hasTok]; rw [List.getElem?_append_left ht]; exact e
    · simp only [id, Cx.hasTok]; rw [List.getElem?_append_left (by rw [h]; exact ht)]
  l := rfl
theorem Good.adoptTok {L : Held σ} {c : Cx} {boxes : List Box} {s : σ} {X : Nat → Prop} {w : World} (h : Good L c boxes s X w) {g cap n : Nat} {z : Nat × Bool} (hb : g < w.heap.size) (hn : ¬ c.has g) (hx : ¬ X g) (ht : TokOk c w n g cap z) : Good L (c.hasTok g cap z n) boxes s X w := by
  have hle := hasTok_le h.ok.tlen g cap z n
  refine ⟨⟨h.ok.ro, h.ok.len, fun i bx k hi hk => (h.ok.box i bx k hi hk).mono hle rfl, h.ok.nodup, fun k hk => ?_, h.ok.robox, by simp [Cx.hasTok, h.ok.tlen], fun t m g' cap' z' q1 q2 => ?_, fun t t' x x' q1 q2 hne => ?_, fun t x q1 => ?_, h.ok.dead⟩, h.held, fun k hk ho => ?_⟩
  · rcases hk with hk | ⟨t, x, q, rfl⟩
    · exact h.ok.lt k (.inl hk)
    · rcases hasTok_τ q with q | ⟨_, q⟩
      · exact h.ok.lt x.1 (.inr ⟨t, x, q, rfl⟩)
      · cases q; exact hb
  · rcases hasTok_τ q2 with q2 | ⟨rfl, r2⟩
    · have htl : t < c.toks.length := by rw [← h.ok.tlen]; exact (List.getElem?_eq_some_iff.1 q2).1
      simp only [Cx.hasTok] at q1
      rw [List.getElem?_append_left htl] at q1
      exact h.ok.tok t m g' cap' z' q1 q2
    · cases r2
      have : m = n := by
        simp only [Cx.hasTok, h.ok.tlen] at q1
        rw [List.getElem?_append_right (by omega)] at q1
        simp at q1; exact q1.symm
      subst this
      exact ht
  · rcases hasTok_τ q1 with q1 | ⟨r1, q1⟩ <;> rcases hasTok_τ q2 with q2 | ⟨r2, q2⟩
    · exact h.ok.tdis t t' x x' q1 q2 hne
    · cases q2; exact fun e => hn (.inr ⟨t, x, q1, e⟩)
    · cases q1; exact fun e => hn (.inr ⟨t', x', q2, e.symm⟩)
    · omega
  · rcases hasTok_τ q1 with q1 | ⟨_, q1⟩
    · exact h.ok.tbox t x q1
    · cases q1; exact fun q => hn (.inl q)
  · rcases ho with ho | ⟨t, x, q, rfl⟩
    · exact h.apart k hk (.inl ho)
    · rcases hasTok_τ q with q | ⟨_, q⟩
      · exact h.apart x.1 hk (.inr ⟨t, x, q, rfl⟩)
      · cases q; exact hx hk
theorem len0 {e : List D} (h : e.length = 0) : AV.toD (.d (.slice e)) = some (.slice []) := by
  cases e with
  | nil => rfl
  | cons a b => cases h
theorem told_run {t : Tabs} {tab : Tab} (h : TabOk P t.glob tab) {f : FuncId} {fn : Func} (hf : P.funcs[f]? = some fn) (hen : enters fn = true) (hx : look tab f = none) {α γ : Type}
    {nat : α → Option γ} {args : α → List AV} {res : AV → List Nat → Option γ}
    {seg : Nat → Option (SegE Unit)} (hc : fn.body = some (bodyOf fn)) (hs : SegsOk (cfgOf P t tab) (evFn (cfgOf P t tab) 9) f false noY seg (bodyOf fn))
    (hnat : ∀ a, nat a = bodyK (cfgOf P t tab) (toldOf tab) noY (inlN (cfgOf P t tab) (toldOf tab) noY) seg f fn (args a) [] [] () (fun v _ tk _ => res v tk)) {a : α} {o : γ} (h3 : nat a = some o) :
    ∃ v b tk s, evFn (cfgOf P t tab) 10 Unit noY f (args a) [] [] () = some (.ret v, b, tk, s) ∧ res v tk = some o := by
  rw [hnat] at h3
  obtain ⟨v1, b1, tk, s1, q1, q2⟩ := bodyK_sound (H := evFn (cfgOf P t tab) 9) (pureOk_of (C := cfgOf P t tab) h rfl (fun _ => rfl) 9 (by omega)) (inlN_ok (C := cfgOf P t tab) h rfl (fun _ => rfl) (N := 0) (fun n _ => noMeth (fun _ => rfl))) (fun c hc' => by rw [hc] at hc'; cases hc'; exact hs) h3
  have hx' : (cfgOf P t tab).ext f = none := by
    show extOf tab f = none
    simp only [extOf, hx]
  have hf' : (cfgOf P t tab).P.funcs[f]? = some fn := hf
  refine ⟨v1, b1, tk, s1, ?_, q2⟩
  show evFn (cfgOf P t tab) (9 + 1) Unit noY f _ _ _ _ = _
  simp only [evFn, hx', hf', hen, if_true]
  exact q1
theorem good_none {c : Cx} {w : World} {boxes : List Box} (hW : WOk c boxes w) : Good Held.none c boxes () (fun _ => False) w := ⟨hW, fun _ h => h, fun _ h => h.elim⟩
theorem evo_none {c c' : Cx} {w w' : World} (hE : EvoX (fun _ => False) c w (fun _ => False) c' w') : Evo c w c' w' := ⟨hE.le, hE.os, hE.tape, hE.output, hE.size, fun k hk ho => hE.keep k hk ho (fun h => h), hE.new, fun b o h0 h1 => (hE.ronew b o h0 h1).elim .inl (fun q => q.elim (fun q => q.elim) .inr), hE.dead⟩
end Ev
