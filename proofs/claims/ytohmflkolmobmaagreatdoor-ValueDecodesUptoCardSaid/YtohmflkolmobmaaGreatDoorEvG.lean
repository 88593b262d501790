/- What functions of the program compute, as plain Lean functions, each with its proof by a proved reader; plain laws about them (EvG). -/
import Derived.Test.YtohmflkolmobmaaGreatDoorEvGc
set_option linter.unusedSimpArgs false
set_option linter.unusedVariables false
namespace Ev
open Go Go.RowKit
variable {σ : Type} {P : Program}
mutual
theorem ARel.relabel {c c' : Cx} (h1 : c'.β = c.β) (h2 : c'.τ = c.τ) (h3 : c'.toks = c.toks) (h4 : c'.ro = c.ro) : ∀ (x : AV) {u : Value}, noYld x = true → ARel c x u → ARel c' x u
  | .d x, _, _, hx => by simp only [ARel] at hx ⊢; rw [h4]; exact hx
  | .nsl, _, _, hx => by simpa only [ARel] using hx
  | .osl k es, _, _, hx => by simp only [ARel, NilTok] at hx ⊢; rw [h2, h3, h4]; exact hx
  | .obs k bs, _, _, hx => by simp only [ARel, NilTok] at hx ⊢; rw [h2, h3, h4]; exact hx
  | .ptr i off, _, _, hx => by simp only [ARel] at hx ⊢; rw [h1]; exact hx
  | .ept x off, _, _, hx => by simp only [ARel] at hx ⊢; rw [h4]; exact hx
  | .func fn first caps, _, hn, hx => by
    simp only [noYld, Bool.and_eq_true] at hn
    simp only [ARel] at hx ⊢
    obtain ⟨us, vs, e, q1, q2⟩ := hx
    exact ⟨us, vs, e, ARels.relabel h1 h2 h3 h4 first hn.1 q1, ARels.relabel h1 h2 h3 h4 caps hn.2 q2⟩
  | .ifc ty x, _, hn, hx => by
    simp only [noYld] at hn
    simp only [ARel] at hx ⊢
    obtain ⟨v, e, q⟩ := hx
    exact ⟨v, e, ARel.relabel h1 h2 h3 h4 x hn q⟩
  | .agg cs, _, hn, hx => by
    simp only [noYld] at hn
    simp only [ARel] at hx ⊢
    obtain ⟨us, e, q⟩ := hx
    exact ⟨us, e, ACells.relabel h1 h2 h3 h4 cs hn q⟩
  | .tup cs, _, hn, hx => by
    simp only [noYld] at hn
    simp only [ARel] at hx ⊢
    obtain ⟨us, e, q⟩ := hx
    exact ⟨us, e, ARels.relabel h1 h2 h3 h4 cs hn q⟩
  | .msl i n z, _, _, hx => by simp only [ARel] at hx ⊢; rw [h1]; exact hx
  | .msb i o n, _, _, hx => by simp only [ARel] at hx ⊢; rw [h1]; exact hx
  | .mpv i, _, _, hx => by simp only [ARel] at hx ⊢; rw [h1]; exact hx
  | .rsb i z o n, _, _, hx => by simp only [ARel] at hx ⊢; rw [h1]; exact hx
  | .rsl i n z, _, _, hx => by simp only [ARel] at hx ⊢; rw [h1, h4]; exact hx
  | .fsl i t z n, _, _, hx => by simp only [ARel] at hx ⊢; rw [h1, h2, h3, h4]; exact hx
  | .rpt i z j o, _, _, hx => by simp only [ARel] at hx ⊢; rw [h1]; exact hx
  | .iter i, _, _, hx => by simp only [ARel] at hx ⊢; rw [h1]; exact hx
  | .yld, _, hn, _ => by simp [noYld] at hn
  | .gptr g off, _, _, hx => by simpa only [ARel] using hx
  | .undef, _, _, _ => by simp only [ARel]
theorem ARels.relabel {c c' : Cx} (h1 : c'.β = c.β) (h2 : c'.τ = c.τ) (h3 : c'.toks = c.toks) (h4 : c'.ro = c.ro) : ∀ (xs : List AV) {us : List Value}, noYldL xs = true → ARels c xs us → ARels c' xs us
  | [], _, _, hx => by simpa only [ARels] using hx
  | x :: xs, _, hn, hx => by
    simp only [noYldL, Bool.and_eq_true] at hn
    simp only [ARels] at hx ⊢
    obtain ⟨u, us', e, q1, q2⟩ := hx
    exact ⟨u, us', e, ARel.relabel h1 h2 h3 h4 x hn.1 q1, ARels.relabel h1 h2 h3 h4 xs hn.2 q2⟩
theorem ACells.relabel {c c' : Cx} (h1 : c'.β = c.β) (h2 : c'.τ = c.τ) (h3 : c'.toks = c.toks) (h4 : c'.ro = c.ro) : ∀ (xs : List AV) {us : List Value}, noYldL xs = true → ACells c xs us → ACells c' xs us
  | [], _, _, hx => by simpa only [ACells] using hx
  | x :: xs, _, hn, hx => by
    simp only [noYldL, Bool.and_eq_true] at hn
    simp only [ACells] at hx ⊢
    obtain ⟨u, us', e, q0, q1, q2⟩ := hx
    exact ⟨u, us', e, q0, ARel.relabel h1 h2 h3 h4 x hn.1 q1, ACells.relabel h1 h2 h3 h4 xs hn.2 q2⟩
end
theorem BoxRel.relabel {c c' : Cx} (h1 : c'.β = c.β) (h2 : c'.τ = c.τ) (h3 : c'.toks = c.toks) (h4 : c'.ro = c.ro) {w : World} {b : Box} {k : Nat} (hn : noYldB b = true) (h : BoxRel c w b k) : BoxRel c' w b k := by
  cases b with
  | cells ty cs => obtain ⟨us, rest, e, q1, q2, q3⟩ := h; exact ⟨us, rest, e, q1, ACells.relabel h1 h2 h3 h4 cs hn q2, q3⟩
  | map es => exact h
  | row z es => obtain ⟨cs, e, q1, q2⟩ := h; exact ⟨cs, e, q1, by rw [h4]; exact q2⟩
  | iter s pos => exact h
  | gone => trivial
theorem Good.stay {L : Held σ} {c : Cx} {boxes : List Box} {s : σ} {X : Nat → Prop} {ro' : RO} {w w' : World} (h : Good L c boxes s X w) (hle : RO.le c.ro ro') (hro : ro'.holds w') (hs : w.heap.size ≤ w'.heap.size)
    (hk : ∀ k, c.owns k ∨ X k → w'.heap[k]? = w.heap[k]?) (hn : ∀ b o, c.ro b o = none → ro' b o ≠ none → ¬ c.owns b ∧ ¬ X b) : Good L { c with ro := ro' } boxes s X w' := by
  have hnone : ∀ k o, c.owns k → c.ro k o = none → ro' k o = none := fun k o ho h0 => by
    cases e : ro' k o with
    | none => rfl
    | some v => exact ((hn k o h0 (by simp [e])).1 ho).elim
  refine ⟨⟨hro, h.ok.len, fun i bx k hb hk' => ?_, h.ok.nodup, fun k hk => Nat.lt_of_lt_of_le (h.ok.lt k hk) hs, fun k hk hd o => hnone k o (.inl ⟨hk, hd⟩) (h.ok.robox k hk hd o), h.ok.tlen, fun t n g cap z hn' ht => ?_, h.ok.tdis, h.ok.tbox, h.ok.dead⟩,
    L.stay h.held hle hro hs (fun k hx => hk k (.inr hx)) (fun b o h0 h1 => (hn b o h0 h1).2), h.apart⟩
  · by_cases hg : bx = Box.gone
    · subst hg; trivial
    · exact (h.ok.box i bx k hb hk').mono (Cx.le_ro hle) (hk k (.inl (.inl ⟨List.mem_of_getElem? hk', h.ok.live hb hg hk'⟩)))
  · have ho : c.owns g := .inr ⟨t, _, ht, rfl⟩
    obtain ⟨h1, cur, e, h2, h3, h4⟩ := h.ok.tok t n g cap z hn' ht
    exact ⟨h1, cur, e, (hk g (.inl ho)).trans h2, h3, fun o hz => hnone g o ho (h4.1 o hz), fun q => by rw [hle.pin]; exact h4.2 q⟩
theorem holds_putObj {ro : RO} {w : World} {l : Nat} {r : Loop} {o : Obj} (h : ro.holds w) (hl : w.heap[l]? = some (.loop r)) : ro.holds (w.putObj l o) := ⟨fun b i v e => by
  have hne : b ≠ l := fun e' => by
    subst e'
    have := h b i v e
    simp [World.cell?, hl] at this
  rw [cell_of_block (World.putObj_heap_other hne)]
  exact h b i v e, fun b n e => by
  have hne : b ≠ l := fun e' => by
    subst e'
    obtain ⟨cs, t, fz, q, _⟩ := h.whole b n e
    rw [hl] at q; cases q
  exact (h.whole b n e).same (World.putObj_heap_other hne), h.known, fun b n e => by
  have hne : b ≠ l := fun e' => by
    subst e'
    obtain ⟨cs, t, fz, q, _⟩ := h.big b n e
    rw [hl] at q; cases q
  exact (h.big b n e).same (World.putObj_heap_other hne)⟩
theorem Good.putObj {L : Held σ} {c : Cx} {boxes : List Box} {s : σ} {X : Nat → Prop} {w : World} {l : Nat} {r : Loop} {o : Obj} (h : Good L c boxes s X w) (hl : w.heap[l]? = some (.loop r)) (h1 : ¬ c.owns l) (h2 : ¬ X l) : Good L c boxes s X (w.putObj l o) :=
  h.stay (ro' := c.ro) (RO.le_refl _) (holds_putObj h.ok.ro hl) (by simp) (fun k hk => World.putObj_heap_other (fun e => by subst e; exact hk.elim h1 h2)) (fun b o h0 h1 => (h1 h0).elim)
theorem Left.trans {X X1 X2 : Nat → Prop} {ro ro1 ro2 : RO} {w w1 w2 : World} (h : Left X ro w X1 ro1 w1) (k : Left X1 ro1 w1 X2 ro2 w2) : Left X ro w X2 ro2 w2 where
  le := RO.le_trans h.le k.le
  holds := k.holds
  os := k.os.trans h.os
  tape := k.tape.trans h.tape
  output := k.output.trans h.output
  size := Nat.le_trans h.size k.size
  keep := fun i hi hx => (k.keep i (Nat.lt_of_lt_of_le hi h.size) (fun hx1 => (h.newX i hx1).elim hx (by omega))).trans (h.keep i hi hx)
  newX := fun i hx => (k.newX i hx).elim (h.newX i) (fun q => .inr (Nat.le_trans h.size q))
  ronew := fun b o h0 h2 => by
    by_cases h1 : ro1 b o = Option.none
    · rcases k.ronew b o h1 h2 with q | q
      · exact (h.newX b q).imp id id
      · exact .inr (Nat.le_trans h.size q)
    · exact h.ronew b o h0 h1
theorem Left.putObj {X : Nat → Prop} {ro : RO} {w : World} {l : Nat} {r : Loop} {o : Obj} (hx : X l) (h : ro.holds w) (hl : w.heap[l]? = some (.loop r)) : Left X ro w X ro (w.putObj l o) :=
  ⟨RO.le_refl _, holds_putObj h hl, rfl, rfl, rfl, by simp, fun k _ hn => World.putObj_heap_other (fun e => hn (e ▸ hx)), fun _ h => .inl h, fun b o h0 h1 => (h1 h0).elim⟩
theorem Left.less {X X1 X2 : Nat → Prop} {ro ro1 : RO} {w w1 : World} (h : Left X ro w X1 ro1 w1) (hx : ∀ k, X2 k → X1 k) : Left X ro w X2 ro1 w1 :=
  ⟨h.le, h.holds, h.os, h.tape, h.output, h.size, h.keep, fun k hk => h.newX k (hx k hk), h.ronew⟩
def span (c : Cx) (X : Nat → Prop) (l D : Nat) : Nat → Prop := fun k => c.owns k ∨ X k ∨ k = l ∨ k = D
theorem left_of_evo {L : Held σ} {X X1 : Nat → Prop} {c c1 : Cx} {w w1 : World} {boxes : List Box} {s : σ} {l D : Nat} (h : EvoX X c w X1 c1 w1) (hG : Good L c1 boxes s X1 w1) : Left (span c X l D) c.ro w (span c1 X1 l D) c1.ro w1 where
  le := h.le.ro
  holds := hG.ok.ro
  os := h.os
  tape := h.tape
  output := h.output
  size := h.size
  keep := fun k hk hn => h.keep k hk (fun q => hn (.inl q)) (fun q => hn (.inr (.inl q)))
  newX := fun k hk => by
    rcases hk with hk | hk | hk
    · exact (h.new k hk).imp .inl id
    · exact (h.newX k hk).imp (fun q => .inr (.inl q)) id
    · exact .inl (.inr (.inr hk))
  ronew := fun b o h0 h1 => by
    rcases h.ronew b o h0 h1 with q | q | q
    · exact .inl (.inl q)
    · exact .inl (.inr (.inl q))
    · exact .inr q
def codeOf : Ex → Code
  | .ret => .ret
  | .exit id => .exit id
  | _ => .skip
def recOf (fn : FuncId) (tmps : Array Value) (ps : Array Tmp) (assign body : Code) (D : Nat) : Option Ex → Loop
  | none => { state := .ready, pending := none, fn, tmps, params := ps, assign, body, defers := D }
  | some e => { state := .done, pending := some (codeOf e), fn, tmps, params := ps, assign, body, defers := D }
def roundHeld (L : Held σ) (c : Cx) (X : Nat → Prop) (lb : List Nat) (z l D : Nat) (rec : Option Ex → Loop) : Held (List Box × List Nat × σ × Option Ex) where
  R := fun q X' ro W => ∃ ck Xk, ck.ro = ro ∧ ck.dead = lb ∧ Good L ck q.1 q.2.2.1 Xk W ∧ c.le ck ∧ (∀ k, ck.owns k → c.owns k ∨ z ≤ k) ∧ (∀ k, Xk k → X k ∨ z ≤ k) ∧ ck.toks = q.2.1 ∧ X' = span ck Xk l D ∧
    W.heap[D]? = some (.deferred (some [])) ∧ W.heap[l]? = some (.loop (rec q.2.2.2)) ∧ ¬ ck.owns D ∧ ¬ Xk D ∧ ¬ ck.owns l ∧ ¬ Xk l
  lt := by
    rintro s X' ro w ⟨ck, Xk, _, _, hG, _, _, _, _, rfl, hD, hl, _⟩ k hk
    rcases hk with hk | hk | rfl | rfl
    · exact hG.ok.lt k hk.has
    · exact L.lt hG.held k hk
    · exact lt_of_heap hl
    · exact lt_of_heap hD
  stay := by
    rintro s X' ro ro' w w' ⟨ck, Xk, rfl, h1, hG, h2, h3, h4, h5, rfl, hD, hl, n1, n2, n3, n4⟩ hle hro hs hk hn
    refine ⟨{ ck with ro := ro' }, Xk, rfl, h1, hG.stay hle hro hs (fun k q => hk k (q.elim .inl (fun q => .inr (.inl q)))) (fun b o h0 h1 => ⟨fun q => hn b o h0 h1 (.inl q), fun q => hn b o h0 h1 (.inr (.inl q))⟩), Cx.le_trans h2 (Cx.le_ro hle), h3, h4, h5, rfl,
      (hk D (.inr (.inr (.inr rfl)))).trans hD, (hk l (.inr (.inr (.inl rfl)))).trans hl, n1, n2, n3, n4⟩
theorem setParams_rel {c : Cx} : ∀ {ps : List Tmp} {xs : List AV} {us : List Value} {env : List AV} {tmps : Array Value}, ARels c env tmps.toList → ARels c xs us → ARels c (setParams env ps xs) ((ps.zip us).foldl (fun t (p, v) => t.setIfInBounds p v) tmps).toList
  | [], _, _, _, _, h, _ => by simpa [setParams] using h
  | p :: ps, [], us, env, tmps, h, hx => by
    have : us = [] := hx
    subst this
    simpa [setParams] using h
  | p :: ps, x :: xs, us, env, tmps, h, hx => by
    obtain ⟨u, us', rfl, h1, h2⟩ := hx
    simp only [setParams, List.zip_cons_cons, List.foldl_cons]
    exact setParams_rel (by simpa using ARels.set h p h1) h2
theorem DArgs.length {r : RO} : ∀ {ds : List D} {us : List Value}, DArgs r ds us → ds.length = us.length
  | [], us, h => by have : us = [] := h; subst this; rfl
  | d :: ds, us, h => by obtain ⟨u, us', rfl, _, h2⟩ := h; simp [DArgs.length h2]
end Ev
