/- What functions of the program compute, as plain Lean functions, each with its proof by a proved reader; plain laws about them (EvH). -/
import Derived.Test.YtohmflkolmobmaaGreatDoorEvNw
set_option linter.unusedSimpArgs false
set_option linter.unusedVariables false
namespace Ev
open Go Go.RowKit
structure Held (σ : Type) where
  R : σ → (Nat → Prop) → RO → World → Prop
  lt : ∀ {s : σ} {X : Nat → Prop} {ro : RO} {w : World}, R s X ro w → ∀ k, X k → k < w.heap.size
  stay : ∀ {s : σ} {X : Nat → Prop} {ro ro' : RO} {w w' : World}, R s X ro w → RO.le ro ro' → ro'.holds w' → w.heap.size ≤ w'.heap.size →
    (∀ k, X k → w'.heap[k]? = w.heap[k]?) → (∀ b o, ro b o = none → ro' b o ≠ none → ¬ X b) → R s X ro' w'
def Held.none : Held Unit := ⟨fun _ X _ _ => ∀ k, ¬ X k, fun h k hk => (h k hk).elim, fun h _ _ _ _ _ => h⟩
variable {σ : Type} {P : Program}
structure Good (L : Held σ) (c : Cx) (boxes : List Box) (s : σ) (X : Nat → Prop) (w : World) : Prop where
  ok : WOk c boxes w
  held : L.R s X c.ro w
  apart : ∀ k, X k → ¬ c.owns k
structure EvoX (X : Nat → Prop) (c : Cx) (w : World) (X' : Nat → Prop) (c' : Cx) (w' : World) : Prop where
  le : c.le c'
  os : w'.os = w.os
  tape : w'.tape = w.tape
  output : w'.output = w.output
  size : w.heap.size ≤ w'.heap.size
  keep : ∀ k, k < w.heap.size → ¬ c.owns k → ¬ X k → w'.heap[k]? = w.heap[k]?
  new : ∀ k, c'.owns k → c.owns k ∨ w.heap.size ≤ k
  newX : ∀ k, X' k → X k ∨ w.heap.size ≤ k
  ronew : ∀ b o, c.ro b o = Option.none → c'.ro b o ≠ Option.none → c.owns b ∨ X b ∨ w.heap.size ≤ b
  dead : c'.dead = c.dead
theorem EvoX.refl (X : Nat → Prop) (c : Cx) (w : World) : EvoX X c w X c w :=
  ⟨Cx.le_refl c, rfl, rfl, rfl, Nat.le_refl _, fun _ _ _ _ => rfl, fun _ h => .inl h, fun _ h => .inl h, fun _ _ h h' => (h' h).elim, rfl⟩
theorem EvoX.trans {X X1 X2 : Nat → Prop} {c c1 c2 : Cx} {w w1 w2 : World} (h : EvoX X c w X1 c1 w1) (k : EvoX X1 c1 w1 X2 c2 w2) : EvoX X c w X2 c2 w2 where
  le := Cx.le_trans h.le k.le
  os := k.os.trans h.os
  tape := k.tape.trans h.tape
  output := k.output.trans h.output
  size := Nat.le_trans h.size k.size
  keep := fun i hi hn hx => (k.keep i (Nat.lt_of_lt_of_le hi h.size) (fun ho => (h.new i ho).elim hn (by omega)) (fun ho => (h.newX i ho).elim hx (by omega))).trans (h.keep i hi hn hx)
  new := fun i ho => (k.new i ho).elim (h.new i) (fun hs => .inr (Nat.le_trans h.size hs))
  newX := fun i ho => (k.newX i ho).elim (h.newX i) (fun hs => .inr (Nat.le_trans h.size hs))
  ronew := fun b o h0 h2 => by
    by_cases h1 : c1.ro b o = Option.none
    · rcases k.ronew b o h1 h2 with q | q | q
      · exact (h.new b q).imp id .inr
      · exact (h.newX b q).elim (fun q => .inr (.inl q)) (fun q => .inr (.inr q))
      · exact .inr (.inr (Nat.le_trans h.size q))
    · exact h.ronew b o h0 h1
  dead := k.dead.trans h.dead
theorem Good.evo {L : Held σ} {c c' : Cx} {boxes boxes' : List Box} {s : σ} {X : Nat → Prop} {w w' : World} (h : Good L c boxes s X w) (hW : WOk c' boxes' w') (hE : Evo c w c' w') :
    Good L c' boxes' s X w' ∧ EvoX X c w X c' w' := by
  have hx : ∀ k, X k → k < w.heap.size := L.lt h.held
  refine ⟨⟨hW, L.stay h.held hE.le.ro hW.ro hE.size (fun k hk => hE.keep k (hx k hk) (h.apart k hk)) (fun b o h0 h1 hb => ?_), fun k hk ho => ?_⟩,
    ⟨hE.le, hE.os, hE.tape, hE.output, hE.size, fun k h1 h2 _ => hE.keep k h1 h2, hE.new, fun k hk => .inl hk, fun b o h0 h1 => (hE.ronew b o h0 h1).imp id .inr, hE.dead⟩⟩
  · rcases hE.ronew b o h0 h1 with q | q
    · exact h.apart b hb q
    · have := hx b hb; omega
  · rcases hE.new k ho with q | q
    · exact h.apart k hk q
    · have := hx k hk; omega
def Now (L : Held σ) (X0 : Nat → Prop) (c0 : Cx) (w0 : World) (st : St σ) (tmps : Array Value) (w : World) : Prop :=
  ∃ c X, Good L c st.boxes st.s X w ∧ EvoX X0 c0 w0 X c w ∧ c.toks = st.toks ∧ ARels c st.env tmps.toList
def DArgs (ro : RO) : List D → List Value → Prop
  | [], us => us = []
  | d :: ds, us => ∃ u us', us = u :: us' ∧ DRel ro d u ∧ DArgs ro ds us'
theorem DArgs.of {c : Cx} : ∀ {xs : List AV} {us : List Value} {ds : List D}, ARels c xs us → datas xs = some ds → DArgs c.ro ds us
  | [], us, ds, h, e => by simp only [datas, Option.some.injEq] at e; subst e; exact h
  | x :: xs, us, ds, h, e => by
    obtain ⟨u, us', rfl, h1, h2⟩ := h
    simp only [datas] at e
    split at e
    · rename_i y ys hy hys
      cases e
      exact ⟨u, us', rfl, ARel.toD x h1 hy, DArgs.of h2 hys⟩
    · cases e
theorem DArgs.to {c : Cx} {ro : RO} (hc : c.ro = ro) : ∀ {us : List Value} {ds : List D}, DArgs ro ds us → ARels c (ds.map .d) us
  | us, [], h => h
  | us, d :: ds, h => by
    obtain ⟨u, us', rfl, h1, h2⟩ := h
    exact ⟨u, us', rfl, by simp only [ARel]; rw [hc]; exact h1, DArgs.to hc h2⟩
theorem DArgs.mono {r r' : RO} (h : RO.le r r') : ∀ {us : List Value} {ds : List D}, DArgs r ds us → DArgs r' ds us
  | us, [], h' => h'
  | us, d :: ds, h' => by
    obtain ⟨u, us', rfl, h1, h2⟩ := h'
    exact ⟨u, us', rfl, DRel.mono h d h1, DArgs.mono h h2⟩
def FW (r : Option Nat) : Fence := { Fence.wide with round := r }
structure Left (X : Nat → Prop) (ro : RO) (w : World) (X' : Nat → Prop) (ro' : RO) (w' : World) : Prop where
  le : RO.le ro ro'
  holds : ro'.holds w'
  os : w'.os = w.os
  tape : w'.tape = w.tape
  output : w'.output = w.output
  size : w.heap.size ≤ w'.heap.size
  keep : ∀ k, k < w.heap.size → ¬ X k → w'.heap[k]? = w.heap[k]?
  newX : ∀ k, X' k → X k ∨ w.heap.size ≤ k
  ronew : ∀ b o, ro b o = Option.none → ro' b o ≠ Option.none → X b ∨ w.heap.size ≤ b
def YSound (P : Program) (L : Held σ) (Y : Yd σ) (l : Nat) : Prop := ∀ ds s b s', Y ds s = some (b, s') → ∀ (X : Nat → Prop) (ro : RO) (w : World) (us : List Value), L.R s X ro w → ro.holds w → DArgs ro ds us →
  ∃ f tmps assign body, (Instr.yield l us.toArray).run P w = .ok (.round l f tmps assign body) w ∧
    ∀ rd, RoundIn (FW rd) 0 P l f tmps assign body w (fun e w' => ∃ X' ro', e = .returned (.bool b) ∧ L.R s' X' ro' w' ∧ Left X ro w X' ro' w')
structure GlobIn (P : Program) (glob : Nat → Option (List D)) (ro : RO) : Prop where
  bt : ro.pin.bt = byteT P
  cells : ∀ g cs, glob g = some cs → ∃ us : List Value, DRels ro cs us ∧ (∀ (j : Nat) (v : Value), us[j]? = some v → ro g j = some v) ∧ ro.pin g = some us.length
theorem GlobIn.mono {P : Program} {glob : Nat → Option (List D)} {ro ro' : RO} (h : GlobIn P glob ro) (hl : RO.le ro ro') : GlobIn P glob ro' := ⟨by rw [hl.pin]; exact h.bt, fun g cs e => by
  obtain ⟨us, h1, h2, h3⟩ := h.cells g cs e
  exact ⟨us, DRels.mono hl cs h1, fun j v e => hl _ _ _ (h2 j v e), by rw [hl.pin]; exact h3⟩⟩
structure Env (P : Program) (glob : Nat → Option (List D)) (L : Held σ) (Y : Yd σ) (c : Cx) : Prop where
  gl : GlobIn P glob c.ro
  yd : ∀ l, c.l = some l → YSound P L Y l
theorem Env.le {glob : Nat → Option (List D)} {L : Held σ} {Y : Yd σ} {c c' : Cx} (h : Env P glob L Y c) (hl : c.le c') : Env P glob L Y c' := ⟨h.gl.mono hl.ro, fun l e => h.yd l (by rw [← hl.l]; exact e)⟩
def Out.ends : Out → Value → Ending
  | .ret _, u => .returned u
  | .panic _, u => .panicked [{ v := u, recovered := false }]
def HSound (P : Program) (glob : Nat → Option (List D)) (H : Hd) : Prop := ∀ (σ : Type) (Y : Yd σ) (L : Held σ) (f : FuncId) (args : List AV) (boxes : List Box) (toks : List Nat) (s : σ) (v : Out) (boxes' : List Box) (toks' : List Nat) (s' : σ),
  H σ Y f args boxes toks s = some (v, boxes', toks', s') →
  (∀ us w, (callFunc f us).run P w = .ok (.enter f us) w) ∧
  ∀ (c : Cx) (w : World) (X : Nat → Prop) (us : List Value), c.toks = toks → c.dead = [] → Good L c boxes s X w → ARels c args us → Env P glob L Y c →
    Calls P f us.toArray w (fun e w' => ∃ c' X' u, e = v.ends u ∧ Good L c' boxes' s' X' w' ∧ EvoX X c w X' c' w' ∧ c'.toks = toks' ∧ ARel c' v.val u)
theorem callsIn_FW {r : Option Nat} {n : Nat} {f : FuncId} {args : Array Value} {w : World} {R : Ending → World → Prop} (h : Calls P f args w R) : CallsIn (FW r) n P f args w R := by
  have := callsIn_wide (n := n).2 h
  exact ⟨trivial, fun cs hr => this.2 cs (room_wide _)⟩
def PRel (ro : RO) : PR → Value → Prop
  | .one d, u => DRel ro d u
  | .many ds, u => ∃ us : List Value, u = .tuple us.toArray ∧ DArgs ro ds us
  | .errs ds t, u => ∃ (us : List Value) (v : Value), u = .tuple (us ++ [Value.iface t v]).toArray ∧ DArgs ro ds us
theorem ARels.snoc {c : Cx} {x : AV} {v : Value} (h2 : ARel c x v) : ∀ {xs : List AV} {us : List Value}, ARels c xs us → ARels c (xs ++ [x]) (us ++ [v])
  | [], us, h => by
    simp only [ARels] at h
    subst h
    exact ⟨v, [], rfl, h2, rfl⟩
  | y :: xs, us, h => by
    obtain ⟨u, us', rfl, h1, h3⟩ := h
    exact ⟨u, us' ++ [v], rfl, h1, ARels.snoc h2 h3⟩
theorem errsOf_rel {c : Cx} : ∀ {vs : List AV} {us : List Value} {ds : List D} {t : TypeId}, ARels c vs us → errsOf vs = some (ds, t) → ∃ us' v, us = us' ++ [Value.iface t v] ∧ DArgs c.ro ds us'
  | [], _, _, _, _, e => by cases e
  | x :: r, us, ds, t, h, e => by
    obtain ⟨u, us', rfl, h1, h2⟩ := h
    unfold errsOf at e
    split at e
    · cases e
    · cases e
      rename_i heq
      cases heq
      simp only [ARel] at h1
      obtain ⟨v, rfl, _⟩ := h1
      simp only [ARels] at h2
      subst h2
      exact ⟨[], v, rfl, rfl⟩
    · rename_i heq
      cases heq
      split at e
      · rename_i d ds' t' hd he
        cases e
        obtain ⟨q, v, rfl, hq⟩ := errsOf_rel h2 he
        exact ⟨u :: q, v, rfl, u, q, rfl, ARel.toD _ h1 hd, hq⟩
      · cases e
theorem PRel.av {c : Cx} {ro : RO} (hc : c.ro = ro) : ∀ {r : PR} {u : Value}, PRel ro r u → ARel c r.av u
  | .one d, u, h => by subst hc; simp only [PR.av, ARel]; exact h
  | .many ds, u, h => by
    obtain ⟨us, e, h⟩ := h
    simp only [PR.av, ARel]
    exact ⟨us, e, DArgs.to hc h⟩
  | .errs ds t, u, h => by
    obtain ⟨us, v, e, h⟩ := h
    simp only [PR.av, ARel]
    refine ⟨_, e, ARels.snoc ?_ (DArgs.to hc h)⟩
    simp only [ARel]
    exact ⟨v, rfl, trivial⟩
theorem PRel.mono {r r' : RO} (h : RO.le r r') : ∀ {p : PR} {u : Value}, PRel r p u → PRel r' p u
  | .one d, u, hx => DRel.mono h d hx
  | .many ds, u, hx => by
    obtain ⟨us, e, hx⟩ := hx
    exact ⟨us, e, DArgs.mono h hx⟩
  | .errs ds t, u, hx => by
    obtain ⟨us, v, e, hx⟩ := hx
    exact ⟨us, v, e, DArgs.mono h hx⟩
theorem toPR_rel {c : Cx} {v : AV} {u : Value} {r : PR} (h : ARel c v u) (e : toPR v = some r) : PRel c.ro r u := by
  unfold toPR at e
  split at e
  · rename_i vs
    split at e
    · rename_i ds hds
      cases e
      simp only [ARel] at h
      obtain ⟨us, eu, h⟩ := h
      exact ⟨us, eu, DArgs.of h hds⟩
    · split at e
      · rename_i ds t hds
        cases e
        simp only [ARel] at h
        obtain ⟨us, eu, h⟩ := h
        obtain ⟨q, v, rfl, hq⟩ := errsOf_rel h hds
        exact ⟨q, v, eu, hq⟩
      · cases e
  · split at e
    · rename_i d hd
      cases e
      exact ARel.toD _ h hd
    · cases e
theorem pureCall_sound {glob : Nat → Option (List D)} {H : Hd} (hH : HSound P glob H) {f : FuncId} {ds : List D} {r : PR} (e : pureCall H f ds = some r) :
    (∀ us w, (callFunc f us).run P w = .ok (.enter f us) w) ∧
    ∀ (ro : RO) (w : World) (us : List Value), ro.holds w → GlobIn P glob ro → DArgs ro ds us →
      Calls P f us.toArray w (fun e w' => ∃ u ro', e = .returned u ∧ PRel ro' r u ∧ Left (fun _ => False) ro w (fun _ => False) ro' w') := by
  unfold pureCall at e
  split at e
  · rename_i v b t s' hv
    obtain ⟨h1, h2⟩ := hH Unit noY Held.none f _ _ _ _ _ _ _ _ hv
    refine ⟨h1, fun ro w us hro hgl ha => ?_⟩
    refine Calls.mono (h2 ⟨[], [], [], ro, none, []⟩ w (fun _ => False) us rfl rfl ⟨⟨hro, rfl, by simp, by simp, by simp [Cx.has], by simp, rfl, by simp, by simp, by simp, by simp⟩, fun _ h => h.elim, fun _ h => h.elim⟩ (DArgs.to rfl ha) ⟨hgl, by simp⟩) ?_
    · rintro e' w' ⟨c', X', u, rfl, hg, hE, _, hv⟩
      refine ⟨u, c'.ro, rfl, toPR_rel hv e, hE.le.ro, hg.ok.ro, hE.os, hE.tape, hE.output, hE.size, fun k hk _ => hE.keep k hk (by simp [Cx.owns]) (by simp), fun _ h => h.elim, fun b o h1 h2 => ?_⟩
      rcases hE.ronew b o h1 h2 with q | q | q
      · simp [Cx.owns] at q
      · exact q.elim
      · exact .inr q
  · cases e
theorem Cx.le_ro {c : Cx} {ro' : RO} (h : RO.le c.ro ro') : c.le { c with ro := ro' } := ⟨h, fun _ _ _ e => e, fun _ n _ e => ⟨n, e, Nat.le_refl _, fun _ => rfl⟩, rfl⟩
theorem Good.left {L : Held σ} {c : Cx} {boxes : List Box} {s s' : σ} {X X' : Nat → Prop} {ro' : RO} {w w' : World} (h : Good L c boxes s X w) (hl : Left X c.ro w X' ro' w') (hR : L.R s' X' ro' w') :
    Good L { c with ro := ro' } boxes s' X' w' ∧ EvoX X c w X' { c with ro := ro' } w' := by
  have hX : ∀ k, c.owns k → ¬ X k := fun k ho hx => h.apart k hx ho
  have hsame : ∀ k, c.owns k → w'.heap[k]? = w.heap[k]? := fun k ho => hl.keep k (h.ok.lt k ho.has) (hX k ho)
  have hnone : ∀ k o, c.owns k → c.ro k o = Option.none → ro' k o = Option.none := fun k o ho h0 => by
    cases e : ro' k o with
    | none => rfl
    | some v =>
      rcases hl.ronew k o h0 (by simp [e]) with q | q
      · exact (hX k ho q).elim
      · have := h.ok.lt k ho.has; omega
  have hle : c.le { c with ro := ro' } := Cx.le_ro hl.le
  refine ⟨⟨⟨hl.holds, h.ok.len, fun i bx k hb hk => ?_, h.ok.nodup, fun k hk => Nat.lt_of_lt_of_le (h.ok.lt k hk) hl.size, fun k hk hd o => hnone k o (.inl ⟨hk, hd⟩) (h.ok.robox k hk hd o), h.ok.tlen, fun t n g cap z hn ht => ?_, h.ok.tdis, h.ok.tbox, h.ok.dead⟩, hR, fun k hk ho => ?_⟩,
    ⟨hle, hl.os, hl.tape, hl.output, hl.size, fun k h1 _ h2 => hl.keep k h1 h2, fun k hk => .inl hk, hl.newX, fun b o h0 h1 => (hl.ronew b o h0 h1).elim (fun q => .inr (.inl q)) (fun q => .inr (.inr q)), rfl⟩⟩
  · by_cases hg : bx = Box.gone
    · subst hg; trivial
    · exact (h.ok.box i bx k hb hk).mono hle (hsame k (.inl ⟨List.mem_of_getElem? hk, h.ok.live hb hg hk⟩))
  · have ho : c.owns g := .inr ⟨t, _, ht, rfl⟩
    obtain ⟨h1, cur, e, h2, h3, h4⟩ := h.ok.tok t n g cap z hn ht
    exact ⟨h1, cur, e, (hsame g ho).trans h2, h3, fun o hz => hnone g o ho (h4.1 o hz), fun q => by rw [hl.le.pin]; exact h4.2 q⟩
  · rcases hl.newX k hk with q | q
    · exact h.apart k q ho
    · have : k < w.heap.size := h.ok.lt k (Cx.owns.has (c := c) ho)
      omega
theorem Good.pure {L : Held σ} {c : Cx} {boxes : List Box} {s : σ} {X : Nat → Prop} {ro' : RO} {w w' : World} (h : Good L c boxes s X w) (hl : Left (fun _ => False) c.ro w (fun _ => False) ro' w') :
    Good L { c with ro := ro' } boxes s X w' ∧ EvoX X c w X { c with ro := ro' } w' := by
  have hx : ∀ k, X k → k < w.heap.size := L.lt h.held
  have hno : ∀ b o, c.ro b o = Option.none → ro' b o ≠ Option.none → ¬ X b := fun b o h0 h1 hb => by
    rcases hl.ronew b o h0 h1 with q | q
    · exact q
    · have := hx b hb; omega
  exact h.left ⟨hl.le, hl.holds, hl.os, hl.tape, hl.output, hl.size, fun k hk _ => hl.keep k hk (fun q => q), fun _ hk => .inl hk, fun b o h0 h1 => (hl.ronew b o h0 h1).elim (fun q => q.elim) .inr⟩
    (L.stay h.held hl.le hl.holds hl.size (fun k hk => hl.keep k (hx k hk) (fun q => q)) hno)
theorem flat_rel {r r' : RO} {d : D} {u : Value} (hf : flatD d = true) (h : DRel r d u) : DRel r' d u := by
  cases d with
  | val v => simpa only [DRel] using h
  | bytes b => simp [flatD] at hf
  | slice es => simp [flatD] at hf
  | agg cs =>
    simp only [DRel] at h ⊢
    obtain ⟨us, e, h1⟩ := h
    refine ⟨us, e, ?_⟩
    simp only [flatD] at hf
    clear e
    induction cs generalizing us with
    | nil => simpa only [DRels] using h1
    | cons x cs ih =>
      simp only [DRels] at h1 ⊢
      obtain ⟨u, us', rfl, q1, q2, q3⟩ := h1
      simp only [List.all_cons, Bool.and_eq_true] at hf
      refine ⟨u, us', rfl, q1, ?_, ih hf.2 us' q3⟩
      cases x with
      | val v => simpa only [DRel] using q2
      | slice es =>
        cases es with
        | nil =>
          simp only [DRel] at q2 ⊢
          obtain ⟨A, k, e, h1, _⟩ := q2
          exact ⟨A, k, e, h1, .inl trivial⟩
        | cons a as => simp at hf
      | _ => simp at hf
theorem ACells.append {c : Cx} : ∀ {xs ys : List AV} {us vs : List Value}, ACells c xs us → ACells c ys vs → ACells c (xs ++ ys) (us ++ vs)
  | [], ys, us, vs, h, k => by
    have : us = [] := h
    subst this; exact k
  | x :: xs, ys, us, vs, h, k => by
    obtain ⟨u, us', rfl, h0, h1, h2⟩ := h
    exact ⟨u, _, rfl, h0, h1, ACells.append h2 k⟩
theorem flat_cells {r : RO} {b k : Nat} (c : Cx) : ∀ {es : List D} {off : Nat}, DRows r b k off es → es.all flatD = true → ∃ vs : List Value, ACells c ((es.flatMap D.cells).map .d) vs ∧ vs.length = es.length * k ∧ ∀ (j : Nat) (v : Value), vs[j]? = some v → r b (off + j) = some v
  | [], off, _, _ => ⟨[], rfl, by simp, by simp⟩
  | e :: es, off, h, hf => by
    simp only [DRows] at h
    obtain ⟨⟨u, h1, h2, h3⟩, h4⟩ := h
    simp only [List.all_cons, Bool.and_eq_true] at hf
    obtain ⟨vs, q1, q2, q3⟩ := flat_cells c h4 hf.2
    refine ⟨u.cells.toList ++ vs, ?_, by simp [q2, h2, Nat.succ_mul]; omega, fun j v hj => ?_⟩
    · rw [List.flatMap_cons, List.map_append]
      exact ACells.append (ACells.of_d (DRel.cells (flat_rel hf.1 h1))) q1
    · by_cases hlt : j < k
      · rw [List.getElem?_append_left (by simp [h2, hlt])] at hj
        exact h3 j v (by simpa using hj)
      · rw [List.getElem?_append_right (by simp [h2]; omega)] at hj
        have := q3 (j - k) v (by simpa [h2] using hj)
        rw [show off + k + (j - k) = off + j by omega] at this
        exact this
theorem Good.adopt {L : Held σ} {c : Cx} {boxes : List Box} {s : σ} {X : Nat → Prop} {w : World} (h : Good L c boxes s X w) {b : Nat} {bx : Box} (hb : b < w.heap.size) (hn : ¬ c.has b) (hr : ∀ o, c.ro b o = Option.none) (hx : ¬ X b) (hrel : BoxRel (c.addBox b) w bx b) : Good L (c.addBox b) (boxes ++ [bx]) s X w := by
  have hle := Cx.le_addBox c b
  refine ⟨⟨h.ok.ro, by simp [Cx.addBox, h.ok.len], fun i bx' k hi hk => ?_, ?_, fun k hk => ?_, fun k hk hd o => ?_, h.ok.tlen, fun t n g cap z q1 q2 => h.ok.tok t n g cap z q1 q2, h.ok.tdis, fun t x ht hm => ?_, fun k hk => ?_⟩, h.held, fun k hk ho => ?_⟩
  · by_cases hlt : i < boxes.length
    · rw [List.getElem?_append_left hlt] at hi
      have hk' : c.β[i]? = some k := by simp only [Cx.addBox] at hk; rwa [List.getElem?_append_left (by rw [h.ok.len]; exact hlt)] at hk
      exact (h.ok.box i bx' k hi hk').mono hle rfl
    · have hl : i = boxes.length := by
        have := (List.getElem?_eq_some_iff.1 hi).1
        simp at this; omega
      subst hl
      simp at hi
      subst hi
      have : k = b := by simp [Cx.addBox, ← h.ok.len] at hk; exact hk.symm
      subst this
      exact hrel
  · simp only [Cx.addBox, List.nodup_append]
    refine ⟨h.ok.nodup, by simp, fun a ha b' hb' => ?_⟩
    simp at hb'; subst hb'
    intro e; subst e; exact hn (.inl ha)
  · rcases hk with hk | hk
    · simp only [Cx.addBox, List.mem_append, List.mem_singleton] at hk
      rcases hk with hk | rfl
      · exact h.ok.lt k (.inl hk)
      · exact hb
    · exact h.ok.lt k (.inr hk)
  · simp only [Cx.addBox, List.mem_append, List.mem_singleton] at hk
    rcases hk with hk | rfl
    · exact h.ok.robox k hk hd o
    · exact hr o
  · simp only [Cx.addBox, List.mem_append, List.mem_singleton] at hm
    rcases hm with hm | hm
    · exact h.ok.tbox t x ht hm
    · exact hn (.inr ⟨t, x, ht, hm⟩)
  · obtain ⟨i, h1, h2⟩ := h.ok.dead k hk
    exact ⟨i, by simp only [Cx.addBox]; rw [List.getElem?_append_left (List.getElem?_eq_some_iff.1 h1).1]; exact h1, by rw [List.getElem?_append_left (List.getElem?_eq_some_iff.1 h2).1]; exact h2⟩
  · rcases ho with ⟨ho, hd⟩ | ho
    · simp only [Cx.addBox, List.mem_append, List.mem_singleton] at ho
      rcases ho with ho | rfl
      · exact h.apart k hk (.inl ⟨ho, hd⟩)
      · exact hx hk
    · exact h.apart k hk (.inr ho)
theorem lt_of_cells {w : World} {k : Nat} {o : Obj} (h : w.heap[k]? = some o) : k < w.heap.size := (Array.getElem?_eq_some_iff.1 h).1
theorem flatAs_rel {c c' : Cx} : ∀ {xs : List AV} {us : List Value}, flatAs xs = true → ARels c xs us → ARels c' xs us
  | [], _, _, h => h
  | .d x :: xs, us, hf, h => by
    simp only [flatAs, Bool.and_eq_true] at hf
    obtain ⟨u, us', rfl, h1, h2⟩ := h
    simp only [ARel] at h1
    exact ⟨u, us', rfl, by simp only [ARel]; exact flat_rel hf.1 h1, flatAs_rel hf.2 h2⟩
theorem thawRes_sound {L : Held σ} {s : σ} {c c2 : Cx} {w w' : World} {X X2 : Nat → Prop} {boxes b' : List Box} {tk : List Nat} {bs : List Box} {v v0 : AV} {u : Value} (e : thawRes v0 tk boxes = some (v, b')) (hG : Good L c boxes s X w)
    (hg : Good Held.none c2 bs () X2 w') (hE : EvoX (fun _ => False) ⟨[], [], [], c.ro, none, []⟩ w X2 c2 w') (htk : c2.toks = tk) (hv' : ARel c2 v0 u) :
    ∃ c', Good L c' b' s X w' ∧ EvoX X c w X c' w' ∧ c'.toks = c.toks ∧ ARel c' v u := by
  unfold thawRes at e
  split at e
  case h_2 => cases e
  rename_i t e0 es
  split at e
  case isFalse => cases e
  rename_i hc
  obtain ⟨ht, hfl, hz, hpos⟩ := hc
  cases e
  simp only [ARel] at hv'
  rcases hv' with ⟨b, cap, k, rfl, hcap, ⟨_, hrows⟩, n, hn, hln, hτ⟩ | ⟨hv', _⟩
  case inr => cases hv'
  rw [htk, ht] at hn
  have hlen : (e0 :: es).length = n := by simpa using Option.some.inj hn
  have hτ := hτ hlen
  have hown : c2.owns b := .inr ⟨t, _, hτ, rfl⟩
  have hbw : w.heap.size ≤ b := by
    rcases hE.new b hown with q | q
    · simp [Cx.owns] at q
    · exact q
  obtain ⟨_, cur, el, hcur, hcsz, _⟩ := hg.ok.tok t n b cap (k, false) (by rw [htk, ht, ← hlen]; simp) hτ
  have hcb : ∀ o, c.ro b o = Option.none := fun o => ro_new hG.ok b o hbw
  have hl : Left (fun _ => False) c.ro w (fun _ => False) ⟨fun x o => if x = b then Option.none else c2.ro x o, c.ro.pin, c2.ro.siz⟩ w' := by
    have hpin : c2.ro.pin = c.ro.pin := hE.le.ro.pin
    have hnp : ∀ x q, c.ro.pin x = some q → x ≠ b := fun x q e e' => by rw [e', hG.ok.ro.newpin hbw] at e; cases e
    refine ⟨⟨fun x o v e => ?_, rfl, hE.le.ro.siz⟩, ⟨fun x o v e => ?_, fun x q e => hg.ok.ro.whole x q (by rw [hpin]; exact e), fun x q e => ⟨(hg.ok.ro.known x q (by rw [hpin]; exact e)).1, fun o ho hz => by
      simp only [if_neg (hnp x q e)] at hz
      exact (hg.ok.ro.known x q (by rw [hpin]; exact e)).2 o ho hz⟩, hg.ok.ro.big⟩, hE.os, hE.tape, hE.output, hE.size, fun k hk _ => hE.keep k hk (by simp [Cx.owns]) (by simp), fun _ h => h.elim, fun x o h0 h1 => ?_⟩
    · have hne : x ≠ b := fun e' => by subst e'; rw [hcb o] at e; cases e
      simp only [if_neg hne]; exact hE.le.ro x o v e
    · simp only at e
      split at e
      · cases e
      · exact hg.ok.ro x o v e
    · simp only at h1
      split at h1
      · exact (h1 rfl).elim
      · rcases hE.ronew x o h0 h1 with q | q | q
        · simp [Cx.owns] at q
        · exact q.elim
        · exact .inr q
  obtain ⟨g1, g2⟩ := hG.pure hl
  obtain ⟨vs, q1, q2, q3⟩ := flat_cells (({ c with ro := ⟨fun x o => if x = b then Option.none else c2.ro x o, c.ro.pin, c2.ro.siz⟩ } : Cx).addBox b) hrows hfl
  have hvs : ∃ rest, cur = (vs ++ rest).toArray := by
    refine ⟨cur.toList.drop vs.length, ?_⟩
    apply Array.ext'
    rw [List.toList_toArray]
    apply List.ext_getElem?
    intro j
    by_cases hj : j < vs.length
    · rw [List.getElem?_append_left hj]
      have h3 := q3 j vs[j] (List.getElem?_eq_getElem hj)
      have h4 := hg.ok.ro b _ _ h3
      simp only [World.cell?, hcur] at h4
      rw [List.getElem?_eq_getElem hj]
      simpa using h4
    · rw [List.getElem?_append_right (by omega), List.getElem?_drop]
      congr 1; omega
  obtain ⟨rest, hrest⟩ := hvs
  have hnh : ¬ ({ c with ro := ⟨fun x o => if x = b then Option.none else c2.ro x o, c.ro.pin, c2.ro.siz⟩ } : Cx).has b := fun q => by
    have : b < w.heap.size := hG.ok.lt b q
    omega
  have hG2 := g1.adopt (b := b) (bx :=   .cells none (((e0 :: es).flatMap D.cells).map .d)) (lt_of_cells hcur) hnh (by simp) (fun hx => by have := L.lt hG.held b hx; omega) ⟨vs, rest, el, by rw [← hrest]; exact hcur, q1, TyOk.none⟩
  refine ⟨_, hG2, ⟨Cx.le_trans g2.le (Cx.le_addBox _ b), g2.os, g2.tape, g2.output, g2.size, g2.keep, fun k hk => ?_, g2.newX, g2.ronew, g2.dead⟩, rfl, ?_⟩
  · rcases hk with ⟨hk, hd⟩ | hk
    · simp only [Cx.addBox, List.mem_append, List.mem_singleton] at hk
      rcases hk with hk | rfl
      · exact .inl (.inl ⟨hk, hd⟩)
      · exact .inr hbw
    · exact .inl (.inr hk)
  · simp only [ARel]
    exact ⟨b, cap, by simp [Cx.addBox, hG.ok.len], by simpa using hcap, by simp⟩
theorem thaw_sound {glob : Nat → Option (List D)} {H : Hd} (hH : HSound P glob H) {f : FuncId} {ds : List D} {boxes b' : List Box} {v : AV} (e : thawCall H f ds boxes = some (v, b')) :
    (∀ us w, (callFunc f us).run P w = .ok (.enter f us) w) ∧
    ∀ (L : Held σ) (s : σ) (c : Cx) (w : World) (X : Nat → Prop) (us : List Value), Good L c boxes s X w → GlobIn P glob c.ro → DArgs c.ro ds us →
      Calls P f us.toArray w (fun e w' => ∃ c' u, e = .returned u ∧ Good L c' b' s X w' ∧ EvoX X c w X c' w' ∧ c'.toks = c.toks ∧ ARel c' v u) := by
  unfold thawCall at e
  have start : ∀ {v0 : AV} {bs : List Box} {tk : List Nat} {s0 : Unit}, H Unit noY f (ds.map .d) [] [] () = some (.ret v0, bs, tk, s0) →
      (∀ us w, (callFunc f us).run P w = .ok (.enter f us) w) ∧
      ∀ (L : Held σ) (s : σ) (c : Cx) (w : World) (X : Nat → Prop) (us : List Value), Good L c boxes s X w → GlobIn P glob c.ro → DArgs c.ro ds us →
        Calls P f us.toArray w (fun e w' => ∃ c2 X2 u, e = .returned u ∧ Good Held.none c2 bs () X2 w' ∧ EvoX (fun _ => False) ⟨[], [], [], c.ro, none, []⟩ w X2 c2 w' ∧ c2.toks = tk ∧ ARel c2 v0 u) := by
    intro v0 bs tk s0 hv
    obtain ⟨h1, h2⟩ := hH Unit noY Held.none f _ _ _ _ _ _ _ _ hv
    exact ⟨h1, fun L s c w X us hG hgl ha => h2 ⟨[], [], [], c.ro, none, []⟩ w (fun _ => False) us rfl rfl ⟨⟨hG.ok.ro, rfl, by simp, by simp, by simp [Cx.has], by simp, rfl, by simp, by simp, by simp, by simp⟩, fun _ h => h.elim, fun _ h => h.elim⟩ (DArgs.to rfl ha) ⟨hgl, by simp⟩⟩
  split at e
  · 
    rename_i r bs tk s0 hv
    split at e
    case isFalse => cases e
    rename_i hfl
    cases e
    obtain ⟨h1, h2⟩ := start hv
    refine ⟨h1, fun L s c w X us hG hgl ha => Calls.mono (h2 L s c w X us hG hgl ha) ?_⟩
    rintro e' w' ⟨c2, X2, u, rfl, hg, hE, htk, hv'⟩
    simp only [ARel] at hv'
    obtain ⟨us', eu, u0, us1, rfl, hn, hr⟩ := hv'
    have hl : Left (fun _ => False) c.ro w (fun _ => False) c.ro w' := by
      refine ⟨RO.le_refl _, ⟨fun b o v q => hg.ok.ro _ _ _ (hE.le.ro _ _ _ q), fun b n q => hg.ok.ro.whole b n (by rw [hE.le.ro.pin]; exact q), fun b n q => hG.ok.ro.known b n q, fun b n q => hg.ok.ro.big b n (hE.le.ro.siz _ _ q)⟩, hE.os, hE.tape, hE.output, hE.size, fun k hk _ => hE.keep k hk (by simp [Cx.owns]) (by simp), fun _ h => h.elim, fun b o h0 h1 => (h1 h0).elim⟩
    obtain ⟨g1, g2⟩ := hG.pure hl
    refine ⟨_, u, rfl, g1, g2, rfl, ?_⟩
    simp only [ARel]
    simp only [ARel] at hn
    exact ⟨_, eu, u0, us1, rfl, by simpa only [ARel] using hn, flatAs_rel hfl hr⟩
  · rename_i v0 r bs tk s0 hne hv
    split at e
    case isFalse => cases e
    rename_i hfl
    split at e
    case h_2 => cases e
    rename_i v1 b1 hth
    cases e
    obtain ⟨h1, h2⟩ := start hv
    refine ⟨h1, fun L s c w X us hG hgl ha => Calls.mono (h2 L s c w X us hG hgl ha) ?_⟩
    rintro e' w' ⟨c2, X2, u, rfl, hg, hE, htk, hv'⟩
    simp only [ARel] at hv'
    obtain ⟨us', eu, u0, us1, rfl, hn, hr⟩ := hv'
    obtain ⟨c', q1, q2, q3, q4⟩ := thawRes_sound hth hG hg hE htk hn
    refine ⟨c', u, rfl, q1, q2, q3, ?_⟩
    simp only [ARel]
    exact ⟨_, eu, u0, us1, rfl, q4, flatAs_rel hfl hr⟩
  · rename_i v0 bs tk s0 hne1 hne2 hv
    obtain ⟨h1, h2⟩ := start hv
    refine ⟨h1, fun L s c w X us hG hgl ha => Calls.mono (h2 L s c w X us hG hgl ha) ?_⟩
    rintro e' w' ⟨c2, X2, u, rfl, hg, hE, htk, hv'⟩
    obtain ⟨c', q1, q2, q3, q4⟩ := thawRes_sound e hG hg hE htk hv'
    exact ⟨c', u, rfl, q1, q2, q3, q4⟩
  · cases e
end Ev
