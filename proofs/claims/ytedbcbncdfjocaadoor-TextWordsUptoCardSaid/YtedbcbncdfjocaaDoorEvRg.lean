/- What functions of the program compute, as plain Lean functions, each with its proof by the reader (EvRg); printed by a tool of this work. -/
import Derived.Test.YtedbcbncdfjocaaDoorEvS
set_option linter.unusedSimpArgs false
set_option linter.unusedVariables false
namespace Ev
open Go
variable {σ β : Type} {C : Cfg} {T : Told} {H : Hd} {Y : Yd σ}
def straight : Code → Bool
  | .skip => true
  | .region .. => true
  | .seq a b => straight a && straight b
  | _ => false
theorem straight_normal {f : FuncId} {lim : Nat} {rnd : Bool} : ∀ {code : Code} {st st' : St σ} {ex : Ex}, straight code = true → evCode C H f lim rnd σ Y code st = some (ex, st') → isPanic ex = false → ex = .normal := by
  intro code
  induction code with
  | skip => intro st st' ex _ h _; cases h; rfl
  | region id ops draw =>
    intro st st' ex _ h hp
    cases draw with
    | false => simp only [evCode] at h; exact evOps_ex hp h
    | true =>
      simp only [evCode] at h
      split at h
      · split at h <;> cases h
        rfl
      · cases h
  | seq a b iha ihb =>
    intro st st' ex hs h hp
    simp only [straight, Bool.and_eq_true] at hs
    simp only [evCode] at h
    split at h
    · exact ihb hs.2 h hp
    · rename_i hne
      have := iha hs.1 h hp
      subst this
      exact (hne _ h).elim
  | _ => intro st st' ex hs; simp [straight] at hs
def IterOk (H : Hd) (f : FuncId) (caps : List AV) (lent : List Box) {ι : Type} (encL : ι → List Box) (I : (σ : Type) → Yd σ → σ → Option (ι × σ)) : Prop :=
  ∀ (σ : Type) (Y : Yd σ) (s s' : σ) (i' : ι), I σ Y s = some (i', s') → ∃ v tk, H σ Y f (.yld :: caps) lent [] s = some (.ret v, encL i', tk, s')
def IterSim {ι : Type} (I : (σ : Type) → Yd σ → σ → Option (ι × σ)) : Prop := ∀ (σ τ : Type) (Y : Yd σ) (W : Yd τ) (enc : τ → σ), (∀ xs a b a', W xs a = some (b, a') → Y xs (enc a) = some (b, enc a')) → ∀ a i' a', I τ W a = some (i', a') → I σ Y (enc a) = some (i', enc a')
def SimO {γ σ τ : Type} (enc : τ → σ) (x : Option (γ × τ)) (y : Option (γ × σ)) : Prop := ∀ o s, x = some (o, s) → y = some (o, enc s)
theorem sim_some {γ σ τ : Type} {enc : τ → σ} (o : γ) (s : τ) : SimO enc (some (o, s)) (some (o, enc s)) := fun o' s' e => by cases e; rfl
theorem sim_none {γ σ τ : Type} {enc : τ → σ} {y : Option (γ × σ)} : SimO enc none y := fun o s e => by cases e
theorem sim_bif {γ σ τ : Type} {enc : τ → σ} {b : Bool} {x x' : Option (γ × τ)} {y y' : Option (γ × σ)} (h : SimO enc x y) (h' : SimO enc x' y') : SimO enc (bif b then x else x') (bif b then y else y') := by cases b <;> assumption
theorem sim_ask {γ σ τ : Type} {enc : τ → σ} {p : Prop} [Decidable p] {x : Option (γ × τ)} {y : Option (γ × σ)} (h : SimO enc x y) : SimO enc (ask p x) (ask p y) := fun o s e => by
  obtain ⟨e1, e2⟩ := ask_some e
  unfold ask
  rw [if_pos e1]; exact h o s e2
theorem sim_pure {γ δ σ τ : Type} {enc : τ → σ} {z : Option δ} {f : δ → Option (γ × τ)} {g : δ → Option (γ × σ)} (h : ∀ v, SimO enc (f v) (g v)) : SimO enc (z.bind f) (z.bind g) := fun o s e => by
  obtain ⟨v, e1, e2⟩ := bind_some e
  rw [e1]; exact h v o s e2
theorem sim_bind {γ δ σ τ : Type} {enc : τ → σ} {x : Option (δ × τ)} {y : Option (δ × σ)} {f : δ × τ → Option (γ × τ)} {g : δ × σ → Option (γ × σ)} (hx : SimO enc x y) (h : ∀ v s, SimO enc (f (v, s)) (g (v, enc s))) : SimO enc (x.bind f) (y.bind g) := fun o s e => by
  obtain ⟨⟨v, s1⟩, e1, e2⟩ := bind_some e
  rw [hx v s1 e1]; exact h v s1 o s e2
def lookD {α : Type} (d : α) : List (Nat × α) → Nat → α
  | [], _ => d
  | (g, e) :: r, k => bif Nat.beq g k then e else lookD d r k
theorem beq_self (k : Nat) : Nat.beq k k = true := by
  induction k with
  | zero => rfl
  | succ k ih => exact ih
theorem beq_ne {a b : Nat} (h : a ≠ b) : Nat.beq a b = false := by
  cases e : Nat.beq a b with
  | false => rfl
  | true => exact (h (Nat.eq_of_beq_eq_true e)).elim
theorem setParams_len : ∀ (ps : List Tmp) (xs env : List AV), (setParams env ps xs).length = env.length
  | [], _, _ => by simp [setParams]
  | _ :: _, [], _ => by simp [setParams]
  | p :: ps, x :: xs, env => by simp [setParams, setParams_len ps xs]
theorem setParams_get : ∀ (ps : List Tmp) (xs env : List AV) (k : Nat), ps.Nodup → (∀ p ∈ ps, p < env.length) → xs.length = ps.length → (setParams env ps xs).getD k .undef = if k ∈ ps then lookD .undef (ps.zip xs) k else env.getD k .undef
  | [], xs, env, k, _, _, _ => by simp [setParams]
  | p :: ps, [], env, k, _, _, h => by simp at h
  | p :: ps, x :: xs, env, k, hn, hl, h => by
    obtain ⟨h1, h2⟩ := List.nodup_cons.1 hn
    simp only [setParams]
    rw [setParams_get ps xs _ k h2 (fun q hq => by simpa using hl q (by simp [hq])) (by simpa using h)]
    by_cases hk : k ∈ ps
    · have hne : p ≠ k := fun e => h1 (e ▸ hk)
      rw [if_pos hk, if_pos (by simp [hk])]
      simp only [List.zip_cons_cons, lookD, beq_ne hne, cond_false]
    · rw [if_neg hk]
      by_cases hpk : p = k
      · subst hpk
        rw [if_pos (by simp), List.getD_eq_getElem?_getD]
        simp [hl p (by simp), lookD, beq_self]
      · rw [if_neg (by simp [hk]; exact fun e => hpk e.symm), List.getD_eq_getElem?_getD, List.getElem?_set_ne hpk, ← List.getD_eq_getElem?_getD]
theorem lookD_zip (f : Nat → AV) : ∀ (ks : List Nat) (k : Nat), k ∈ ks → lookD .undef (ks.zip (ks.map f)) k = f k
  | [], k, h => by cases h
  | j :: ks, k, h => by
    simp only [List.map_cons, List.zip_cons_cons, lookD]
    by_cases hj : j = k
    · subst hj; simp [beq_self]
    · rw [beq_ne hj, cond_false]
      exact lookD_zip f ks k ((List.mem_cons.1 h).resolve_left (fun e => hj e.symm))
structure RangeS (Pi Xi α Ω : Type) where
  n : Nat
  ks : List Nat
  ps : List Tmp
  ks0 : List Nat
  m : Nat
  mt : Nat
  decE : List AV → Option Pi
  encE : Pi → List AV
  decX : List D → Option Xi
  encX : Xi → List D
  decB : List Box → List Nat → Option α
  encB : α → List Box
  tk : α → List Nat
  decO : Ex → List Box → List Nat → Option Ω
  exO : Ω → Ex
  outB : Ω → List Box
  tkO : Ω → List Nat
  elim : {β : Type} → Ω → (Ex → List Box → List Nat → Option β) → Option β
structure RangeS.Ok {Pi Xi α Ω : Type} (l : RangeS Pi Xi α Ω) : Prop where
  ok1 : okKs l.n l.ks = true
  ok2 : okKs l.n l.ps = true
  ok3 : l.ks.all (fun k => l.ps.contains k || l.ks0.contains k) = true
  decE : ∀ vs p, l.decE vs = some p → vs = l.encE p
  decX : ∀ xs x, l.decX xs = some x → xs = l.encX x
  lenX : ∀ x, (l.encX x).length = l.ps.length
  decB : ∀ bs ts a, l.decB bs ts = some a → bs = l.encB a
  lenB : ∀ a, (l.encB a).length = l.m ∧ (l.tk a).length = l.mt
  decO : ∀ ex bs ts o, l.decO ex bs ts = some o → ex = l.exO o ∧ bs = l.outB o
  exO : ∀ o, l.exO o ≠ .normal ∧ isPanic (l.exO o) = false
  elim : ∀ (β : Type) (o : Ω) (k : Ex → List Box → List Nat → Option β), l.elim o k = k (l.exO o) (l.outB o) (l.tkO o)
section
variable {Pi Xi α Ω : Type} (l : RangeS Pi Xi α Ω)
def RangeS.encS (p : Pi) (x : Xi) (a : α) (s : σ) : St σ := { env := fillE l.n l.ks (l.ks.map fun k => if l.ps.contains k then lookD .undef (l.ps.zip ((l.encX x).map .d)) k else lookD .undef (l.ks0.zip (l.encE p)) k), boxes := l.encB a, toks := l.tk a, s }
def RangeS.next : Ex → St σ → Option (Bool × ((α ⊕ Ω) × σ))
  | .normal, st => (l.decB (gcSt l.m l.mt st).boxes (gcSt l.m l.mt st).toks).bind fun a => ask ((gcSt l.m l.mt st).toks = l.tk a) (some (true, (Sum.inl a, st.s)))
  | .exit j, st => (l.decO (.exit j) (gcSt l.m l.mt st).boxes (gcSt l.m l.mt st).toks).bind fun o => ask ((gcSt l.m l.mt st).toks = l.tkO o) (some (false, (Sum.inr o, st.s)))
  | .ret, st => (l.decO .ret (gcSt l.m l.mt st).boxes (gcSt l.m l.mt st).toks).bind fun o => ask ((gcSt l.m l.mt st).toks = l.tkO o) (some (false, (Sum.inr o, st.s)))
  | .panic _, _ => none
def RangeS.encQ : (α ⊕ Ω) × σ → List Box × List Nat × σ × Option Ex
  | (.inl a, s) => (l.encB a, l.tk a, s, none)
  | (.inr o, s) => (l.outB o, l.tkO o, s, some (l.exO o))
theorem RangeS.Ok.head {l : RangeS Pi Xi α Ω} (h : l.Ok) {env : List AV} (hn : env.length = l.n) {p : Pi} (hp : l.ks0.map (fun k => env.getD k .undef) = l.encE p) (x : Xi) (a : α) (s : σ) :
    cleanSt (some l.ks) ({ env := setParams env l.ps ((l.encX x).map .d), boxes := l.encB a, toks := l.tk a, s := s } : St σ) = l.encS p x a s := by
  have hps := h.ok2
  simp only [okKs, Bool.and_eq_true, List.all_eq_true, decide_eq_true_eq] at hps
  simp only [cleanSt, RangeS.encS]
  rw [fill_eq h.ok1 (by rw [setParams_len]; exact hn)]
  congr 2
  apply List.map_congr_left
  intro k hk
  rw [setParams_get _ _ _ _ (distinct_nodup hps.1) (by rw [hn]; exact hps.2) (by rw [List.length_map]; exact h.lenX x)]
  by_cases hkp : k ∈ l.ps
  · rw [if_pos hkp, if_pos (by simpa using hkp)]
  · rw [if_neg hkp, if_neg (by simpa using hkp), ← hp]
    have h3 := List.all_eq_true.1 h.ok3 k hk
    simp only [Bool.or_eq_true, List.contains_iff_mem] at h3
    exact (lookD_zip (fun k => env.getD k .undef) l.ks0 k (h3.resolve_left hkp)).symm
theorem RangeS.Ok.sim {l : RangeS Pi Xi α Ω} (h : l.Ok) {f : FuncId} {assign body : Code} (hst : straight assign = true) (hh : headLive C f (.seq assign body) = some l.ks) {inl : InlE σ (Bool × ((α ⊕ Ω) × σ))} (hp : PureOk T H) (hI : InlOk H Y inl) {seg : Nat → Option (SegE σ)} (hs : SegsOk C H f true Y seg (.seq assign body))
    {W : Pi → Yd ((α ⊕ Ω) × σ)} (hW0 : ∀ p xs q r, W p xs q = some r → ∃ x a s, xs = l.encX x ∧ q = (.inl a, s)) (hW : ∀ p x a s, W p (l.encX x) (.inl a, s) = evK C T Y inl seg f (.seq assign body) (l.encS p x a s) (fun ex st' => l.next ex st'))
    {env : List AV} (hn : env.length = l.n) {p : Pi} (hpE : l.ks0.map (fun k => env.getD k .undef) = l.encE p) :
    ∀ xs q b q', W p xs q = some (b, q') → roundY (evCode C H f C.lim true σ Y assign) (evCode C H f C.lim true σ Y body) env l.ps l.m l.mt xs (l.encQ q) = some (b, l.encQ q') := by
  intro xs q b q' e
  obtain ⟨x, a, s, rfl, rfl⟩ := hW0 _ _ _ _ e
  rw [hW] at e
  obtain ⟨ex, st', h1, hx, h2⟩ := evK_sound hp hI hs e
  rw [← h.head hn hpE x a s, headClean hh] at h1
  simp only [RangeS.encQ, roundY, h.lenX, if_true]
  simp only [evCode] at h1
  split at h1
  · rename_i st1 ha
    simp only [h1]
    cases ex with
    | normal =>
      simp only [RangeS.next] at h2 ⊢
      obtain ⟨a', q1, q2⟩ := bind_some h2
      obtain ⟨q3, q4⟩ := ask_some q2
      cases q4
      have hb := h.decB _ _ _ q1
      simp only [RangeS.encQ]
      rw [hb, q3]
    | exit j =>
      simp only [RangeS.next] at h2 ⊢
      obtain ⟨o, q1, q2⟩ := bind_some h2
      obtain ⟨q3, q4⟩ := ask_some q2
      cases q4
      obtain ⟨he, hb⟩ := h.decO _ _ _ _ q1
      simp only [RangeS.encQ]
      rw [hb, q3, he]
    | ret =>
      simp only [RangeS.next] at h2 ⊢
      obtain ⟨o, q1, q2⟩ := bind_some h2
      obtain ⟨q3, q4⟩ := ask_some q2
      cases q4
      obtain ⟨he, hb⟩ := h.decO _ _ _ _ q1
      simp only [RangeS.encQ]
      rw [hb, q3, he]
    | panic v => cases hx
  · rename_i hne
    have := straight_normal hst h1 hx
    subst this
    exact (hne _ h1).elim
def rangeLeft (C : Cfg) (f bid : Nat) (st : St σ) (rs : List Nat) (lent' : List Box) (bs : List Box) (tk : List Nat) (s : σ) : St σ := leaveSt (C.out f bid) st.boxes.length st.toks.length { env := st.env, boxes := merge bs rs (lent'.map (Box.ren (backIdx rs 0) id)) false, toks := tk, s }
def lentClean (rs : List Nat) (lent' : List Box) : Bool := lent'.length == rs.length && (lent'.flatMap Box.refs).all (fun i => decide (i < rs.length)) && (lent'.flatMap Box.tks).isEmpty && lent'.all noYldB
noncomputable def RangeS.seg (C : Cfg) (f bid : Nat) (g : Operand) {ι : Type} (it : FuncId) (itDec : List AV → List Box → Option ι) (encL : ι → List Box) (I : ι → (σ : Type) → Yd σ → σ → Option (ι × σ)) (σ : Type) (W : Pi → Yd ((α ⊕ Ω) × σ)) : SegE σ := fun st k =>
  match operand st.env g with
  | .func (.func f') [] caps =>
    let rs := lentB caps st.boxes
    let lent := rs.map fun i => st.boxes.getD i .gone
    let lent' := lent.map (Box.ren (indexOf · rs) id)
    if f' = it ∧ (lendOk rs [] caps lent st.boxes st.toks && noYldL caps && lent.all noYldB) = true ∧ st.env.length = l.n ∧ st.boxes.length = l.m ∧ st.toks.length = l.mt then
      (itDec (renL (indexOf · rs) id caps) lent').bind fun i =>
      (l.decE (l.ks0.map fun k => st.env.getD k .undef)).bind fun p =>
      (l.decB (putBack st.boxes (rs.map fun i => (i, .gone))) st.toks).bind fun a =>
      ask (st.toks = l.tk a) ((I i ((α ⊕ Ω) × σ) (W p) (.inl a, st.s)).bind fun q => if lentClean rs (encL q.1) then match q.2.1 with
        | .inl a' => k .normal (rangeLeft C f bid st rs (encL q.1) (l.encB a') (l.tk a') q.2.2)
        | .inr o => l.elim o fun ex bs tk => match ex with
          | .exit j => if j = bid then k .normal (rangeLeft C f bid st rs (encL q.1) bs tk q.2.2) else k (.exit j) (rangeLeft C f bid st rs (encL q.1) bs tk q.2.2)
          | .ret => k .ret (rangeLeft C f bid st rs (encL q.1) bs tk q.2.2)
          | _ => none
        else none)
    else none
  | _ => none
theorem RangeS.segOk {l : RangeS Pi Xi α Ω} (h : l.Ok) {f bid : Nat} {g : Operand} {ps : Array Tmp} (hps : ps.toList = l.ps) {assign body : Code} (hst : straight assign = true) (hh : headLive C f (.seq assign body) = some l.ks) {inl : InlE σ (Bool × ((α ⊕ Ω) × σ))} (hp : PureOk T H) (hI : InlOk H Y inl) {seg : Nat → Option (SegE σ)} (hs : SegsOk C H f true Y seg (.seq assign body))
    {W : Pi → Yd ((α ⊕ Ω) × σ)} (hW0 : ∀ p xs q r, W p xs q = some r → ∃ x a s, xs = l.encX x ∧ q = (.inl a, s)) (hW : ∀ p x a s, W p (l.encX x) (.inl a, s) = evK C T Y inl seg f (.seq assign body) (l.encS p x a s) (fun ex st' => l.next ex st'))
    {ι : Type} {it : FuncId} {itDec : List AV → List Box → Option ι} {encL : ι → List Box} {I : ι → (σ : Type) → Yd σ → σ → Option (ι × σ)} (hIt : ∀ caps lent i, itDec caps lent = some i → IterOk H it caps lent encL (I i)) (hSim : ∀ i, IterSim (I i)) :
    SegOk C H f false Y (l.seg C f bid g it itDec encL I σ W) (.block bid (.rangeFunc g ps assign body)) := by
  intro β st k r e
  unfold RangeS.seg at e
  dsimp only at e
  split at e
  case h_2 => cases e
  rename_i f' caps hg
  split at e
  case isFalse => cases e
  rename_i hc
  obtain ⟨rfl, hlo, hn, hm, hmt⟩ := hc
  obtain ⟨i, e1, e⟩ := bind_some e
  obtain ⟨p, e2, e⟩ := bind_some e
  obtain ⟨a, e3, e⟩ := bind_some e
  obtain ⟨e4, e⟩ := ask_some e
  obtain ⟨⟨i', q, s'⟩, e5, e⟩ := bind_some e
  split at e
  case isFalse => cases e
  rename_i hcl
  have hpE := h.decE _ _ e2
  have ha := h.decB _ _ _ e3
  have hsim := h.sim hst hh hp hI hs hW0 hW hn hpE
  have hIq := hSim i _ _ (roundY (evCode C H f C.lim true σ Y assign) (evCode C H f C.lim true σ Y body) st.env l.ps l.m l.mt) (W p) l.encQ hsim _ _ _ e5
  obtain ⟨v, tk0, hH⟩ := hIt _ _ _ e1 _ _ _ _ _ hIq
  simp only [lentClean, Bool.and_eq_true, beq_iff_eq] at hcl
  obtain ⟨⟨⟨c1, c2⟩, c3⟩, c4⟩ := hcl
  have hev : ∀ bs1 tk1 s1 e1, l.encQ (q, s') = (bs1, tk1, s1, e1) → evIter H (evCode C H f C.lim true σ Y assign) (evCode C H f C.lim true σ Y body) g ps.toList st = some (e1.getD .normal, { env := st.env, boxes := merge bs1 (lentB caps st.boxes) ((encL i').map (Box.ren (backIdx (lentB caps st.boxes) 0) id)) false, toks := tk1, s := s1 }) := by
    intro bs1 tk1 s1 e1 he
    have hH' := hH
    have hq0 : l.encQ (Sum.inl a, st.s) = (l.encB a, l.tk a, st.s, none) := rfl
    rw [hq0, he, ← ha, ← e4, ← hm, ← hmt] at hH'
    unfold evIter
    rw [hg]
    dsimp only
    rw [if_pos hlo, hps, hH']
    simp only
    rw [if_neg]
    · simp only [Bool.or_eq_true, not_or]
      rw [List.take_of_length_le (by rw [c1]; exact Nat.le_refl _)]
      refine ⟨⟨?_, by rw [c3]; simp⟩, by rw [c4]; simp⟩
      intro hany
      obtain ⟨x, hx, hxl⟩ := List.any_eq_true.1 hany
      have := List.all_eq_true.1 c2 x hx
      simp at this hxl
      omega
  have fin : ∀ ex bs1 tk1, evIter H (evCode C H f C.lim true σ Y assign) (evCode C H f C.lim true σ Y body) g ps.toList st = some (ex, { env := st.env, boxes := merge bs1 (lentB caps st.boxes) ((encL i').map (Box.ren (backIdx (lentB caps st.boxes) 0) id)) false, toks := tk1, s := s' }) →
      evCode C H f C.lim false σ Y (.block bid (.rangeFunc g ps assign body)) st = some (match ex with | .exit j => if j = bid then .normal else .exit j | ex => ex, rangeLeft C f bid st (lentB caps st.boxes) (encL i') bs1 tk1 s') := by
    intro ex bs1 tk1 he
    simp only [evCode, Bool.false_eq_true, if_false, he]
    cases ex with
    | exit j =>
      simp only [rangeLeft]
      split <;> rfl
    | _ => rfl
  cases q with
  | inl a' => exact ⟨_, _, fin _ _ _ (hev _ _ _ _ rfl), rfl, e⟩
  | inr o =>
    simp only at e
    rw [h.elim] at e
    have hq := hev _ _ _ _ rfl
    simp only [Option.getD_some] at hq
    have hx := h.exO o
    cases ho : l.exO o with
    | normal => exact (hx.1 ho).elim
    | panic v => rw [ho] at hx; simp [isPanic] at hx
    | ret =>
      rw [ho] at e hq
      exact ⟨_, _, fin _ _ _ hq, rfl, e⟩
    | exit j =>
      rw [ho] at e hq
      simp only at e
      refine ⟨_, _, fin _ _ _ hq, ?_, ?_⟩
      · dsimp only; split <;> rfl
      · dsimp only
        split
        · rename_i hj; rw [if_pos hj] at e; exact e
        · rename_i hj; rw [if_neg hj] at e; exact e
end
def rangeG (fn : Func) (i : Nat) : Operand := match fn.body with | some c => (match codeAt i c with | some (.rangeFunc g _ _ _) => g | _ => .tmp 0) | none => .tmp 0
def rangeP (fn : Func) (i : Nat) : Array Tmp := match fn.body with | some c => (match codeAt i c with | some (.rangeFunc _ p _ _) => p | _ => #[]) | none => #[]
def rangeA (fn : Func) (i : Nat) : Code := match fn.body with | some c => (match codeAt i c with | some (.rangeFunc _ _ a _) => a | _ => .skip) | none => .skip
def rangeB (fn : Func) (i : Nat) : Code := match fn.body with | some c => (match codeAt i c with | some (.rangeFunc _ _ _ b) => b | _ => .skip) | none => .skip
noncomputable def inlI (C : Cfg) (T : Told) {σ : Type} (Y : Yd σ) {β : Type} : InlE σ β := inlK C T Y (fun _ _ => none) 3
theorem inlI_ok {tab : Tab} (h : TabOk C.P C.glob tab) (hC : C.ext = extOf tab) (hT : ∀ f, T.pure f = look tab f) (hM : ∀ n, MethOk T (evFn C n)) {Y : Yd σ} : InlOk (β := β) (evFn C 8) Y (inlI C T Y) :=
  inlK_sound (N := 1) (fun n hn => pureOk_of h hC hT n hn) (fun n _ => hM n) (fun n _ f fn c _ _ => segsOk_nil c) 3 8 (by omega)
theorem told_loopI {P : Program} {t : Tabs} {tab : Tab} (h : TabOk P t.glob tab) {α Ω σ : Type} {Y : Yd σ} {l : LoopS α Ω} (hl : l.Ok) {f : FuncId} {rnd : Bool} {id : Nat} {body : Code} (hh : headLive (cfgOf P t tab) f body = some l.ks) (ho : (cfgOf P t tab).out f id = some l.kso)
    {L : Nat → α → σ → Option (Ω × σ)} (h0 : ∀ a s, L 0 a s = none) {seg : Nat → Option (SegE σ)} (hs : SegsOk (cfgOf P t tab) (evFn (cfgOf P t tab) 8) f rnd Y seg body)
    (hL : ∀ n a s, L (n + 1) a s = evK (cfgOf P t tab) (toldOf tab) Y (inlI (cfgOf P t tab) (toldOf tab) Y) seg f body ((l.toT σ).enc a s) (fun ex st' => l.next (cfgOf P t tab) f id (L n) ex st'))
    (hr : (cfgOf P t tab).raw f (firstReg body) = false := by rfl) : SegOk (cfgOf P t tab) (evFn (cfgOf P t tab) 8) f rnd Y (l.seg σ (L 1000000000000)) (.block id (.loop body)) :=
  LoopS.segOk hl hh ho hr h0 (T := toldOf tab) (pureOk_of (C := cfgOf P t tab) h rfl (fun _ => rfl) 8 (by omega)) (inlI_ok (C := cfgOf P t tab) h rfl (fun _ => rfl) (fun n => noMeth (fun _ => rfl))) hs hL
theorem told_iter {P : Program} {t : Tabs} {tab : Tab} (h : TabOk P t.glob tab) {f : FuncId} {fn : Func} (hf : P.funcs[f]? = some fn) (hen : enters fn = true) (hx : look tab f = none) {ι : Type} {capsOf : ι → List AV} {encL : ι → List Box} {decL : List Box → Option ι} (hdec : ∀ b i, decL b = some i → b = encL i)
    {n : {σ : Type} → Yd σ → ι → σ → Option (ι × σ)} {seg : {σ : Type} → Yd σ → Nat → Option (SegE σ)} (hc : fn.body = some (bodyOf fn)) (hs : ∀ (σ : Type) (Y : Yd σ), SegsOk (cfgOf P t tab) (evFn (cfgOf P t tab) 8) f false Y (seg Y) (bodyOf fn))
    (hn : ∀ (σ : Type) (Y : Yd σ) i (s : σ), n Y i s = bodyK (cfgOf P t tab) (toldOf tab) Y (inlI (cfgOf P t tab) (toldOf tab) Y) (seg Y) f fn (.yld :: capsOf i) (encL i) [] s (fun _ b _ s => (decL b).bind fun i => some (i, s))) (i : ι) :
    IterOk (evFn (cfgOf P t tab) 9) f (capsOf i) (encL i) encL (fun σ Y s => n Y i s) := by
  intro σ Y s s' i' e
  dsimp only at e
  rw [hn] at e
  obtain ⟨v, b, tk, s1, q1, q2⟩ := bodyK_sound (H := evFn (cfgOf P t tab) 8) (pureOk_of (C := cfgOf P t tab) h rfl (fun _ => rfl) 8 (by omega)) (inlI_ok (C := cfgOf P t tab) h rfl (fun _ => rfl) (fun n => noMeth (fun _ => rfl))) (fun c hc' => by rw [hc] at hc'; cases hc'; exact hs σ Y) e
  obtain ⟨i2, q3, q4⟩ := bind_some q2
  cases q4
  have hb := hdec _ _ q3
  subst hb
  have hx' : (cfgOf P t tab).ext f = none := by
    show extOf tab f = none
    simp only [extOf, hx]
  have hf' : (cfgOf P t tab).P.funcs[f]? = some fn := hf
  refine ⟨v, tk, ?_⟩
  show evFn (cfgOf P t tab) (8 + 1) σ Y f _ _ _ _ = _
  simp only [evFn, hx', hf', hen, if_true]
  exact q1
theorem told_range {P : Program} {t : Tabs} {tab : Tab} (h : TabOk P t.glob tab) {Pi Xi α Ω σ : Type} {Y : Yd σ} {l : RangeS Pi Xi α Ω} (hl : l.Ok) {f bid : Nat} {g : Operand} {ps : Array Tmp} (hps : ps.toList = l.ps) {assign body : Code} (hst : straight assign = true) (hh : headLive (cfgOf P t tab) f (.seq assign body) = some l.ks)
    {seg : Nat → Option (SegE σ)} (hs : SegsOk (cfgOf P t tab) (evFn (cfgOf P t tab) 9) f true Y seg (.seq assign body))
    {W : Pi → Yd ((α ⊕ Ω) × σ)} (hW0 : ∀ p xs q r, W p xs q = some r → ∃ x a s, xs = l.encX x ∧ q = (.inl a, s)) (hW : ∀ p x a s, W p (l.encX x) (.inl a, s) = evK (cfgOf P t tab) (toldOf tab) Y (inlN (cfgOf P t tab) (toldOf tab) Y) seg f (.seq assign body) (l.encS p x a s) (fun ex st' => l.next ex st'))
    {ι : Type} {it : FuncId} {itDec : List AV → List Box → Option ι} {encL : ι → List Box} {I : ι → (σ : Type) → Yd σ → σ → Option (ι × σ)} (hIt : ∀ caps lent i, itDec caps lent = some i → IterOk (evFn (cfgOf P t tab) 9) it caps lent encL (I i)) (hSim : ∀ i, IterSim (I i)) :
    SegOk (cfgOf P t tab) (evFn (cfgOf P t tab) 9) f false Y (l.seg (cfgOf P t tab) f bid g it itDec encL I σ W) (.block bid (.rangeFunc g ps assign body)) :=
  RangeS.segOk (T := toldOf tab) hl hps hst hh (pureOk_of (C := cfgOf P t tab) h rfl (fun _ => rfl) 9 (by omega)) (inlN_ok (C := cfgOf P t tab) h rfl (fun _ => rfl) (N := 0) (fun n _ => noMeth (fun _ => rfl))) hs hW0 hW hIt hSim
end Ev
