/- What functions of the program compute, as plain Lean functions, each with its proof by a proved reader; plain laws about them (EvT). -/
import Derived.Test.YtohmflkolmobmaaGreatDoorEvKs
import Derived.Test.YtohmflkolmobmaaGreatDoorEvF
set_option linter.unusedSimpArgs false
set_option linter.unusedVariables false
namespace Ev
open Go
variable {σ β : Type} {C : Cfg} {T : Told} {H : Hd} {Y : Yd σ}
def AllSegs (C : Cfg) (H : Hd) (Y : Yd σ) (segs : FuncId → Nat → Option (SegE σ)) : Prop := ∀ f fn c, C.P.funcs[f]? = some fn → fn.body = some c → SegsOk C H f false Y (segs f) c
theorem inlK_sound {segs : FuncId → Nat → Option (SegE σ)} {N : Nat} (hP : ∀ n, N ≤ n → PureOk T (evFn C n)) (hM : ∀ n, N ≤ n → MethOk T (evFn C n)) (hS : ∀ n, N ≤ n → AllSegs C (evFn C n) Y segs) :
    ∀ d n, N + d ≤ n → InlPOk (β := β) (evFn C n) Y (inlK C T Y segs d) := by
  intro d
  induction d with
  | zero => intro n _ f args boxes toks s k r h; cases h
  | succ d ih =>
    intro n hn f args boxes toks s k r h
    simp only [inlK] at h
    split at h
    · cases h
    rename_i hx
    have hx' : C.ext f = none := by
      cases e : C.ext f with
      | none => rfl
      | some g => rw [e] at hx; simp at hx
    obtain ⟨m, rfl⟩ : ∃ m, n = m + 1 := ⟨n - 1, by omega⟩
    split at h
    · rename_i e he
      obtain ⟨o, b, t, h1, h2⟩ := e.fair _ _ _ _ _ _ h
      exact ⟨o, b, t, s, by simp only [evFn, hx', he, h1], h2⟩
    · rename_i hme
      split at h
      · rename_i fn hfn
        split at h
        · rename_i hen
          obtain ⟨v, b, t, s', h1, h2⟩ := bodyK_sound (hP m (by omega)) (ih m (by omega)) (fun c hc => hS m (by omega) f fn c hfn hc) h
          simp only [Bool.and_eq_true, Bool.not_eq_true'] at hen
          exact ⟨v, b, t, s', by simp only [evFn, hx', hme, hfn, hen.1, hen.2, if_true, Bool.false_eq_true, if_false]; exact h1, h2⟩
        · cases h
      · cases h
def headLive (C : Cfg) (f : FuncId) : Code → Option (List Nat)
  | .region id _ _ => C.live f id
  | .seq a b => match a with
    | .skip => headLive C f b
    | a => headLive C f a
  | .block _ c => headLive C f c
  | _ => none
theorem clean_idem : ∀ (xs : List AV) (ks : List Nat) (i : Nat), cleanFrom ks i (cleanFrom ks i xs) = cleanFrom ks i xs
  | [], ks, i => by simp [cleanFrom]
  | x :: xs, [], i => by simp [cleanFrom, clean_idem xs]
  | x :: xs, k :: ks, i => by
    by_cases h : i = k
    · simp [cleanFrom, h, clean_idem xs]
    · simp [cleanFrom, h, clean_idem xs]
theorem cleanSt_idem (ks : List Nat) (st : St σ) : cleanSt (some ks) (cleanSt (some ks) st) = cleanSt (some ks) st := by
  simp [cleanSt, clean_idem]
theorem headClean {f : FuncId} {lim : Nat} {rnd : Bool} {ks : List Nat} : ∀ {code : Code}, headLive C f code = some ks → ∀ st : St σ, evCode C H f lim rnd σ Y code (cleanSt (some ks) st) = evCode C H f lim rnd σ Y code st := by
  intro code
  induction code with
  | region id ops draw =>
    intro h st
    simp only [headLive] at h
    have : hookSt C f id (cleanSt (some ks) st) = hookSt C f id st := by simp only [hookSt, h, cleanSt_idem]
    cases draw <;> simp only [evCode, this]
  | seq a b iha ihb =>
    intro h st
    by_cases hs : a = .skip
    · subst hs
      have h' : headLive C f b = some ks := h
      simp only [evCode, ihb h' st]
    · have h' : headLive C f a = some ks := by
        cases a <;> first | exact h | exact (hs rfl).elim
      simp only [evCode, iha h' st]
  | block id c ih =>
    intro h st
    obtain ⟨k1, k2, _⟩ := cleanSt_boxes (some ks) st
    simp only [evCode, ih h st, k1, k2]
  | _ => intro h; simp [headLive] at h
def segOr (p : St σ → Bool) (a b : SegE σ) : SegE σ := fun st k => bif p st then a st k else b st k
theorem SegOk.or {f : FuncId} {rnd : Bool} {code : Code} {p : St σ → Bool} {a b : SegE σ} (h : SegOk C H f rnd Y a code) (h' : SegOk C H f rnd Y b code) : SegOk C H f rnd Y (segOr p a b) code := by
  intro β st k r e
  have e : (bif p st then @a β st k else @b β st k) = some r := e
  cases hp : p st with
  | true => rw [hp, cond_true] at e; exact h β st k r e
  | false => rw [hp, cond_false] at e; exact h' β st k r e
def blockEnd (C : Cfg) (f : FuncId) (id m mt : Nat) : Ex → St σ → Option (Ex × St σ)
  | .exit j, st => some (if j = id then .normal else .exit j, leaveSt (C.out f id) m mt (gcSt m mt st))
  | .ret, st => some (.ret, leaveSt (C.out f id) m mt st)
  | .panic v, st => some (.panic v, panSt C f m mt st)
  | _, _ => none
structure LoopT (σ α Ω : Type) where
  ks : List Nat
  kso : List Nat
  m : Nat
  mt : Nat
  dec : St σ → Option α
  tk : α → List Nat
  enc : α → σ → St σ
  decO : Ex → St σ → Option Ω
  tkO : Ω → List Nat
  encO : Ω → σ → Ex × St σ
structure LoopT.Fits {σ α Ω : Type} (l : LoopT σ α Ω) : Prop where
  hdec : ∀ st a, l.dec st = some a → st.toks = l.tk a → cleanSt (some l.ks) st = l.enc a st.s
  hlen : ∀ a s, (l.enc a s).boxes.length = l.m ∧ (l.enc a s).toks.length = l.mt
  hO : ∀ ex st o, l.decO ex st = some o → st.toks = l.tkO o → cleanSt (some l.kso) st = st → (ex, st) = l.encO o st.s
def LoopT.next {σ α Ω : Type} (l : LoopT σ α Ω) (C : Cfg) (f : FuncId) (id : Nat) (L : α → σ → Option (Ω × σ)) : Ex → St σ → Option (Ω × σ)
  | .normal, st => (l.dec (gcSt l.m l.mt st)).bind fun a => ask ((gcSt l.m l.mt st).toks = l.tk a) (L a st.s)
  | ex, st => (blockEnd C f id l.m l.mt ex st).bind fun q => (l.decO q.1 q.2).bind fun o => ask (q.2.toks = l.tkO o) (some (o, q.2.s))
def LoopT.seg {σ α Ω : Type} (l : LoopT σ α Ω) (L : α → σ → Option (Ω × σ)) : SegE σ := fun st k => (l.dec st).bind fun a => ask (st.toks = l.tk a) ((L a st.s).bind fun p => k (l.encO p.1 p.2).1 (l.encO p.1 p.2).2)
theorem clean_map (g : AV → AV) (hg : g .undef = .undef) : ∀ (xs : List AV) (ks : List Nat) (i : Nat), cleanFrom ks i (xs.map g) = (cleanFrom ks i xs).map g
  | [], ks, i => by simp [cleanFrom]
  | x :: xs, [], i => by simp [cleanFrom, clean_map g hg xs, hg]
  | x :: xs, k :: ks, i => by
    by_cases h : i = k
    · simp [cleanFrom, h, clean_map g hg xs]
    · simp [cleanFrom, h, clean_map g hg xs, hg]
theorem leave_clean (ks : List Nat) (m mt : Nat) (st : St σ) : cleanSt (some ks) (leaveSt (some ks) m mt st) = leaveSt (some ks) m mt st := by
  have h : gcA m mt .undef = .undef := by simp [gcA, AV.refs, AV.tks]
  simp only [leaveSt, gcSt, cleanSt, clean_map _ h, clean_idem]
theorem clean_undef : ∀ (xs : List AV) (ks : List Nat) (i : Nat), cleanFrom ks i (xs.map fun _ => AV.undef) = xs.map fun _ => AV.undef
  | [], ks, i => by simp [cleanFrom]
  | x :: xs, [], i => by simp [cleanFrom, clean_undef xs]
  | x :: xs, k :: ks, i => by
    by_cases h : i = k
    · simp [cleanFrom, h, clean_undef xs]
    · simp [cleanFrom, h, clean_undef xs]
theorem pan_clean (C : Cfg) (f : FuncId) (ks : List Nat) (m mt : Nat) (st : St σ) : cleanSt (some ks) (panSt C f m mt st) = panSt C f m mt st := by
  simp only [panSt, cleanSt, clean_undef]
theorem loop_seg {α Ω : Type} {l : LoopT σ α Ω} (hl : l.Fits) {f : FuncId} {rnd : Bool} {id : Nat} {body : Code} (hh : headLive C f body = some l.ks) (ho : C.out f id = some l.kso) (hr : C.raw f (firstReg body) = false) {L : Nat → α → σ → Option (Ω × σ)} (h0 : ∀ a s, L 0 a s = none)
    (hL : ∀ n a s r, L (n + 1) a s = some r → ∃ ex st', evCode C H f C.lim rnd σ Y body (l.enc a s) = some (ex, st') ∧ l.next C f id (L n) ex st' = some r) :
    SegOk C H f rnd Y (l.seg (L C.lim)) (.block id (.loop body)) := by
  have key : ∀ n a s o s', L n a s = some (o, s') → ∃ ex st', loopN (evCode C H f C.lim rnd σ Y body) l.m l.mt n (l.enc a s) = some (ex, st') ∧
      (match ex with | .exit j => some (if j = id then Ex.normal else .exit j, leaveSt (C.out f id) l.m l.mt st') | .ret => some (.ret, leaveSt (C.out f id) l.m l.mt st') | .panic v => some (.panic v, panSt C f l.m l.mt st') | _ => none) = some (l.encO o s') := by
    intro n
    induction n with
    | zero => intro a s o s' e; rw [h0] at e; cases e
    | succ n ih =>
      intro a s o s' e
      obtain ⟨ex, st', h1, h2⟩ := hL n a s _ e
      simp only [loopN, h1]
      cases ex with
      | normal =>
        simp only [LoopT.next] at h2 ⊢
        obtain ⟨a', q1, q2⟩ := bind_some h2
        obtain ⟨q1', q2⟩ := ask_some q2
        have hc := hl.hdec _ _ q1 q1'
        obtain ⟨ex2, st2, r1, r2⟩ := ih a' _ o s' q2
        refine ⟨ex2, st2, ?_, r2⟩
        rw [← r1]
        have hs : (gcSt l.m l.mt st').s = st'.s := rfl
        rw [hs] at hc
        rw [← hc]
        cases n with
        | zero => rfl
        | succ n => simp only [loopN, headClean hh]
      | exit j =>
        simp only [LoopT.next, blockEnd] at h2 ⊢
        obtain ⟨q, q1, q2⟩ := bind_some h2
        cases q1
        obtain ⟨o', q3, q4⟩ := bind_some q2
        obtain ⟨q3', q4⟩ := ask_some q4
        cases q4
        have := hl.hO _ _ _ q3 q3' (by rw [ho]; exact leave_clean _ _ _ _)
        exact ⟨_, _, rfl, by rw [← this]⟩
      | ret =>
        simp only [LoopT.next, blockEnd] at h2 ⊢
        obtain ⟨q, q1, q2⟩ := bind_some h2
        cases q1
        obtain ⟨o', q3, q4⟩ := bind_some q2
        obtain ⟨q3', q4⟩ := ask_some q4
        cases q4
        have := hl.hO _ _ _ q3 q3' (by rw [ho]; exact leave_clean _ _ _ _)
        exact ⟨_, _, rfl, by rw [← this]⟩
      | panic v =>
        simp only [LoopT.next, blockEnd] at h2 ⊢
        obtain ⟨q, q1, q2⟩ := bind_some h2
        cases q1
        obtain ⟨o', q3, q4⟩ := bind_some q2
        obtain ⟨q3', q4⟩ := ask_some q4
        cases q4
        have := hl.hO _ _ _ q3 q3' (pan_clean _ _ _ _ _ _)
        exact ⟨_, _, rfl, by rw [← this]⟩
  intro β st k r h
  simp only [LoopT.seg] at h
  obtain ⟨a, h1, h2⟩ := bind_some h
  obtain ⟨h1', h2⟩ := ask_some h2
  obtain ⟨⟨o, s'⟩, h3, h4⟩ := bind_some h2
  have hc := hl.hdec _ _ h1 h1'
  obtain ⟨k1, k2, _⟩ := cleanSt_boxes (some l.ks) st
  have hb : st.boxes.length = l.m := by rw [← k1, hc]; exact (hl.hlen _ _).1
  have ht : st.toks.length = l.mt := by rw [← k2, hc]; exact (hl.hlen _ _).2
  obtain ⟨ex, st', q1, q2⟩ := key _ _ _ _ _ h3
  have hst : loopN (evCode C H f C.lim rnd σ Y body) l.m l.mt C.lim st = some (ex, st') := by
    rw [← q1, ← hc]
    cases C.lim with
    | zero => rfl
    | succ n => simp only [loopN, headClean hh]
  cases ex with
  | normal => cases q2
  | panic v =>
    simp only [Option.some.injEq] at q2
    simp only at h4
    rw [← q2] at h4
    exact ⟨_, _, by simp only [evCode, hr, cond_false, hb, ht, hst], h4⟩
  | exit j =>
    simp only [Option.some.injEq] at q2
    simp only at h4
    rw [← q2] at h4
    refine ⟨_, _, ?_, h4⟩
    simp only [evCode, hr, cond_false, hb, ht, hst]
    split <;> rfl
  | ret =>
    simp only [Option.some.injEq] at q2
    simp only at h4
    rw [← q2] at h4
    exact ⟨_, _, by simp only [evCode, hr, cond_false, hb, ht, hst], h4⟩
def fillE (n : Nat) (ks : List Nat) (vs : List AV) : List AV := cleanFrom ks 0 ((ks.zip vs).foldl (fun e p => e.set p.1 p.2) (List.replicate n .undef))
theorem fold_len (l : List (Nat × AV)) : ∀ e : List AV, (l.foldl (fun e p => e.set p.1 p.2) e).length = e.length := by
  induction l with
  | nil => intro e; rfl
  | cons p l ih => intro e; simp only [List.foldl_cons, ih, List.length_set]
theorem fold_other (l : List (Nat × AV)) : ∀ (e : List AV) (i : Nat), (∀ p ∈ l, p.1 ≠ i) → (l.foldl (fun e p => e.set p.1 p.2) e).getD i .undef = e.getD i .undef := by
  induction l with
  | nil => intro e i _; rfl
  | cons p l ih =>
    intro e i h
    simp only [List.foldl_cons]
    rw [ih _ i (fun q hq => h q (by simp [hq])), List.getD_eq_getElem?_getD, List.getElem?_set_ne (h p (by simp)), ← List.getD_eq_getElem?_getD]
theorem fold_at (f : Nat → AV) : ∀ (ks : List Nat) (e : List AV) (k : Nat), ks.Nodup → k ∈ ks → k < e.length → ((ks.zip (ks.map f)).foldl (fun e p => e.set p.1 p.2) e).getD k .undef = f k := by
  intro ks
  induction ks with
  | nil => intro e k _ h; cases h
  | cons j ks ih =>
    intro e k hn hk hl
    simp only [List.map_cons, List.zip_cons_cons, List.foldl_cons]
    obtain ⟨h1, h2⟩ := List.nodup_cons.1 hn
    by_cases hkj : k = j
    · subst hkj
      rw [fold_other _ _ k (fun p hp e => h1 (by rw [← e]; exact (List.of_mem_zip (a := p.1) (b := p.2) hp).1)), List.getD_eq_getElem?_getD]
      simp [hl]
    · exact ih _ k h2 ((List.mem_cons.1 hk).resolve_left hkj) (by simpa using hl)
theorem clean_congr : ∀ (xs ys : List AV) (ks : List Nat) (i : Nat), xs.length = ys.length → (∀ k ∈ ks, i ≤ k → xs.getD (k - i) .undef = ys.getD (k - i) .undef) → cleanFrom ks i xs = cleanFrom ks i ys
  | [], ys, ks, i, h, _ => by
    have : ys = [] := List.length_eq_zero_iff.1 h.symm
    subst this; rfl
  | x :: xs, [], ks, i, h, _ => by simp at h
  | x :: xs, y :: ys, [], i, h, hk => by
    simp only [cleanFrom]
    rw [clean_congr xs ys [] (i + 1) (by simpa using h) (by simp)]
  | x :: xs, y :: ys, k :: ks, i, h, hk => by
    have step : ∀ (ks' : List Nat), (∀ j ∈ ks', j ∈ k :: ks) → cleanFrom ks' (i + 1) xs = cleanFrom ks' (i + 1) ys := fun ks' hs => clean_congr xs ys ks' (i + 1) (by simpa using h) (fun j hj hij => by
      have := hk j (hs j hj) (by omega)
      rw [show j - i = (j - (i + 1)) + 1 by omega] at this
      simpa using this)
    simp only [cleanFrom]
    by_cases hik : i = k
    · rw [if_pos hik, if_pos hik, step ks (fun j hj => by simp [hj])]
      have := hk k (by simp) (by omega)
      rw [show k - i = 0 by omega] at this
      simp at this
      rw [this]
    · rw [if_neg hik, if_neg hik, step (k :: ks) (fun j hj => hj)]
def okKs (n : Nat) (ks : List Nat) : Bool := distinct ks && ks.all fun k => decide (k < n)
theorem fill_eq {n : Nat} {ks : List Nat} (h : okKs n ks = true) {env : List AV} (hn : env.length = n) : cleanFrom ks 0 env = fillE n ks (ks.map fun k => env.getD k .undef) := by
  simp only [okKs, Bool.and_eq_true, List.all_eq_true, decide_eq_true_eq] at h
  unfold fillE
  refine clean_congr _ _ _ _ (by rw [fold_len, List.length_replicate, hn]) (fun k hk _ => ?_)
  rw [Nat.sub_zero, fold_at _ _ _ _ (distinct_nodup h.1) hk (by rw [List.length_replicate]; exact h.2 k hk)]
structure LoopS (α Ω : Type) where
  n : Nat
  ks : List Nat
  kso : List Nat
  m : Nat
  mt : Nat
  decV : List AV → List Box → List Nat → Option α
  encV : α → List AV
  encB : α → List Box
  tk : α → List Nat
  decO : Ex → List AV → List Box → List Nat → Option Ω
  exO : Ω → Ex
  outV : Ω → List AV
  outB : Ω → List Box
  tkO : Ω → List Nat
  elim : {β : Type} → Ω → (Ex → List AV → List Box → List Nat → Option β) → Option β
def LoopS.toT {α Ω : Type} (l : LoopS α Ω) (σ : Type) : LoopT σ α Ω where
  ks := l.ks
  kso := l.kso
  m := l.m
  mt := l.mt
  dec := fun st => if st.env.length = l.n then l.decV (l.ks.map fun k => st.env.getD k .undef) st.boxes st.toks else none
  tk := l.tk
  enc := fun a s => { env := fillE l.n l.ks (l.encV a), boxes := l.encB a, toks := l.tk a, s }
  decO := fun ex st => if st.env.length = l.n then l.decO ex (l.kso.map fun k => st.env.getD k .undef) st.boxes st.toks else none
  tkO := l.tkO
  encO := fun o s => (l.exO o, { env := fillE l.n l.kso (l.outV o), boxes := l.outB o, toks := l.tkO o, s })
structure LoopS.Ok {α Ω : Type} (l : LoopS α Ω) : Prop where
  ok1 : okKs l.n l.ks = true
  ok2 : okKs l.n l.kso = true
  dec : ∀ vs bs ts a, l.decV vs bs ts = some a → vs = l.encV a ∧ bs = l.encB a
  out : ∀ ex vs bs ts o, l.decO ex vs bs ts = some o → ex = l.exO o ∧ vs = l.outV o ∧ bs = l.outB o
  len : ∀ a, (l.encB a).length = l.m ∧ (l.tk a).length = l.mt
  elim : ∀ (β : Type) (o : Ω) (k : Ex → List AV → List Box → List Nat → Option β), l.elim o k = k (l.exO o) (l.outV o) (l.outB o) (l.tkO o)
theorem LoopS.Ok.fits {α Ω : Type} {l : LoopS α Ω} (h : l.Ok) (σ : Type) : (l.toT σ).Fits where
  hdec := fun st a e ht => by
    simp only [LoopS.toT] at e ht ⊢
    split at e
    · rename_i hn
      obtain ⟨h1, h2⟩ := h.dec _ _ _ _ e
      simp only [cleanSt]
      rw [fill_eq h.ok1 hn, h1]
      cases st
      simp_all
    · cases e
  hlen := fun a s => h.len a
  hO := fun ex st o e ht hc => by
    simp only [LoopS.toT] at e ht hc ⊢
    split at e
    · rename_i hn
      obtain ⟨h1, h2, h3⟩ := h.out _ _ _ _ _ e
      have henv : st.env = fillE l.n l.kso (l.outV o) := by
        have : (cleanSt (some l.kso) st).env = st.env := by rw [hc]
        rw [← this]
        simp only [cleanSt]
        rw [fill_eq h.ok2 hn, h2]
      cases st
      simp_all
    · cases e
def LoopS.seg {α Ω : Type} (l : LoopS α Ω) (σ : Type) (L : α → σ → Option (Ω × σ)) : SegE σ := fun st k => ((l.toT σ).dec st).bind fun a => ask (st.toks = l.tk a) ((L a st.s).bind fun p => l.elim p.1 fun ex vs bs tk => k ex { env := fillE l.n l.kso vs, boxes := bs, toks := tk, s := p.2 })
def LoopS.next {α Ω : Type} (l : LoopS α Ω) (C : Cfg) (f : FuncId) (id : Nat) {σ : Type} (L : α → σ → Option (Ω × σ)) : Ex → St σ → Option (Ω × σ) := (l.toT σ).next C f id L
theorem LoopS.segOk {α Ω : Type} {l : LoopS α Ω} (hl : l.Ok) {f : FuncId} {rnd : Bool} {id : Nat} {body : Code} (hh : headLive C f body = some l.ks) (ho : C.out f id = some l.kso) (hr : C.raw f (firstReg body) = false) {L : Nat → α → σ → Option (Ω × σ)} (h0 : ∀ a s, L 0 a s = none)
    {T : Told} (hp : PureOk T H) {inl : InlP σ (Ω × σ)} (hI : InlPOk H Y inl) {seg : Nat → Option (SegE σ)} (hs : SegsOk C H f rnd Y seg body)
    (hL : ∀ n a s, L (n + 1) a s = evK C T Y inl seg f body ((l.toT σ).enc a s) (fun ex st' => l.next C f id (L n) ex st')) :
    SegOk C H f rnd Y (l.seg σ (L C.lim)) (.block id (.loop body)) := by
  have h := loop_seg (hl.fits σ) (rnd := rnd) (H := H) (Y := Y) hh ho hr h0 (fun n a s r e => by
    rw [hL] at e
    exact evK_sound hp hI hs e)
  intro β st k r e
  refine h β st k r ?_
  simp only [LoopS.seg] at e
  obtain ⟨a, h1, h2⟩ := bind_some e
  obtain ⟨h3, h4⟩ := ask_some h2
  obtain ⟨p, h5, h6⟩ := bind_some h4
  rw [hl.elim] at h6
  simp only [LoopT.seg]
  rw [h1]
  show ask (st.toks = (l.toT σ).tk a) ((L C.lim a st.s).bind _) = some r
  rw [h5]
  unfold ask
  rw [if_pos (show st.toks = (l.toT σ).tk a from h3)]
  exact h6
end Ev
