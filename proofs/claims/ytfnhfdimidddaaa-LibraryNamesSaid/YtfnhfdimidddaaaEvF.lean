/- Code and functions: where the evaluator ends, the model does. -/
import Derived.Test.YtfnhfdimidddaaaEvE
set_option linter.unusedSimpArgs false
set_option linter.unusedVariables false
namespace Ev
open Go Go.RowKit
variable {σ : Type} {P : Program} {glob : Nat → Option (List D)}

theorem post_refl {L : Held σ} {X : Nat → Prop} {c : Cx} {w : World} {z : Nat} {rnd : Bool} {ex : Ex} {st : St σ} {e : Exit} {a : Act} (hG : Good L c st.boxes st.s X w) (ht : c.toks = st.toks) (hA : ARels c st.env a.tmps.toList) (hM : rnd = false → Marked z a.defers c X w) (hx : exitIs ex e) : Post L X c w z rnd ex st e a w :=
  ⟨hx, c, X, hG, EvoX.refl _ _ _, ht, hA, hM⟩

theorem code_sound {C : Cfg} (hC : C.P = P ∧ C.glob = glob ∧ OddSound P glob C.odd) (hm : P.follows .mixedOrders = true) {H : Hd} (hH : HSound P glob H) (f : FuncId) (lim : Nat) : ∀ (code : Code) (rnd : Bool) (σ : Type) (L : Held σ) (Y : Yd σ), CodeSound P glob code (evCode C H f lim rnd σ Y code) L Y rnd := by
  intro code
  induction code with
  | skip =>
    intro rnd σ L Y st ex st' e hp c X w a rd z hG ht hA hY hr
    simp only [evCode] at e
    cases e
    exact wpIn_skip (post_refl hG ht hA (fun h => (hr h).2.2) trivial)
  | region id ops draw =>
    intro rnd σ L Y st0 ex st' e hp c0 X w a rd z hG0 ht0 hA0 hY0 hr0
    obtain ⟨c, hG, hE0, ht, hA⟩ := hookSt_good (C := C) (f := f) (id := id) hG0 ht0 hA0
    have hY := hY0.le hE0.le
    have hr : rnd = false → c.dead = [] ∧ rd = none ∧ Marked z a.defers c X w := fun h => ⟨hE0.dead.trans (hr0 h).1, (hr0 h).2.1, (hr0 h).2.2.evo hE0⟩
    refine wpIn_mono ?_ (fun e2 a2 w2 q => Post.from hE0 q)
    clear hG0 hA0 ht0 hY0 hr0
    cases draw with
    | false =>
      simp only [evCode] at e
      have hx := evOps_ex hp e
      subst hx
      exact wpIn_region_list (ops_sound hC hH hY e rfl (Now.start hG ht hA) (fun a' w' hd hN => post_of_now (fun h => (hr h).2.2) hd hN))
    | true =>
      simp only [evCode] at e
      split at e
      · rename_i stf hev
        split at e
        · rename_i hok
          cases e
          obtain ⟨g1, g2⟩ := hG.evo hG.ok.drew (Evo.drew c w)
          exact draw_sound hC hm hH hY hev hok ⟨c, X, g1, g2, ht, hA⟩ (fun a' w' hd hN => post_of_now (fun h => (hr h).2.2) hd hN)
        · cases e
      · cases e
  | seq x y ihx ihy =>
    intro rnd σ L Y st ex st' e hp c X w a rd z hG ht hA hY hr
    simp only [evCode] at e
    split at e
    · rename_i st1 h1
      refine wpIn_seq (wpIn_mono (ihx rnd σ L Y st .normal st1 h1 rfl c X w a rd z hG ht hA hY hr) ?_)
      rintro e1 a1 w1 hpost
      cases e1 with
      | normal =>
        obtain ⟨_, c1, X1, hG1, hE1, ht1, hA1, hM1⟩ := hpost
        exact wpIn_mono (ihy rnd σ L Y st1 ex st' e hp c1 X1 w1 a1 rd z hG1 ht1 hA1 (hY.le hE1.le) (fun h => ⟨hE1.dead.trans (hr h).1, (hr h).2.1, hM1 h⟩)) (fun e2 a2 w2 q => Post.from hE1 q)
      | _ => exact hpost.1.elim
    · rename_i hne
      refine wpIn_seq (wpIn_mono (ihx rnd σ L Y st ex st' e hp c X w a rd z hG ht hA hY hr) ?_)
      rintro e1 a1 w1 hpost
      cases e1 with
      | normal =>
        cases ex with
        | normal => exact (hne _ e).elim
        | _ => exact hpost.1.elim
      | _ => exact hpost
  | cond o x y ihx ihy =>
    intro rnd σ L Y st ex st' e hp c X w a rd z hG ht hA hY hr
    simp only [evCode] at e
    have ho := operand_rel hA o
    split at e
    · rename_i hv
      rw [hv] at ho
      simp only [ARel, DRel] at ho
      exact wpIn_cond_true ho.1 (ihx rnd σ L Y st ex st' e hp c X w a rd z hG ht hA hY hr)
    · rename_i hv
      rw [hv] at ho
      simp only [ARel, DRel] at ho
      exact wpIn_cond_false ho.1 (ihy rnd σ L Y st ex st' e hp c X w a rd z hG ht hA hY hr)
    · cases e
  | block id x ih =>
    intro rnd σ L Y st ex st' e hp c X w a rd z hG ht hA hY hr
    have hdd : ∀ k ∈ c.dead, ∃ i : Nat, c.β[i]? = some k := fun k hk => by
      obtain ⟨i, q, _⟩ := hG.ok.dead k hk
      exact ⟨i, q⟩
    have hm : c.β.length = st.boxes.length := hG.ok.len
    have hmt : c.toks.length = st.toks.length := by rw [ht]
    simp only [evCode] at e
    split at e
    · rename_i j st1 h1
      refine wpIn_block (wpIn_mono (ih rnd σ L Y st (.exit j) st1 h1 rfl c X w a rd z hG ht hA hY hr) ?_)
      rintro e1 a1 w1 hpost
      obtain ⟨hx, hrest⟩ := Post.leave (C.out f id) hm hmt hdd hpost
      cases e1 with
      | exit i =>
        simp only [exitIs] at hx
        subst hx
        simp only [Exit.inBlock]
        split at e
        · rename_i hji
          cases e
          rw [if_pos hji]; exact ⟨trivial, hrest⟩
        · rename_i hji
          cases e
          rw [if_neg hji]; exact ⟨rfl, hrest⟩
      | _ => exact hx.elim
    · rename_i ex1 st1 hne h1
      simp only [Option.some.injEq, Prod.mk.injEq] at e
      obtain ⟨rfl, rfl⟩ := e
      refine wpIn_block (wpIn_mono (ih rnd σ L Y st ex1 st1 h1 hp c X w a rd z hG ht hA hY hr) ?_)
      rintro e1 a1 w1 hpost0
      have hpost := Post.leave (C.out f id) hm hmt hdd hpost0
      cases e1 with
      | exit i =>
        cases ex1 with
        | exit j => exact (hne _ rfl).elim
        | _ => exact hpost.1.elim
      | _ => exact hpost
    · cases e
  | loop x ih =>
    intro rnd σ L Y st ex st' e hp c X w a rd z hG ht hA hY hr
    simp only [evCode] at e
    refine wpIn_of_loopIn ?_
    have key : ∀ (m mt n : Nat) (st : St σ) (c : Cx) (X : Nat → Prop) (w : World) (a : Act), c.β.length ≤ m → c.toks.length ≤ mt → loopN (evCode C H f lim rnd σ Y x) m mt n st = some (ex, st') → Good L c st.boxes st.s X w → c.toks = st.toks → ARels c st.env a.tmps.toList → Env P glob L Y c → (rnd = false → c.dead = [] ∧ rd = none ∧ Marked z a.defers c X w) →
        LoopIn (FW rd) 0 P x (Post L X c w z rnd ex st') a w := by
      intro m mt n
      induction n with
      | zero => intro st c X w a _ _ e; cases e
      | succ n ihn =>
        intro st c X w a hm hmt e hG ht hA hY hr
        have hdd : ∀ k ∈ c.dead, ∃ i : Nat, c.β[i]? = some k := fun k hk => by
          obtain ⟨i, q, _⟩ := hG.ok.dead k hk
          exact ⟨i, q⟩
        simp only [loopN] at e
        refine loopIn_round ?_
        split at e
        · rename_i st1 h1
          refine wpIn_mono (ih rnd σ L Y st .normal st1 h1 rfl c X w a rd z hG ht hA hY hr) ?_
          rintro e1 a1 w1 hpost0
          have hpost := Post.gc hm hmt hdd hpost0
          cases e1 with
          | normal =>
            obtain ⟨_, c1, X1, hG1, hE1, ht1, hA1, hM1⟩ := hpost
            have hm1 : c1.β.length ≤ m := by rw [hG1.ok.len]; simp [gcSt]; omega
            have hmt1 : c1.toks.length ≤ mt := by rw [ht1]; simp [gcSt]; omega
            have := ihn (gcSt m mt st1) c1 X1 w1 a1 hm1 hmt1 e hG1 ht1 hA1 (hY.le hE1.le) (fun h => ⟨hE1.dead.trans (hr h).1, (hr h).2.1, hM1 h⟩)
            intro b k cs h1 h2 h3
            obtain ⟨e2, a2, w2, q, r⟩ := this b k cs h1 h2 h3
            exact ⟨e2, a2, w2, Post.from hE1 q, r⟩
          | _ => exact hpost.1.elim
        · rename_i j st1 h1
          cases e
          refine wpIn_mono (ih rnd σ L Y st (.exit j) st1 h1 rfl c X w a rd z hG ht hA hY hr) ?_
          rintro e1 a1 w1 hpost0
          have hpost := Post.gc hm hmt hdd hpost0
          cases e1 with
          | exit i => exact hpost
          | _ => exact hpost.1.elim
        · rename_i hne hne2
          refine wpIn_mono (ih rnd σ L Y st ex st' e hp c X w a rd z hG ht hA hY hr) ?_
          rintro e1 a1 w1 hpost
          cases e1 with
          | normal =>
            cases ex with
            | normal => exact (hne _ e).elim
            | _ => exact hpost.1.elim
          | _ => exact hpost
    exact key _ _ lim st c X w a (by rw [hG.ok.len]; cases C.raw f (firstReg x) <;> simp) (by rw [ht]; cases C.raw f (firstReg x) <;> simp) e hG ht hA hY hr
  | rangeFunc g ps assign body iha ihb =>
    intro rnd σ L Y
    cases rnd with
    | true => intro st ex st' e; simp [evCode] at e
    | false =>
      intro st ex st' e
      simp only [evCode] at e
      exact range_sound hH (iha true σ L Y) (ihb true σ L Y) st ex st' (by simpa using e)
  | exit id =>
    intro rnd σ L Y st ex st' e hp c X w a rd z hG ht hA hY hr
    simp only [evCode] at e
    cases e
    exact wpIn_exit (post_refl hG ht hA (fun h => (hr h).2.2) rfl)
  | ret =>
    intro rnd σ L Y st ex st' e hp c X w a rd z hG ht hA hY hr
    simp only [evCode] at e
    cases e
    exact wpIn_ret (post_refl hG ht hA (fun h => (hr h).2.2) trivial)
  | _ => intro rnd σ L Y st ex st' e; simp [evCode] at e

/-! ### functions -/
def resSem (tmps : Array Value) : ResultVar → Sem Value
  | .tmp t => pure (tmps.getD t undef)
  | .cell a t => do loadVar t (← asAddr (tmps.getD a undef))
theorem resultA_run {L : Held σ} {c : Cx} {boxes : List Box} {s : σ} {X : Nat → Prop} {w : World} {env : List AV} {tmps : Array Value} (hG : Good L c boxes s X w) (hA : ARels c env tmps.toList) {r : ResultVar} {v : AV} (e : resultA P env boxes r = some v) :
    ∃ u, (resSem tmps r).run P w = .ok u w ∧ ARel c v u := by
  have hD : ∀ t, tmps.toList.getD t undef = tmps.getD t undef := fun t => by simp [List.getD_eq_getElem?_getD, Array.getD_eq_getD_getElem?]
  cases r with
  | tmp t =>
    simp only [resultA] at e
    have h1 := ARels.getD hA t
    rw [hD] at h1
    rw [List.getD_eq_getElem?_getD, e] at h1
    exact ⟨_, rfl, h1⟩
  | cell a t =>
    simp only [resultA] at e
    have h1 := ARels.getD hA a
    rw [hD] at h1
    split at e
    · rename_i i off hv
      split at e
      · rename_i cs hb
        have hl : evLoad P t boxes (.ptr i off) = some v := by simp only [evLoad, hb]; exact e
        obtain ⟨u, q1, q2⟩ := load_run hG.ok (hv ▸ h1) hl
        refine ⟨u, ?_, q2⟩
        rw [hv] at h1
        simp only [ARel] at h1
        obtain ⟨k, _, hk⟩ := h1
        simp only [hk] at q1
        show (do loadVar t (← asAddr (tmps.getD a undef)) : Sem Value).run P w = _
        rw [hk]
        exact q1
      · cases e
    · cases e

theorem resultsA_run {L : Held σ} {c : Cx} {boxes : List Box} {s : σ} {X : Nat → Prop} {w : World} {env : List AV} {tmps : Array Value} (hG : Good L c boxes s X w) (hA : ARels c env tmps.toList) :
    ∀ {rs : List ResultVar} {vs : List AV}, resultsA P env boxes rs = some vs →
    ∃ us, (rs.mapM (resSem tmps)).run P w = .ok us w ∧ ARels c vs us
  | [], vs, e => by cases e; exact ⟨[], rfl, rfl⟩
  | r :: rs, vs, e => by
    simp only [resultsA] at e
    split at e
    · rename_i v vs' h1 h2
      cases e
      obtain ⟨u, q1, q2⟩ := resultA_run (P := P) hG hA h1
      obtain ⟨us, q3, q4⟩ := resultsA_run hG hA h2
      refine ⟨u :: us, ?_, u, us, rfl, q2, q4⟩
      rw [List.mapM_cons]
      simp only [Sem.run_bind, Sem.run_pure, Result.andThen]
      rw [q1]
      simp only
      rw [q3]
    · cases e
theorem results_run {L : Held σ} {c : Cx} {boxes : List Box} {s : σ} {X : Nat → Prop} {w : World} {env : List AV} {tmps : Array Value} (hG : Good L c boxes s X w) (hA : ARels c env tmps.toList) {fn : Func} {vs : List AV} (e : resultsA P env boxes fn.results.toList = some vs) :
    ∃ u, (results fn tmps).run P w = .ok u w ∧ ARel c (single vs) u := by
  obtain ⟨us, h1, h2⟩ := resultsA_run (P := P) hG hA e
  have hm : (fn.results.mapM (resSem tmps)).run P w = .ok us.toArray w := by
    conv => lhs; rw [← Array.toArray_toList (xs := fn.results)]
    rw [List.mapM_toArray, map_eq_pure_bind]
    simp only [Sem.run_bind, Sem.run_pure, h1, Result.andThen]
  refine ⟨if h : us.toArray.size = 1 then us.toArray[0] else .tuple us.toArray, ?_, ?_⟩
  · have hrs : results fn tmps = (do let vs ← fn.results.mapM (resSem tmps); pure (if h : vs.size = 1 then vs[0] else .tuple vs)) := rfl
    rw [hrs]
    simp only [Sem.run_bind]
    rw [hm]
    simp only [Result.andThen, Sem.run_pure]
  · have hl := ARels.length h2
    unfold single
    split
    · rename_i x
      obtain ⟨u, us', rfl, q1, q2⟩ := h2
      have : us' = [] := q2
      subst this
      simpa using q1
    · rename_i hne
      have : ¬ us.toArray.size = 1 := fun h => by
        simp at h
        match vs, hne, hl with
        | [x], hne, _ => exact hne x rfl
        | [], _, hl => simp at hl; omega
        | _ :: _ :: _, _, hl => simp at hl; omega
      rw [dif_neg this]
      simp only [ARel]
      exact ⟨us, rfl, h2⟩

theorem single_gc {c : Cx} {m mt : Nat} {vs : List AV} {u : Value} (h : ARel c (single vs) u) : ARel (c.cut m mt) (single (vs.map (gcA m mt))) u := by
  match vs, h with
  | [x], h => exact gcA_rel m mt h
  | [], h => simpa only [single, ARel, List.map, ARels] using h
  | x :: y :: r, h =>
    have h' : ARel c (.tup (x :: y :: r)) u := h
    simp only [ARel] at h'
    obtain ⟨us, e, hs⟩ := h'
    have : ARel (c.cut m mt) (.tup ((x :: y :: r).map (gcA m mt))) u := by
      simp only [ARel]
      exact ⟨us, e, gcL_rel m mt hs⟩
    exact this
theorem Good.putDeferred {L : Held σ} {c : Cx} {boxes : List Box} {s : σ} {X : Nat → Prop} {w : World} {l : Nat} {r : Option (List Deferred)} {o : Obj} (h : Good L c boxes s X w) (hl : w.heap[l]? = some (.deferred r)) (h1 : ¬ c.owns l) (h2 : ¬ X l) : Good L c boxes s X (w.putObj l o) :=
  h.stay (ro' := c.ro) (RO.le_refl _) ⟨fun b i v e => by
    have hne : b ≠ l := fun e' => by
      subst e'
      have := h.ok.ro b i v e
      simp [World.cell?, hl] at this
    rw [cell_of_block (World.putObj_heap_other hne)]
    exact h.ok.ro b i v e, fun b n e => by
    have hne : b ≠ l := fun e' => by
      subst e'
      obtain ⟨cs, t, fz, q, _⟩ := h.ok.ro.whole b n e
      rw [hl] at q; cases q
    exact (h.ok.ro.whole b n e).same (World.putObj_heap_other hne), h.ok.ro.known, fun b n e => by
    have hne : b ≠ l := fun e' => by
      subst e'
      obtain ⟨cs, t, fz, q, _⟩ := h.ok.ro.big b n e
      rw [hl] at q; cases q
    exact (h.ok.ro.big b n e).same (World.putObj_heap_other hne)⟩ (by simp) (fun k hk => World.putObj_heap_other (fun e => by subst e; exact hk.elim h1 h2)) (fun b o h0 h1 => (h1 h0).elim)

theorem leaves {L : Held σ} {X0 X : Nat → Prop} {c0 c : Cx} {w0 : World} {boxes : List Box} {s : σ} {fn : Func} {tmps : Array Value} {R : Ending → World → Prop}
    (hR : ∀ w', Good L c boxes s X w' → EvoX X0 c0 w0 X c w' → ∃ v, (results fn tmps).run P w' = .ok v w' ∧ R (.returned v) w') :
    ∀ (Ds : List Nat) (w : World), Ds.Nodup → (∀ D ∈ Ds, w.heap[D]? = some (.deferred (some [])) ∧ ¬ c.owns D ∧ ¬ X D ∧ w0.heap.size ≤ D) → Good L c boxes s X w → EvoX X0 c0 w0 X c w →
      LeavesInM Fence.wide 0 P fn tmps R (Ds.map (fun D => { target := .collected D, args := #[] })) .returning w
  | [], w, _, _, hG, hE => hR w hG hE
  | D :: Ds, w, hn, hD, hG, hE => by
    obtain ⟨q1, q2, q3, q4⟩ := hD D (by simp)
    obtain ⟨n1, n2⟩ := List.nodup_cons.1 hn
    refine ⟨by simp, .inl ⟨D, _, rfl, run_takeDeferred q1, ?_⟩⟩
    refine leaves hR Ds _ n2 (fun D' hD' => ?_) (hG.putDeferred q1 q2 q3) ⟨hE.le, hE.os, hE.tape, hE.output, by simpa using hE.size, fun k hk h1 h2 => ?_, hE.new, hE.newX, hE.ronew, hE.dead⟩
    · obtain ⟨r1, r2, r3, r4⟩ := hD D' (List.mem_cons_of_mem _ hD')
      exact ⟨(World.putObj_heap_other (fun e => by subst e; exact n1 hD')).trans r1, r2, r3, r4⟩
    · exact (World.putObj_heap_other (by omega)).trans (hE.keep k hk h1 h2)

/-- What is known of library functions is true of them. -/
def ExtSound (P : Program) (glob : Nat → Option (List D)) (ext : FuncId → Option (List D → Option PR)) : Prop := ∀ f g, ext f = some g → ∀ ds r, g ds = some r →
  (∀ us w, (callFunc f us).run P w = .ok (.enter f us) w) ∧
  ∀ (ro : RO) (w : World) (us : List Value), ro.holds w → GlobIn P glob ro → DArgs ro ds us → Calls P f us.toArray w (fun e w' => ∃ u ro', e = .returned u ∧ PRel ro' r u ∧ Left (fun _ => False) ro w (fun _ => False) ro' w')

theorem enters_run {f : FuncId} {fn : Func} (hf : P.funcs[f]? = some fn) (h : enters fn = true) (us : Array Value) (w : World) : (callFunc f us).run P w = .ok (.enter f us) w := by
  simp only [enters, Bool.and_eq_true, Bool.not_eq_true'] at h
  obtain ⟨h1, h2⟩ := h
  unfold callFunc
  simp only [Sem.run_bind, run_program, Result.andThen, hf]
  cases hb : fn.body with
  | none => rw [hb] at h1; cases h1
  | some c => simp [h2]

/-- An activation's body, whatever is known of what it calls. -/
def bodyHd (C : Cfg) (H : Hd) : Hd := fun σ Y f args boxes toks s => match C.P.funcs[f]? with
  | some fn => if enters fn then evBody C H f C.lim fn σ Y args boxes toks s else none
  | none => none
theorem bodyHd_sound {C : Cfg} (hC : C.P = P ∧ C.glob = glob ∧ OddSound P glob C.odd) (hm : P.follows .mixedOrders = true) {H : Hd} (ih : HSound P glob H) : HSound P glob (bodyHd C H) := by
  intro σ Y L f args boxes toks s v b' t' s' e
  simp only [bodyHd] at e
  split at e
  · rename_i fn hfn
    rw [hC.1] at hfn
    split at e
    · rename_i hen
      refine ⟨enters_run hfn hen, fun c w X us ht hd hG hA hY => ?_⟩
      unfold evBody at e
      split at e
      · rename_i code hbody
        -- the activation's temporaries
        have hE0 : ARels c (args ++ List.replicate (fn.ntmps - args.length) (.tup [])) (us.toArray ++ Array.replicate (fn.ntmps - us.toArray.size) undef).toList := by
          have hl := ARels.length hA
          rw [Array.toList_append, Array.toList_replicate, List.size_toArray, hl]
          refine ARels.append hA ?_
          generalize fn.ntmps - us.length = n
          induction n with
          | zero => exact rfl
          | succ n ihn =>
            rw [List.replicate_succ, List.replicate_succ]
            exact ⟨_, _, rfl, by simp only [ARel, ARels]; exact ⟨[], rfl, rfl⟩, ihn⟩
        have fin : ∀ (ex : Ex) (st : St σ) (vs : List AV), evCode C H f C.lim false σ Y code { env := args ++ List.replicate (fn.ntmps - args.length) (.tup []), boxes, toks, s } = some (ex, st) → (ex = .normal ∨ ex = .ret) → resultsA C.P st.env st.boxes fn.results.toList = some vs →
            (if C.fin f then some (Out.ret (single (vs.map (gcA boxes.length toks.length))), (st.boxes.take boxes.length).map (gcBox boxes.length toks.length), st.toks.take toks.length, st.s) else some (Out.ret (single vs), st.boxes, st.toks, st.s)) = some (Out.ret v, b', t', s') →
            Calls P f us.toArray w (fun e w' => ∃ c' X' u, e = .returned u ∧ Good L c' b' s' X' w' ∧ EvoX X c w X' c' w' ∧ c'.toks = t' ∧ ARel c' v u) := by
          intro ex st vs hev hex hvs hout
          rw [hC.1] at hvs
          have hpan : isPanic ex = false := by rcases hex with rfl | rfl <;> rfl
          have hcode := code_sound hC hm ih f C.lim code false σ L Y _ ex st hev hpan c X w { tmps := us.toArray ++ Array.replicate (fn.ntmps - us.toArray.size) undef, defers := [] } none w.heap.size hG ht hE0 hY (fun _ => ⟨hd, rfl, Nat.le_refl _, [], List.nodup_nil, rfl, by simp⟩)
          refine callsIn_wide (n := 0).1 (callsIn_of_wp_marks hfn hbody trivial (wpIn_mono hcode ?_))
          rintro e2 a2 w2 ⟨hx, c2, X2, hG2, hE2, ht2, hA2, hM2⟩
          obtain ⟨_, Ds, d1, d2, d3⟩ := hM2 rfl
          have hdd : ∀ k ∈ c2.dead, ∃ i, i < boxes.length ∧ c2.β[i]? = some k := fun k hk => by
            rw [hE2.dead, hd] at hk; cases hk
          have hml : c.β.length ≤ boxes.length := Nat.le_of_eq hG.ok.len
          have hmt : c.toks.length ≤ toks.length := by rw [ht]; exact Nat.le_refl _
          have hlv : LeavesInM Fence.wide 0 P fn a2.tmps (fun e w' => ∃ c' X' u, e = .returned u ∧ Good L c' b' s' X' w' ∧ EvoX X c w X' c' w' ∧ c'.toks = t' ∧ ARel c' v u) a2.defers .returning w2 := by
            rw [d2]
            refine leaves (fun w' hG' hE' => ?_) Ds w2 d1 d3 hG2 hE2
            obtain ⟨u, q1, q2⟩ := results_run (P := P) hG' hA2 hvs
            split at hout
            · simp only [Option.some.injEq, Prod.mk.injEq, Out.ret.injEq] at hout
              obtain ⟨rfl, rfl, rfl, rfl⟩ := hout
              exact ⟨u, q1, c2.cut boxes.length toks.length, X2, u, rfl, gc_good hG' boxes.length toks.length hdd, gc_evo hE' hml hmt, by simp only [Cx.cut, ht2], single_gc q2⟩
            · simp only [Option.some.injEq, Prod.mk.injEq, Out.ret.injEq] at hout
              obtain ⟨rfl, rfl, rfl, rfl⟩ := hout
              exact ⟨u, q1, c2, X2, u, rfl, hG', hE', ht2, q2⟩
          rcases hex with rfl | rfl
          · cases e2 with
            | normal => exact hlv
            | _ => exact hx.elim
          · cases e2 with
            | ret => exact hlv
            | _ => exact hx.elim
        split at e
        · rename_i st hev
          split at e
          · rename_i vs hvs
            exact fin .normal st vs hev (.inl rfl) hvs e
          · cases e
        · rename_i st hev
          split at e
          · rename_i vs hvs
            exact fin .ret st vs hev (.inr rfl) hvs e
          · cases e
        · simp at e
        · cases e
      · cases e
    · cases e
  · cases e
theorem fn_sound {C : Cfg} (hC : C.P = P ∧ C.glob = glob ∧ OddSound P glob C.odd) (hm : P.follows .mixedOrders = true) (hX : ExtSound P glob C.ext) : ∀ k, HSound P glob (evFn C k) := by
  intro k
  induction k with
  | zero => intro σ Y L f args boxes toks s v b' t' s' e; cases e
  | succ k ih =>
    intro σ Y L f args boxes toks s v b' t' s' e
    simp only [evFn] at e
    split at e
    · rename_i g hg
      split at e
      · rename_i ds hds
        split at e
        · rename_i r hr
          simp only [Option.some.injEq, Prod.mk.injEq, Out.ret.injEq] at e
          obtain ⟨rfl, rfl, rfl, rfl⟩ := e
          obtain ⟨he, hp⟩ := hX f g hg ds r hr
          refine ⟨he, fun c w X us ht hd hG hA hY => Calls.mono (hp c.ro w us hG.ok.ro hY.gl (DArgs.of hA hds)) ?_⟩
          rintro e' w' ⟨u, ro', rfl, h1, h2⟩
          obtain ⟨g1, g2⟩ := hG.pure h2
          exact ⟨_, X, u, rfl, g1, g2, ht, PRel.av rfl h1⟩
        · cases e
      · cases e
    · exact bodyHd_sound hC hm ih _ _ _ _ _ _ _ _ _ _ _ _ e
end Ev
