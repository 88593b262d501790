/- What functions of the program compute, as plain Lean functions, each with its proof by a proved reader; plain laws about them (EvF). -/
import Derived.Test.YtohmflkolmobmaaGreatDoorEvE
import Derived.RecoverIn
set_option linter.unusedSimpArgs false
set_option linter.unusedVariables false
namespace Ev
open Go Go.RowKit
variable {σ : Type} {P : Program} {glob : Nat → Option (List D)}
theorem post_refl {L : Held σ} {X : Nat → Prop} {c : Cx} {w : World} {z : Nat × List Deferred} {rnd : Bool} {ex : Ex} {st : St σ} {e : Exit} {a : Act} (hG : Good L c st.boxes st.s X w) (ht : c.toks = st.toks) (hA : ARels c st.env a.tmps.toList) (hM : rnd = false → Marked z a.defers c X w) (hx : exitIs ex e) : Post L X c w z rnd ex st e a w :=
  ⟨hx, c, X, hG, EvoX.refl _ _ _, ht, hA, hM⟩
theorem code_sound {C : Cfg} (hC : C.P = P ∧ C.glob = glob ∧ OddSound P glob C.odd) (hm : P.follows .mixedOrders = true) {H : Hd} (hH : HSound P glob H) (f : FuncId) (lim : Nat) : ∀ (code : Code) (rnd : Bool) (σ : Type) (L : Held σ) (Y : Yd σ), CodeSound P glob code (evCode C H f lim rnd σ Y code) L Y rnd := by
  intro code
  induction code with
  | skip =>
    intro rnd σ L Y st ex st' e c X w a rd z hG ht hA hY hr
    simp only [evCode] at e
    cases e
    exact wpIn_skip (post_refl hG ht hA (fun h => (hr h).2.2) trivial)
  | region id ops draw =>
    intro rnd σ L Y st0 ex st' e c0 X w a rd z hG0 ht0 hA0 hY0 hr0
    obtain ⟨c, hG, hE0, ht, hA⟩ := hookSt_good (C := C) (f := f) (id := id) hG0 ht0 hA0
    have hY := hY0.le hE0.le
    have hr : rnd = false → c.dead = [] ∧ rd = none ∧ Marked z a.defers c X w := fun h => ⟨hE0.dead.trans (hr0 h).1, (hr0 h).2.1, (hr0 h).2.2.evo hE0⟩
    refine wpIn_mono ?_ (fun e2 a2 w2 q => Post.from hE0 q)
    clear hG0 hA0 ht0 hY0 hr0
    cases draw with
    | false =>
      simp only [evCode] at e
      rcases evOps_ends e with rfl | ⟨v, rfl⟩
      · exact wpIn_region_list (ops_sound hC hH hY e rfl (Now.start hG ht hA) (fun a' w' hd hN => post_of_now (fun h => (hr h).2.2) hd hN))
      · exact wpIn_region_list (ops_panic hC hH hY e rfl (Now.start hG ht hA) (fun u a' w' hv h1 hd hN => post_of_panic (fun h => (hr h).2.2) hv h1 hd hN))
    | true =>
      simp only [evCode] at e
      split at e
      · rename_i stf hev
        split at e
        · rename_i hok
          cases e
          obtain ⟨g1, g2⟩ := hG.evo hG.ok.drew (Evo.drew c w)
          exact draw_sound2 hC hm hH hY hev hok ⟨c, X, g1, g2, ht, hA⟩ (fun a' w' hd hN => post_of_now (fun h => (hr h).2.2) hd hN)
        · cases e
      · obtain ⟨g1, g2⟩ := hG.evo hG.ok.drew (Evo.drew c w)
        rcases evDrawL_ends e with rfl | ⟨u, rfl⟩
        · exact drawL_sound hC hm hH hY e ⟨c, X, g1, g2, ht, hA⟩ (fun _ a' w' hd hN => post_of_now (fun h => (hr h).2.2) hd hN) (fun u hu => by cases hu)
        · exact drawL_sound hC hm hH hY e ⟨c, X, g1, g2, ht, hA⟩ (fun h => by cases h) (fun u' hu h1 a' w' hd hN => by cases hu; exact post_of_panic (fun h => (hr h).2.2) rfl h1 hd hN)
  | seq x y ihx ihy =>
    intro rnd σ L Y st ex st' e c X w a rd z hG ht hA hY hr
    simp only [evCode] at e
    split at e
    · rename_i st1 h1
      refine wpIn_seq (wpIn_mono (ihx rnd σ L Y st .normal st1 h1 c X w a rd z hG ht hA hY hr) ?_)
      rintro e1 a1 w1 hpost
      cases e1 with
      | normal =>
        obtain ⟨_, c1, X1, hG1, hE1, ht1, hA1, hM1⟩ := hpost
        exact wpIn_mono (ihy rnd σ L Y st1 ex st' e c1 X1 w1 a1 rd z hG1 ht1 hA1 (hY.le hE1.le) (fun h => ⟨hE1.dead.trans (hr h).1, (hr h).2.1, hM1 h⟩)) (fun e2 a2 w2 q => Post.from hE1 q)
      | _ => exact hpost.1.elim
    · rename_i hne
      refine wpIn_seq (wpIn_mono (ihx rnd σ L Y st ex st' e c X w a rd z hG ht hA hY hr) ?_)
      rintro e1 a1 w1 hpost
      cases e1 with
      | normal =>
        cases ex with
        | normal => exact (hne _ e).elim
        | _ => exact hpost.1.elim
      | _ => exact hpost
  | cond o x y ihx ihy =>
    intro rnd σ L Y st ex st' e c X w a rd z hG ht hA hY hr
    simp only [evCode] at e
    have ho := operand_rel hA o
    split at e
    · rename_i hv
      rw [hv] at ho
      simp only [ARel, DRel] at ho
      exact wpIn_cond_true ho.1 (ihx rnd σ L Y st ex st' e c X w a rd z hG ht hA hY hr)
    · rename_i hv
      rw [hv] at ho
      simp only [ARel, DRel] at ho
      exact wpIn_cond_false ho.1 (ihy rnd σ L Y st ex st' e c X w a rd z hG ht hA hY hr)
    · cases e
  | block id x ih =>
    intro rnd σ L Y st ex st' e c X w a rd z hG ht hA hY hr
    have hdd : ∀ k ∈ c.dead, ∃ i : Nat, c.β[i]? = some k := fun k hk => by
      obtain ⟨i, q, _⟩ := hG.ok.dead k hk
      exact ⟨i, q⟩
    have hm : c.β.length = st.boxes.length := hG.ok.len
    have hmt : c.toks.length = st.toks.length := by rw [ht]
    simp only [evCode] at e
    split at e
    · rename_i j st1 h1
      refine wpIn_block (wpIn_mono (ih rnd σ L Y st (.exit j) st1 h1 c X w a rd z hG ht hA hY hr) ?_)
      rintro e1 a1 w1 hpost
      obtain ⟨hx, hrest⟩ := Post.leave (C.out f id) hm hmt hdd hpost
      cases e1 with
      | exit i =>
        simp only [exitIs] at hx
        subst hx
        simp only [Exit.inBlock]
        split at e
        · rename_i hji
          cases e
          rw [if_pos hji]; exact ⟨trivial, hrest⟩
        · rename_i hji
          cases e
          rw [if_neg hji]; exact ⟨rfl, hrest⟩
      | _ => exact hx.elim
    · rename_i v st1 h1
      simp only [Option.some.injEq, Prod.mk.injEq] at e
      obtain ⟨rfl, rfl⟩ := e
      refine wpIn_block (wpIn_mono (ih rnd σ L Y st (.panic v) st1 h1 c X w a rd z hG ht hA hY hr) ?_)
      rintro e1 a1 w1 hpost0
      have hpost := Post.pan C f (Nat.le_of_eq hm) (Nat.le_of_eq hmt) hdd hpost0
      cases e1 with
      | panic ch => exact hpost
      | _ => exact hpost.1.elim
    · rename_i ex1 st1 hne hnp h1
      simp only [Option.some.injEq, Prod.mk.injEq] at e
      obtain ⟨rfl, rfl⟩ := e
      refine wpIn_block (wpIn_mono (ih rnd σ L Y st ex1 st1 h1 c X w a rd z hG ht hA hY hr) ?_)
      rintro e1 a1 w1 hpost0
      have hpost := Post.leave (C.out f id) hm hmt hdd hpost0
      cases e1 with
      | exit i =>
        cases ex1 with
        | exit j => exact (hne _ rfl).elim
        | _ => exact hpost.1.elim
      | _ => exact hpost
    · cases e
  | loop x ih =>
    intro rnd σ L Y st ex st' e c X w a rd z hG ht hA hY hr
    simp only [evCode] at e
    refine wpIn_of_loopIn ?_
    have key : ∀ (m mt n : Nat) (st : St σ) (c : Cx) (X : Nat → Prop) (w : World) (a : Act), c.β.length ≤ m → c.toks.length ≤ mt → loopN (evCode C H f lim rnd σ Y x) m mt n st = some (ex, st') → Good L c st.boxes st.s X w → c.toks = st.toks → ARels c st.env a.tmps.toList → Env P glob L Y c → (rnd = false → c.dead = [] ∧ rd = none ∧ Marked z a.defers c X w) →
        LoopIn (FW rd) 0 P x (Post L X c w z rnd ex st') a w := by
      intro m mt n
      induction n with
      | zero => intro st c X w a _ _ e; cases e
      | succ n ihn =>
        intro st c X w a hm hmt e hG ht hA hY hr
        have hdd : ∀ k ∈ c.dead, ∃ i : Nat, c.β[i]? = some k := fun k hk => by
          obtain ⟨i, q, _⟩ := hG.ok.dead k hk
          exact ⟨i, q⟩
        simp only [loopN] at e
        refine loopIn_round ?_
        split at e
        · rename_i st1 h1
          refine wpIn_mono (ih rnd σ L Y st .normal st1 h1 c X w a rd z hG ht hA hY hr) ?_
          rintro e1 a1 w1 hpost0
          have hpost := Post.gc hm hmt hdd hpost0
          cases e1 with
          | normal =>
            obtain ⟨_, c1, X1, hG1, hE1, ht1, hA1, hM1⟩ := hpost
            have hm1 : c1.β.length ≤ m := by rw [hG1.ok.len]; simp [gcSt]; omega
            have hmt1 : c1.toks.length ≤ mt := by rw [ht1]; simp [gcSt]; omega
            have := ihn (gcSt m mt st1) c1 X1 w1 a1 hm1 hmt1 e hG1 ht1 hA1 (hY.le hE1.le) (fun h => ⟨hE1.dead.trans (hr h).1, (hr h).2.1, hM1 h⟩)
            intro b k cs h1 h2 h3
            obtain ⟨e2, a2, w2, q, r⟩ := this b k cs h1 h2 h3
            exact ⟨e2, a2, w2, Post.from hE1 q, r⟩
          | _ => exact hpost.1.elim
        · rename_i j st1 h1
          cases e
          refine wpIn_mono (ih rnd σ L Y st (.exit j) st1 h1 c X w a rd z hG ht hA hY hr) ?_
          rintro e1 a1 w1 hpost0
          have hpost := Post.gc hm hmt hdd hpost0
          cases e1 with
          | exit i => exact hpost
          | _ => exact hpost.1.elim
        · rename_i hne hne2
          refine wpIn_mono (ih rnd σ L Y st ex st' e c X w a rd z hG ht hA hY hr) ?_
          rintro e1 a1 w1 hpost
          cases e1 with
          | normal =>
            cases ex with
            | normal => exact (hne _ e).elim
            | _ => exact hpost.1.elim
          | _ => exact hpost
    exact key _ _ lim st c X w a (by rw [hG.ok.len]; cases C.raw f (firstReg x) <;> simp) (by rw [ht]; cases C.raw f (firstReg x) <;> simp) e hG ht hA hY hr
  | rangeFunc g ps assign body iha ihb =>
    intro rnd σ L Y
    cases rnd with
    | true => intro st ex st' e; simp [evCode] at e
    | false =>
      intro st ex st' e
      simp only [evCode] at e
      exact range_sound hH (iha true σ L Y) (ihb true σ L Y) st ex st' (by simpa using e)
  | exit id =>
    intro rnd σ L Y st ex st' e c X w a rd z hG ht hA hY hr
    simp only [evCode] at e
    cases e
    exact wpIn_exit (post_refl hG ht hA (fun h => (hr h).2.2) rfl)
  | ret =>
    intro rnd σ L Y st ex st' e c X w a rd z hG ht hA hY hr
    simp only [evCode] at e
    cases e
    exact wpIn_ret (post_refl hG ht hA (fun h => (hr h).2.2) trivial)
  | _ => intro rnd σ L Y st ex st' e; simp [evCode] at e
def resSem (tmps : Array Value) : ResultVar → Sem Value
  | .tmp t => pure (tmps.getD t undef)
  | .cell a t => do loadVar t (← asAddr (tmps.getD a undef))
theorem resultA_run {L : Held σ} {c : Cx} {boxes : List Box} {s : σ} {X : Nat → Prop} {w : World} {env : List AV} {tmps : Array Value} (hG : Good L c boxes s X w) (hA : ARels c env tmps.toList) {r : ResultVar} {v : AV} (e : resultA P env boxes r = some v) :
    ∃ u, (resSem tmps r).run P w = .ok u w ∧ ARel c v u := by
  have hD : ∀ t, tmps.toList.getD t undef = tmps.getD t undef := fun t => by simp [List.getD_eq_getElem?_getD, Array.getD_eq_getD_getElem?]
  cases r with
  | tmp t =>
    simp only [resultA] at e
    have h1 := ARels.getD hA t
    rw [hD] at h1
    rw [List.getD_eq_getElem?_getD, e] at h1
    exact ⟨_, rfl, h1⟩
  | cell a t =>
    simp only [resultA] at e
    have h1 := ARels.getD hA a
    rw [hD] at h1
    split at e
    · rename_i i off hv
      split at e
      · rename_i cs hb
        have hl : evLoad P t boxes (.ptr i off) = some v := by simp only [evLoad, hb]; exact e
        obtain ⟨u, q1, q2⟩ := load_run hG.ok (hv ▸ h1) hl
        refine ⟨u, ?_, q2⟩
        rw [hv] at h1
        simp only [ARel] at h1
        obtain ⟨k, _, hk⟩ := h1
        simp only [hk] at q1
        show (do loadVar t (← asAddr (tmps.getD a undef)) : Sem Value).run P w = _
        rw [hk]
        exact q1
      · cases e
    · cases e
theorem resultsA_run {L : Held σ} {c : Cx} {boxes : List Box} {s : σ} {X : Nat → Prop} {w : World} {env : List AV} {tmps : Array Value} (hG : Good L c boxes s X w) (hA : ARels c env tmps.toList) :
    ∀ {rs : List ResultVar} {vs : List AV}, resultsA P env boxes rs = some vs →
    ∃ us, (rs.mapM (resSem tmps)).run P w = .ok us w ∧ ARels c vs us
  | [], vs, e => by cases e; exact ⟨[], rfl, rfl⟩
  | r :: rs, vs, e => by
    simp only [resultsA] at e
    split at e
    · rename_i v vs' h1 h2
      cases e
      obtain ⟨u, q1, q2⟩ := resultA_run (P := P) hG hA h1
      obtain ⟨us, q3, q4⟩ := resultsA_run hG hA h2
      refine ⟨u :: us, ?_, u, us, rfl, q2, q4⟩
      rw [List.mapM_cons]
      simp only [Sem.run_bind, Sem.run_pure, Result.andThen]
      rw [q1]
      simp only
      rw [q3]
    · cases e
theorem results_run {L : Held σ} {c : Cx} {boxes : List Box} {s : σ} {X : Nat → Prop} {w : World} {env : List AV} {tmps : Array Value} (hG : Good L c boxes s X w) (hA : ARels c env tmps.toList) {fn : Func} {vs : List AV} (e : resultsA P env boxes fn.results.toList = some vs) :
    ∃ u, (results fn tmps).run P w = .ok u w ∧ ARel c (single vs) u := by
  obtain ⟨us, h1, h2⟩ := resultsA_run (P := P) hG hA e
  have hm : (fn.results.mapM (resSem tmps)).run P w = .ok us.toArray w := by
    conv => lhs; rw [← Array.toArray_toList (xs := fn.results)]
    rw [List.mapM_toArray, map_eq_pure_bind]
    simp only [Sem.run_bind, Sem.run_pure, h1, Result.andThen]
  refine ⟨if h : us.toArray.size = 1 then us.toArray[0] else .tuple us.toArray, ?_, ?_⟩
  · have hrs : results fn tmps = (do let vs ← fn.results.mapM (resSem tmps); pure (if h : vs.size = 1 then vs[0] else .tuple vs)) := rfl
    rw [hrs]
    simp only [Sem.run_bind]
    rw [hm]
    simp only [Result.andThen, Sem.run_pure]
  · have hl := ARels.length h2
    unfold single
    split
    · rename_i x
      obtain ⟨u, us', rfl, q1, q2⟩ := h2
      have : us' = [] := q2
      subst this
      simpa using q1
    · rename_i hne
      have : ¬ us.toArray.size = 1 := fun h => by
        simp at h
        match vs, hne, hl with
        | [x], hne, _ => exact hne x rfl
        | [], _, hl => simp at hl; omega
        | _ :: _ :: _, _, hl => simp at hl; omega
      rw [dif_neg this]
      simp only [ARel]
      exact ⟨us, rfl, h2⟩
theorem single_gc {c : Cx} {m mt : Nat} {vs : List AV} {u : Value} (h : ARel c (single vs) u) : ARel (c.cut m mt) (single (vs.map (gcA m mt))) u := by
  match vs, h with
  | [x], h => exact gcA_rel m mt h
  | [], h => simpa only [single, ARel, List.map, ARels] using h
  | x :: y :: r, h =>
    have h' : ARel c (.tup (x :: y :: r)) u := h
    simp only [ARel] at h'
    obtain ⟨us, e, hs⟩ := h'
    have : ARel (c.cut m mt) (.tup ((x :: y :: r).map (gcA m mt))) u := by
      simp only [ARel]
      exact ⟨us, e, gcL_rel m mt hs⟩
    exact this
theorem Good.putDeferred {L : Held σ} {c : Cx} {boxes : List Box} {s : σ} {X : Nat → Prop} {w : World} {l : Nat} {r : Option (List Deferred)} {o : Obj} (h : Good L c boxes s X w) (hl : w.heap[l]? = some (.deferred r)) (h1 : ¬ c.owns l) (h2 : ¬ X l) : Good L c boxes s X (w.putObj l o) :=
  h.stay (ro' := c.ro) (RO.le_refl _) ⟨fun b i v e => by
    have hne : b ≠ l := fun e' => by
      subst e'
      have := h.ok.ro b i v e
      simp [World.cell?, hl] at this
    rw [cell_of_block (World.putObj_heap_other hne)]
    exact h.ok.ro b i v e, fun b n e => by
    have hne : b ≠ l := fun e' => by
      subst e'
      obtain ⟨cs, t, fz, q, _⟩ := h.ok.ro.whole b n e
      rw [hl] at q; cases q
    exact (h.ok.ro.whole b n e).same (World.putObj_heap_other hne), h.ok.ro.known, fun b n e => by
    have hne : b ≠ l := fun e' => by
      subst e'
      obtain ⟨cs, t, fz, q, _⟩ := h.ok.ro.big b n e
      rw [hl] at q; cases q
    exact (h.ok.ro.big b n e).same (World.putObj_heap_other hne)⟩ (by simp) (fun k hk => World.putObj_heap_other (fun e => by subst e; exact hk.elim h1 h2)) (fun b o h0 h1 => (h1 h0).elim)
theorem leaves {L : Held σ} {X0 X : Nat → Prop} {c0 c : Cx} {w0 : World} {boxes : List Box} {s : σ} {fn : Func} {tmps : Array Value} {R : Ending → World → Prop} {u : FrameMode} (hu : u ≠ .run) {D0 : List Deferred}
    (hR : ∀ w', Good L c boxes s X w' → EvoX X0 c0 w0 X c w' → LeavesInM Fence.wide 0 P fn tmps R D0 u w') :
    ∀ (Ds : List Nat) (w : World), Ds.Nodup → (∀ D ∈ Ds, w.heap[D]? = some (.deferred (some [])) ∧ ¬ c.owns D ∧ ¬ X D ∧ w0.heap.size ≤ D) → Good L c boxes s X w → EvoX X0 c0 w0 X c w →
      LeavesInM Fence.wide 0 P fn tmps R (Ds.map (fun D => { target := .collected D, args := #[] }) ++ D0) u w
  | [], w, _, _, hG, hE => hR w hG hE
  | D :: Ds, w, hn, hD, hG, hE => by
    obtain ⟨q1, q2, q3, q4⟩ := hD D (by simp)
    obtain ⟨n1, n2⟩ := List.nodup_cons.1 hn
    refine ⟨hu, .inl ⟨D, _, rfl, run_takeDeferred q1, ?_⟩⟩
    refine leaves hu hR Ds _ n2 (fun D' hD' => ?_) (hG.putDeferred q1 q2 q3) ⟨hE.le, hE.os, hE.tape, hE.output, by simpa using hE.size, fun k hk h1 h2 => ?_, hE.new, hE.newX, hE.ronew, hE.dead⟩
    · obtain ⟨r1, r2, r3, r4⟩ := hD D' (List.mem_cons_of_mem _ hD')
      exact ⟨(World.putObj_heap_other (fun e => by subst e; exact n1 hD')).trans r1, r2, r3, r4⟩
    · exact (World.putObj_heap_other (by omega)).trans (hE.keep k hk h1 h2)
def ExtSound (P : Program) (glob : Nat → Option (List D)) (ext : FuncId → Option (List D → Option PR)) : Prop := ∀ f g, ext f = some g → ∀ ds r, g ds = some r →
  (∀ us w, (callFunc f us).run P w = .ok (.enter f us) w) ∧
  ∀ (ro : RO) (w : World) (us : List Value), ro.holds w → GlobIn P glob ro → DArgs ro ds us → Calls P f us.toArray w (fun e w' => ∃ u ro', e = .returned u ∧ PRel ro' r u ∧ Left (fun _ => False) ro w (fun _ => False) ro' w')
def MethSound (P : Program) (glob : Nat → Option (List D)) (meth : FuncId → Option MethP) : Prop := ∀ f g, meth f = some g → ∀ args boxes toks o boxes' toks', g.run args boxes toks (fun o b t => some (o, b, t)) = some (o, boxes', toks') →
  (∀ us w, (callFunc f us).run P w = .ok (.enter f us) w) ∧
  ∀ (c : Cx) (w : World) (us : List Value), GlobIn P glob c.ro → c.toks = toks → c.dead = [] → WOk c boxes w → ARels c args us →
    Calls P f us.toArray w (fun e w' => ∃ c' u, e = o.ends u ∧ WOk c' boxes' w' ∧ Evo c w c' w' ∧ c'.toks = toks' ∧ ARel c' o.val u)
theorem MethSound.none : MethSound P glob (fun _ => Option.none) := fun _ _ h => by cases h
theorem enters_run {f : FuncId} {fn : Func} (hf : P.funcs[f]? = some fn) (h : enters fn = true) (us : Array Value) (w : World) : (callFunc f us).run P w = .ok (.enter f us) w := by
  simp only [enters, Bool.and_eq_true, Bool.not_eq_true'] at h
  obtain ⟨h1, h2⟩ := h
  unfold callFunc
  simp only [Sem.run_bind, run_program, Result.andThen, hf]
  cases hb : fn.body with
  | none => rw [hb] at h1; cases h1
  | some c => simp [h2]
def bodyHd (C : Cfg) (H : Hd) : Hd := fun σ Y f args boxes toks s => match C.P.funcs[f]? with
  | some fn => if enters fn then evBody C H f C.lim fn σ Y args boxes toks s else none
  | none => none
theorem start_rel {c : Cx} {args : List AV} {us : List Value} (hA : ARels c args us) (fn : Func) : ARels c (args ++ List.replicate (fn.ntmps - args.length) (.tup [])) (us.toArray ++ Array.replicate (fn.ntmps - us.toArray.size) undef).toList := by
  have hl := ARels.length hA
  rw [Array.toList_append, Array.toList_replicate, List.size_toArray, hl]
  refine ARels.append hA ?_
  generalize fn.ntmps - us.length = n
  induction n with
  | zero => exact rfl
  | succ n ihn =>
    rw [List.replicate_succ, List.replicate_succ]
    exact ⟨_, _, rfl, by simp only [ARel, ARels]; exact ⟨[], rfl, rfl⟩, ihn⟩
theorem handBack {C : Cfg} (hC : C.P = P) {fb : Bool} {L : Held σ} {X X2 : Nat → Prop} {c c2 : Cx} {w w2 : World} {fn : Func} {env : List AV} {tmps : Array Value} {boxes b2 b' : List Box} {toks t2 t' : List Nat} {s2 s' : σ} {vs : List AV} {o : Out}
    (hG : Good L c2 b2 s2 X2 w2) (hE : EvoX X c w X2 c2 w2) (ht2 : c2.toks = t2) (hA2 : ARels c2 env tmps.toList) (hd : c2.dead = []) (hml : c.β.length ≤ boxes.length) (hmt : c.toks.length ≤ toks.length)
    (hvs : resultsA C.P env b2 fn.results.toList = some vs)
    (hout : (if fb then some (Out.ret (single (vs.map (gcA boxes.length toks.length))), (b2.take boxes.length).map (gcBox boxes.length toks.length), t2.take toks.length, s2) else some (Out.ret (single vs), b2, t2, s2)) = some (o, b', t', s')) :
    ∃ u, (results fn tmps).run P w2 = .ok u w2 ∧ ∃ c' X' u', Ending.returned u = o.ends u' ∧ Good L c' b' s' X' w2 ∧ EvoX X c w X' c' w2 ∧ c'.toks = t' ∧ ARel c' o.val u' := by
  rw [hC] at hvs
  obtain ⟨u, q1, q2⟩ := results_run (P := P) hG hA2 hvs
  refine ⟨u, q1, ?_⟩
  have hdd : ∀ k ∈ c2.dead, ∃ i, i < boxes.length ∧ c2.β[i]? = some k := fun k hk => by rw [hd] at hk; cases hk
  split at hout
  · simp only [Option.some.injEq, Prod.mk.injEq] at hout
    obtain ⟨rfl, rfl, rfl, rfl⟩ := hout
    exact ⟨c2.cut boxes.length toks.length, X2, u, rfl, gc_good hG boxes.length toks.length hdd, gc_evo hE hml hmt, by simp only [Cx.cut, ht2], single_gc q2⟩
  · simp only [Option.some.injEq, Prod.mk.injEq] at hout
    obtain ⟨rfl, rfl, rfl, rfl⟩ := hout
    exact ⟨c2, X2, u, rfl, hG, hE, ht2, q2⟩
theorem bodyHd_sound {C : Cfg} (hC : C.P = P ∧ C.glob = glob ∧ OddSound P glob C.odd) (hm : P.follows .mixedOrders = true) {H : Hd} (ih : HSound P glob H) : HSound P glob (bodyHd C H) := by
  intro σ Y L f args boxes toks s o b' t' s' e
  simp only [bodyHd] at e
  split at e
  case h_2 => cases e
  rename_i fn hfn
  rw [hC.1] at hfn
  split at e
  case isFalse => cases e
  rename_i hen
  refine ⟨enters_run hfn hen, fun c w X us ht hd hG hA hY => ?_⟩
  unfold evBody at e
  split at e
  case h_2 => cases e
  rename_i code hbody
  have hE0 := start_rel hA fn
  have hml : c.β.length ≤ boxes.length := Nat.le_of_eq hG.ok.len
  have hmt : c.toks.length ≤ toks.length := by rw [ht]; exact Nat.le_refl _
  have run : ∀ (ex : Ex) (st : St σ), evCode C H f C.lim false σ Y code { env := args ++ List.replicate (fn.ntmps - args.length) (.tup []), boxes, toks, s } = some (ex, st) →
      ∀ (R : Ending → World → Prop), (∀ e2 a2 w2, Post L X c w (w.heap.size, []) false ex st e2 a2 w2 → bodyPostM Fence.wide 0 P fn R e2 a2 w2) → Calls P f us.toArray w R := by
    intro ex st hev R hR
    have hcode := code_sound hC hm ih f C.lim code false σ L Y _ ex st hev c X w { tmps := us.toArray ++ Array.replicate (fn.ntmps - us.toArray.size) undef, defers := [] } none (w.heap.size, []) hG ht hE0 hY (fun _ => ⟨hd, rfl, Nat.le_refl _, [], List.nodup_nil, rfl, by simp⟩)
    exact callsIn_wide (n := 0).1 (callsIn_of_wp_marks hfn hbody trivial (wpIn_mono hcode (fun e2 a2 w2 hp => hR e2 a2 w2 hp)))
  have fin : ∀ (ex : Ex) (st : St σ) (vs : List AV), evCode C H f C.lim false σ Y code { env := args ++ List.replicate (fn.ntmps - args.length) (.tup []), boxes, toks, s } = some (ex, st) → (ex = .normal ∨ ex = .ret) → resultsA C.P st.env st.boxes fn.results.toList = some vs →
      (if finAt C f boxes toks then some (Out.ret (single (vs.map (gcA boxes.length toks.length))), (st.boxes.take boxes.length).map (gcBox boxes.length toks.length), st.toks.take toks.length, st.s) else some (Out.ret (single vs), st.boxes, st.toks, st.s)) = some (o, b', t', s') →
      Calls P f us.toArray w (fun e w' => ∃ c' X' u, e = o.ends u ∧ Good L c' b' s' X' w' ∧ EvoX X c w X' c' w' ∧ c'.toks = t' ∧ ARel c' o.val u) := by
    intro ex st vs hev hex hvs hout
    refine run ex st hev _ ?_
    rintro e2 a2 w2 ⟨hx, c2, X2, hG2, hE2, ht2, hA2, hM2⟩
    obtain ⟨_, Ds, d1, d2, d3⟩ := hM2 rfl
    have hlv : LeavesInM Fence.wide 0 P fn a2.tmps (fun e w' => ∃ c' X' u, e = o.ends u ∧ Good L c' b' s' X' w' ∧ EvoX X c w X' c' w' ∧ c'.toks = t' ∧ ARel c' o.val u) a2.defers .returning w2 := by
      rw [d2]
      refine leaves (by simp) (fun w' hG' hE' => ?_) Ds w2 d1 d3 hG2 hE2
      obtain ⟨u, q1, q2⟩ := handBack hC.1 hG' hE' ht2 hA2 (by rw [hE'.dead, hd]) hml hmt hvs hout
      exact ⟨u, q1, q2⟩
    rcases hex with rfl | rfl
    · cases e2 with
      | normal => exact hlv
      | _ => exact hx.elim
    · cases e2 with
      | ret => exact hlv
      | _ => exact hx.elim
  split at e
  · rename_i st hev
    split at e
    · rename_i vs hvs
      exact fin .normal st vs hev (.inl rfl) hvs e
    · cases e
  · rename_i st hev
    split at e
    · rename_i vs hvs
      exact fin .ret st vs hev (.inr rfl) hvs e
    · cases e
  · 
    rename_i v st hev
    simp only [Option.some.injEq, Prod.mk.injEq] at e
    obtain ⟨rfl, rfl, rfl, rfl⟩ := e
    refine run _ st hev _ ?_
    rintro e2 a2 w2 ⟨hx, c2, X2, hG2, hE2, ht2, hA2, hM2⟩
    obtain ⟨_, Ds, d1, d2, d3⟩ := hM2 rfl
    cases e2 with
    | panic ch =>
      obtain ⟨u, rfl, h1c, rfl⟩ := hx
      show LeavesInM Fence.wide 0 P fn a2.tmps _ a2.defers (.panicking _) w2
      rw [d2]
      refine leaves (by simp) (fun w' hG' hE' => ?_) Ds w2 d1 d3 hG2 hE2
      exact ⟨c2.cut boxes.length toks.length, X2, u, rfl, gone_good hG' _ _ (fun k hk => by rw [hE'.dead, hd] at hk; cases hk), gc_evo hE' hml hmt, by simp only [Cx.cut, ht2], by simp only [Out.val, ARel, DRel]; exact ⟨trivial, h1c⟩⟩
    | _ => exact hx.elim
  · cases e
theorem pre_sound {C : Cfg} (hC : C.P = P ∧ C.glob = glob ∧ OddSound P glob C.odd) {H : Hd} (hH : HSound P glob H) (f : FuncId) {L : Held σ} {Y : Yd σ} : ∀ (code : Code) (st st' : St σ), evPre C H f σ Y code st = some st' →
    ∀ (c : Cx) (X : Nat → Prop) (w : World) (a : Act), Good L c st.boxes st.s X w → c.toks = st.toks → ARels c st.env a.tmps.toList → Env P glob L Y c → a.defers = [] →
      code.wpIn (FW none) 0 P (fun e a' w' => e = .normal ∧ a'.defers = [] ∧ Now L X c w st' a'.tmps w') a w := by
  intro code
  induction code with
  | skip =>
    intro st st' e c X w a hG ht hA hY hd
    simp only [evPre, Option.some.injEq] at e
    subst e
    exact wpIn_skip ⟨rfl, hd, Now.start hG ht hA⟩
  | region id ops draw =>
    intro st0 st' e c0 X w a hG0 ht0 hA0 hY0 hd
    cases draw with
    | true => simp [evPre] at e
    | false =>
      simp only [evPre] at e
      split at e
      · rename_i st1 h1
        cases e
        obtain ⟨c, hG, hE0, ht, hA⟩ := hookSt_good (C := C) (f := f) (id := id) hG0 ht0 hA0
        refine wpIn_region_list (ops_sound hC hH (hY0.le hE0.le) h1 hd (Now.start hG ht hA) (fun a' w' hd' hN => ⟨rfl, hd', ?_⟩))
        obtain ⟨c', X', g1, g2, g3, g4⟩ := hN
        exact ⟨c', X', g1, hE0.trans g2, g3, g4⟩
      · cases e
  | seq x y ihx ihy =>
    intro st st' e c X w a hG ht hA hY hd
    simp only [evPre] at e
    split at e
    · rename_i st1 h1
      refine wpIn_seq (wpIn_mono (ihx st st1 h1 c X w a hG ht hA hY hd) ?_)
      rintro e1 a1 w1 ⟨rfl, hd1, c1, X1, g1, g2, g3, g4⟩
      refine wpIn_mono (ihy st1 st' e c1 X1 w1 a1 g1 g3 g4 (hY.le g2.le) hd1) ?_
      rintro e2 a2 w2 ⟨rfl, hd2, c2, X2, k1, k2, k3, k4⟩
      exact ⟨rfl, hd2, c2, X2, k1, g2.trans k2, k3, k4⟩
    · cases e
  | _ => intro st st' e; simp [evPre] at e
theorem splitDefer_eq : ∀ {l : List Oper} {pre post : List Oper} {d : Oper} {g : Operand}, splitDefer l = some (pre, d, g, post) → l = pre ++ d :: post ∧ d.guard = none ∧ d.dst = none ∧ ∃ ats, d.op = .defer { callee := .value g, args := #[], argTypes := ats }
  | [], _, _, _, _, h => by cases h
  | o :: r, pre, post, d, g, h => by
    unfold splitDefer at h
    split at h
    · rename_i g' args ats ho
      split at h
      · rename_i hc
        simp only [Option.some.injEq, Prod.mk.injEq] at h
        obtain ⟨rfl, rfl, rfl, rfl⟩ := h
        simp only [Bool.and_eq_true, Array.isEmpty_iff, Option.isNone_iff_eq_none] at hc
        obtain ⟨⟨h1, h2⟩, h3⟩ := hc
        subst h1
        exact ⟨rfl, h2, h3, ats, ho⟩
      · cases h
    · split at h
      · rename_i a' d' g' b' hr
        simp only [Option.some.injEq, Prod.mk.injEq] at h
        obtain ⟨rfl, rfl, rfl, rfl⟩ := h
        obtain ⟨h1, h2⟩ := splitDefer_eq hr
        exact ⟨by rw [h1]; rfl, h2⟩
      · cases h
def dfrOf (fd : FuncId) (vs : List Value) : Deferred := { target := .fn (.func fd) vs.toArray, args := #[] }
def PostD (L : Held σ) (X : Nat → Prop) (c : Cx) (w : World) (z : Nat) (ex : Ex) (st : St σ) (fd : FuncId) (caps : List AV) : Exit → Act → World → Prop := fun e a' w' =>
  exitIs ex e ∧ ∃ c' X' vs, Good L c' st.boxes st.s X' w' ∧ EvoX X c w X' c' w' ∧ c'.toks = st.toks ∧ ARels c' st.env a'.tmps.toList ∧ ARels c' caps vs ∧ Marked (z, [dfrOf fd vs]) a'.defers c' X' w'
theorem codeD_sound {C : Cfg} (hC : C.P = P ∧ C.glob = glob ∧ OddSound P glob C.odd) (hm : P.follows .mixedOrders = true) {H : Hd} (hH : HSound P glob H) (f : FuncId) (lim : Nat) {L : Held σ} {Y : Yd σ} : ∀ (code : Code) (st : St σ) (ex : Ex) (st' : St σ) (fd : FuncId) (caps : List AV), evCodeD C H f lim σ Y code st = some (ex, st', fd, caps) →
    ∀ (c : Cx) (X : Nat → Prop) (w : World) (a : Act), Good L c st.boxes st.s X w → c.toks = st.toks → ARels c st.env a.tmps.toList → Env P glob L Y c → c.dead = [] → a.defers = [] →
      code.wpIn (FW none) 0 P (PostD L X c w w.heap.size ex st' fd caps) a w := by
  intro code
  induction code with
  | region id ops draw =>
    intro st0 ex st' fd caps e c0 X w a hG0 ht0 hA0 hY0 hdd0 hd
    cases draw with
    | true => simp [evCodeD] at e
    | false =>
      simp only [evCodeD] at e
      split at e
      case h_2 => cases e
      rename_i pre dop g post hs
      split at e
      case h_2 => cases e
      rename_i st1 h1
      split at e
      case h_2 => cases e
      rename_i fd' caps' hg
      split at e
      case h_2 => cases e
      rename_i st2 h2
      simp only [Option.some.injEq, Prod.mk.injEq] at e
      obtain ⟨rfl, rfl, rfl, rfl⟩ := e
      obtain ⟨q1, q2, q3, ats, q4⟩ := splitDefer_eq hs
      obtain ⟨c, hG, hE0, ht, hA⟩ := hookSt_good (C := C) (f := f) (id := id) hG0 ht0 hA0
      have hY := hY0.le hE0.le
      refine wpIn_region_list ?_
      have := ops_sound_app (rest := dop :: post) (Q := PostD L X c0 w w.heap.size .normal st2 fd' caps') hC hH hY (rd := none) h1 hd (Now.start hG ht hA) (fun a1 w1 hd1 hN => ?_)
      · rw [← q1] at this; exact this
      obtain ⟨c1, X1, g1, g2, g3, g4⟩ := hN
      have hgr := operand_rel g4 g
      rw [hg] at hgr
      simp only [ARel] at hgr
      obtain ⟨us, vs, hgv, hus, hvs⟩ := hgr
      simp only [ARels] at hus
      subst hus
      have hw : Region.wanted dop (yielded ops a1.tmps) = true := by unfold Region.wanted; rw [q2]
      simp only [wpListIn]
      rw [if_pos hw]
      refine ⟨fun _ _ => trivial, ?_⟩
      have hrun : (dop.semAt (FW none).round a1.eval).run P w1 = .ok (.defer (dfrOf fd' vs)) w1 := by
        have hro : (FW none).round = none := rfl
        rw [hro, Oper.semAt_none]
        simp [execOp, q4, resolve, hgv, Deferred.ofValue, Sem.run_bind, Sem.run_pure, Result.andThen, dfrOf]
      rw [hrun, Oper.uponIn_defer, hd1, q3]
      have hN2 : Now L X1 c1 w1 st1 a1.tmps w1 := ⟨c1, X1, g1, EvoX.refl _ _ _, g3, g4⟩
      refine ops_sound hC hH (hY.le g2.le) h2 (ds := [dfrOf fd' vs]) rfl hN2 (fun a2 w2 hd2 hN3 => ?_)
      obtain ⟨c2, X2, k1, k2, k3, k4⟩ := hN3
      exact ⟨trivial, c2, X2, vs, k1, hE0.trans (g2.trans k2), k3, k4, ARels.mono k2.le hvs, (hE0.trans (g2.trans k2)).size, [], List.nodup_nil, by rw [hd2]; rfl, by simp⟩
  | seq x y ihx ihy =>
    intro st ex st' fd caps e c X w a hG ht hA hY hdd hd
    simp only [evCodeD] at e
    split at e
    · split at e
      case h_2 => cases e
      rename_i st1 fd1 caps1 h1
      split at e
      case h_2 => cases e
      rename_i ex2 st2 h2
      simp only [Option.some.injEq, Prod.mk.injEq] at e
      obtain ⟨rfl, rfl, rfl, rfl⟩ := e
      refine wpIn_seq (wpIn_mono (ihx st .normal st1 fd1 caps1 h1 c X w a hG ht hA hY hdd hd) ?_)
      rintro e1 a1 w1 ⟨hx, c1, X1, vs, g1, g2, g3, g4, g5, g6⟩
      cases e1 with
      | normal =>
        refine wpIn_mono (code_sound hC hm hH f lim y false σ L Y st1 ex2 st2 h2 c1 X1 w1 a1 none (w.heap.size, [dfrOf fd1 vs]) g1 g3 g4 (hY.le g2.le) (fun _ => ⟨g2.dead.trans hdd, rfl, g6⟩)) ?_
        rintro e2 a2 w2 ⟨hx2, c2, X2, k1, k2, k3, k4, k5⟩
        exact ⟨hx2, c2, X2, vs, k1, g2.trans k2, k3, k4, ARels.mono k2.le g5, k5 rfl⟩
      | _ => exact hx.elim
    · split at e
      case h_2 => cases e
      rename_i st1 h1
      refine wpIn_seq (wpIn_mono (pre_sound hC hH f x st st1 h1 c X w a hG ht hA hY hd) ?_)
      rintro e1 a1 w1 ⟨rfl, hd1, c1, X1, g1, g2, g3, g4⟩
      refine wpIn_mono (ihy st1 ex st' fd caps e c1 X1 w1 a1 g1 g3 g4 (hY.le g2.le) (g2.dead.trans hdd) hd1) ?_
      rintro e2 a2 w2 ⟨hx, c2, X2, vs, k1, k2, k3, k4, k5, k6, k7⟩
      refine ⟨hx, c2, X2, vs, k1, g2.trans k2, k3, k4, k5, Nat.le_trans g2.size k6, ?_⟩
      obtain ⟨Ds, d1, d2, d3⟩ := k7
      exact ⟨Ds, d1, d2, fun D hD => ⟨(d3 D hD).1, (d3 D hD).2.1, (d3 D hD).2.2.1, Nat.le_trans g2.size (d3 D hD).2.2.2⟩⟩
  | _ => intro st ex st' fd caps e; simp [evCodeD] at e
theorem wpSIn_mono {F : Fence} {n : Nat} {code : Code} {Q Q' : Exit → Act → List Frame → World → Prop} {a : Act} {cs : List Frame} {w : World} (h : code.wpSIn F n P Q a cs w) (hq : ∀ e a' cs' w', Q e a' cs' w' → Q' e a' cs' w') : code.wpSIn F n P Q' a cs w :=
  fun b k h1 h2 h3 h4 => let ⟨e, a', cs', w', l, q, r⟩ := h b k h1 h2 h3 h4; ⟨e, a', cs', w', l, hq _ _ _ _ q, r⟩
theorem plains_sound {C : Cfg} (hC : C.P = P) {L : Held σ} {X0 : Nat → Prop} {c0 : Cx} {w0 : World} (hbt : ∀ c : Cx, c0.le c → ∀ t, byteT P t = true → c.ro.pin.bt t = true) {ops : Array Oper} {Q : Exit → Act → List Frame → World → Prop} {cs : List Frame} : ∀ (l : List Oper) (k : Nat) (st st' : St σ), (∀ j, l[j]? = ops[k + j]?) → evPlains C l st = some st' →
    ∀ (a : Act) (w : World), a.defers = [] → Now L X0 c0 w0 st a.tmps w → (∀ a' w', a'.defers = [] → Now L X0 c0 w0 st' a'.tmps w' → Q .normal a' cs w') → wpOpsSIn (FW none) 0 P ops Q (List.range' k l.length) a cs w
  | [], k, st, st', hl, e, a, w, hd, hN, hQ => by cases e; exact hQ a w hd hN
  | o :: l, k, st, st', hl, e, a, w, hd, hN, hQ => by
    simp only [evPlains] at e
    split at e
    case isFalse => cases e
    rename_i hg
    split at e
    case h_2 => cases e
    rename_i v b t hp
    have hp := plainOf_some hp
    obtain ⟨c, X, hG, hE, ht, hA⟩ := hN
    rw [hC, ← ht] at hp
    obtain ⟨c', w', n, hrun, hW, hEv, ht', hn⟩ := plain_sound (fun t ht => hbt c hE.le t ht) hG.ok hA hp
    obtain ⟨g1, g2⟩ := hG.evo hW hEv
    have ho : ops[k]? = some o := by have := hl 0; simpa using this.symm
    have hw : Region.wanted o (yielded ops a.tmps) = true := by
      unfold Region.wanted
      rw [Option.isNone_iff_eq_none.1 hg]
    have hl' : ∀ j, l[j]? = ops[k + 1 + j]? := fun j => by
      have := hl (j + 1)
      rw [List.getElem?_cons_succ] at this
      rw [this]; congr 1; omega
    simp only [List.length_cons, List.range'_succ, wpOpsSIn, ho]
    refine ⟨fun _ _ => trivial, ?_⟩
    rw [if_pos hw, hrun]
    rcases hn with ⟨u, rfl, hu⟩ | ⟨rfl, hv⟩
    · exact plains_sound hC hbt l (k + 1) _ st' hl' e _ w' (by rw [put_defers]; exact hd) (Now.put g1 (hE.trans g2) ht' (ARels.mono g2.le hA) hu) hQ
    · refine plains_sound hC hbt l (k + 1) _ st' hl' e _ w' (by rw [put_defers]; exact hd) (Now.put g1 (hE.trans g2) ht' (ARels.mono g2.le hA) ?_) hQ
      simp only at hv
      subst hv
      simp only [ARel]
theorem simple_sound {C : Cfg} (hC : C.P = P ∧ C.glob = glob ∧ OddSound P glob C.odd) (hm : P.follows .mixedOrders = true) {H : Hd} (hH : HSound P glob H) (f : FuncId) (lim : Nat) {L : Held σ} {Y : Yd σ} {ds : List Deferred} : ∀ (code : Code), simpleC code = true → ∀ (st : St σ) (ex : Ex) (st' : St σ), evCode C H f lim false σ Y code st = some (ex, st') → isPanic ex = false →
    ∀ (c : Cx) (X : Nat → Prop) (w : World) (a : Act), Good L c st.boxes st.s X w → c.toks = st.toks → ARels c st.env a.tmps.toList → Env P glob L Y c → a.defers = ds →
      code.wpIn (FW none) 0 P (fun e a' w' => exitIs ex e ∧ a'.defers = ds ∧ Now L X c w st' a'.tmps w') a w := by
  intro code
  induction code with
  | skip =>
    intro _ st ex st' e hp c X w a hG ht hA hY hd
    simp only [evCode] at e
    cases e
    exact wpIn_skip ⟨trivial, hd, Now.start hG ht hA⟩
  | ret =>
    intro _ st ex st' e hp c X w a hG ht hA hY hd
    simp only [evCode] at e
    cases e
    exact wpIn_ret ⟨trivial, hd, Now.start hG ht hA⟩
  | region id ops draw =>
    intro _ st0 ex st' e hp c0 X w a hG0 ht0 hA0 hY0 hd
    obtain ⟨c, hG, hE0, ht, hA⟩ := hookSt_good (C := C) (f := f) (id := id) hG0 ht0 hA0
    have hY := hY0.le hE0.le
    have back : ∀ {st1 : St σ} {t : Array Value} {w' : World}, Now L X c w st1 t w' → Now L X c0 w st1 t w' := fun ⟨c', X', g1, g2, g3, g4⟩ => ⟨c', X', g1, hE0.trans g2, g3, g4⟩
    cases draw with
    | false =>
      simp only [evCode] at e
      have hx := evOps_ex hp e
      subst hx
      exact wpIn_region_list (ops_sound hC hH hY e hd (Now.start hG ht hA) (fun a' w' hd' hN => ⟨trivial, hd', back hN⟩))
    | true =>
      simp only [evCode] at e
      split at e
      · rename_i stf hev
        split at e
        · rename_i hok
          cases e
          obtain ⟨g1, g2⟩ := hG.evo hG.ok.drew (Evo.drew c w)
          exact draw_sound2 hC hm hH hY hev hok ⟨c, X, g1, g2, ht, hA⟩ (fun a' w' hd' hN => ⟨trivial, hd'.trans hd, back hN⟩)
        · cases e
      · obtain ⟨g1, g2⟩ := hG.evo hG.ok.drew (Evo.drew c w)
        rcases evDrawL_ends e with rfl | ⟨u, rfl⟩
        · exact drawL_sound hC hm hH hY e ⟨c, X, g1, g2, ht, hA⟩ (fun _ a' w' hd' hN => ⟨trivial, hd'.trans hd, back hN⟩) (fun u hu => by cases hu)
        · cases hp
  | seq x y ihx ihy =>
    intro hs st ex st' e hp c X w a hG ht hA hY hd
    simp only [simpleC, Bool.and_eq_true] at hs
    simp only [evCode] at e
    split at e
    · rename_i st1 h1
      refine wpIn_seq (wpIn_mono (ihx hs.1 st .normal st1 h1 rfl c X w a hG ht hA hY hd) ?_)
      rintro e1 a1 w1 ⟨hx, hd1, c1, X1, g1, g2, g3, g4⟩
      cases e1 with
      | normal =>
        refine wpIn_mono (ihy hs.2 st1 ex st' e hp c1 X1 w1 a1 g1 g3 g4 (hY.le g2.le) hd1) ?_
        rintro e2 a2 w2 ⟨hx2, hd2, c2, X2, k1, k2, k3, k4⟩
        exact ⟨hx2, hd2, c2, X2, k1, g2.trans k2, k3, k4⟩
      | _ => exact hx.elim
    · rename_i hne
      refine wpIn_seq (wpIn_mono (ihx hs.1 st ex st' e hp c X w a hG ht hA hY hd) ?_)
      rintro e1 a1 w1 hpost
      cases e1 with
      | normal =>
        cases ex with
        | normal => exact (hne _ e).elim
        | _ => exact hpost.1.elim
      | _ => exact hpost
  | cond o x y ihx ihy =>
    intro hs st ex st' e hp c X w a hG ht hA hY hd
    simp only [simpleC, Bool.and_eq_true] at hs
    simp only [evCode] at e
    have ho := operand_rel hA o
    split at e
    · rename_i hv
      rw [hv] at ho
      simp only [ARel, DRel] at ho
      exact wpIn_cond_true ho.1 (ihx hs.1 st ex st' e hp c X w a hG ht hA hY hd)
    · rename_i hv
      rw [hv] at ho
      simp only [ARel, DRel] at ho
      exact wpIn_cond_false ho.1 (ihy hs.2 st ex st' e hp c X w a hG ht hA hY hd)
    · cases e
  | _ => intro hs; cases hs
def recOf2 (cs : List Frame) : Value × List Frame := match recoverD cs with
  | some q => q
  | none => (.nilIface, cs)
theorem codeR_sound {C : Cfg} (hC : C.P = P ∧ C.glob = glob ∧ OddSound P glob C.odd) (hm : P.follows .mixedOrders = true) {H : Hd} (hH : HSound P glob H) (f : FuncId) (lim : Nat) {L : Held σ} {Y : Yd σ} {rv : AV} {cs : List Frame} : ∀ (code : Code) (st : St σ) (ex : Ex) (st' : St σ), evCodeR C H f lim σ Y rv code st = some (ex, st') →
    ∀ (c : Cx) (X : Nat → Prop) (w : World) (a : Act), Good L c st.boxes st.s X w → c.toks = st.toks → ARels c st.env a.tmps.toList → Env P glob L Y c → c.dead = [] → a.defers = [] → ARel c rv (recOf2 cs).1 →
      isPanic ex = false → code.wpSIn (FW none) 0 P (fun e a' cs' w' => cs' = (recOf2 cs).2 ∧ exitIs ex e ∧ a'.defers = [] ∧ Now L X c w st' a'.tmps w') a cs w := by
  intro code
  induction code with
  | region id ops draw =>
    intro st ex st' e c X w a hG ht hA hY hdd hd hrv hp
    cases draw with
    | true => simp [evCodeR] at e
    | false =>
      simp only [evCodeR] at e
      split at e
      case h_2 => cases e
      rename_i o r hops
      split at e
      case h_2 => cases e
      rename_i args ats ho
      split at e
      case isFalse => cases e
      rename_i hg
      split at e
      case h_2 => cases e
      rename_i st1 h1
      cases e
      refine wpSIn_region ?_
      have hsz : ops.size = r.length + 1 := by rw [← Array.length_toList, hops]; rfl
      have ho0 : ops[0]? = some o := by rw [← Array.getElem?_toList, hops]; rfl
      have hw : Region.wanted o (yielded ops a.tmps) = true := by
        unfold Region.wanted
        rw [Option.isNone_iff_eq_none.1 hg]
      rw [hsz, List.range_eq_range', List.range'_succ]
      simp only [wpOpsSIn, ho0]
      refine ⟨fun _ _ => trivial, ?_⟩
      have hrun : (execOp a.eval o).run P w = .ok .recover w := by
        simp [execOp, ho, resolve, invoke, builtin, Sem.run_bind, Sem.run_pure, Result.andThen]
      rw [if_pos hw, hrun]
      have hrest : ∀ (v : Value) (cs1 : List Frame), ARel c rv v → cs1 = (recOf2 cs).2 → wpOpsSIn (FW none) 0 P ops (fun e a' cs' w' => cs' = (recOf2 cs).2 ∧ exitIs .normal e ∧ a'.defers = [] ∧ Now L X c w st' a'.tmps w') (List.range' (0 + 1) r.length) (a.put o.dst v) cs1 w := by
        intro v cs1 hv hcs
        refine plains_sound hC.1 (fun c' hl t hb => by rw [(hY.le hl).gl.bt]; exact hb) r (0 + 1) { st with env := putA st.env o.dst rv } st' (fun j => ?_) h1 _ w (by rw [put_defers]; exact hd) ⟨c, X, hG, EvoX.refl _ _ _, ht, putA_rel hA o.dst hv⟩ (fun a' w' hd' hN => ⟨hcs, trivial, hd', hN⟩)
        · rw [← Array.getElem?_toList, hops, Nat.zero_add, Nat.add_comm 1 j, List.getElem?_cons_succ]
      simp only
      cases hrd : recoverD cs with
      | none =>
        simp only
        exact hrest .nilIface cs (by have := hrv; simp only [recOf2, hrd] at this; exact this) (by simp only [recOf2, hrd])
      | some q =>
        obtain ⟨v, cs1⟩ := q
        simp only
        exact hrest v cs1 (by have := hrv; simp only [recOf2, hrd] at this; exact this) (by simp only [recOf2, hrd])
  | seq x y ihx ihy =>
    intro st ex st' e c X w a hG ht hA hY hdd hd hrv hp
    simp only [evCodeR] at e
    split at e
    case isFalse => cases e
    rename_i hsc
    split at e
    case h_2 => cases e
    rename_i st1 h1
    refine wpSIn_seq (wpSIn_mono (ihx st .normal st1 h1 c X w a hG ht hA hY hdd hd hrv rfl) ?_)
    rintro e1 a1 cs1 w1 ⟨hcs, hx, hd1, c1, X1, g1, g2, g3, g4⟩
    cases e1 with
    | normal =>
      refine wpSIn_of_wpIn rfl (wpIn_mono (simple_sound hC hm hH f lim y hsc st1 ex st' e hp c1 X1 w1 a1 g1 g3 g4 (hY.le g2.le) hd1) ?_)
      rintro e2 a2 w2 ⟨hx2, hd2, c2, X2, k1, k2, k3, k4⟩
      exact ⟨hcs, hx2, hd2, c2, X2, k1, g2.trans k2, k3, k4⟩
    | _ => exact hx.elim
  | _ => intro st ex st' e; simp [evCodeR] at e
theorem finD_sound {C : Cfg} (hC : C.P = P ∧ C.glob = glob ∧ OddSound P glob C.odd) (hm : P.follows .mixedOrders = true) {H : Hd} (hH : HSound P glob H) (f : FuncId) (lim : Nat) {fn : Func} {L : Held σ} {Y : Yd σ} {boxes b' : List Box} {toks t' : List Nat} {s' : σ} {o : Out} {st : St σ} {fd : FuncId} {caps : List AV} {vs : List Value} {rv : AV} (e : evFinD C H f lim fn σ Y boxes.length toks.length st fd caps rv = some (o, b', t', s'))
    {c c2 : Cx} {X X2 : Nat → Prop} {w w2 : World} {tmps : Array Value} (hG : Good L c2 st.boxes st.s X2 w2) (hE : EvoX X c w X2 c2 w2) (ht : c2.toks = st.toks) (hA : ARels c2 st.env tmps.toList) (hcaps : ARels c2 caps vs) (hdd : c2.dead = []) (hY : Env P glob L Y c2) (hml : c.β.length ≤ boxes.length) (hmt : c.toks.length ≤ toks.length)
    {u : FrameMode} (hu : (u = .returning ∧ rv = .d (.val .nilIface)) ∨ (∃ x : Value, u = .panicking [{ v := x, recovered := false }] ∧ rv = .d (.val x) ∧ x.oneCell' = true)) :
    LeavesInM Fence.wide 0 P fn tmps (fun e w' => ∃ c' X' u, e = o.ends u ∧ Good L c' b' s' X' w' ∧ EvoX X c w X' c' w' ∧ c'.toks = t' ∧ ARel c' o.val u) [dfrOf fd vs] u w2 := by
  unfold evFinD at e
  split at e
  case h_2 => cases e
  rename_i fnd hfd
  rw [hC.1] at hfd
  split at e
  case h_2 => cases e
  rename_i cd hcd
  split at e
  case isFalse => cases e
  rename_i hen
  simp only [Bool.and_eq_true, Array.isEmpty_iff] at hen
  obtain ⟨hen, hres⟩ := hen
  have main : ∀ (ex : Ex) (st2 : St σ) (vs2 : List AV), evCodeR C H fd lim σ Y rv cd { env := caps ++ List.replicate (fnd.ntmps - caps.length) (.tup []), boxes := st.boxes, toks := st.toks, s := st.s } = some (ex, st2) → (ex = .normal ∨ ex = .ret) → resultsA C.P st.env st2.boxes fn.results.toList = some vs2 →
      (if C.fin f then some (Out.ret (single (vs2.map (gcA boxes.length toks.length))), (st2.boxes.take boxes.length).map (gcBox boxes.length toks.length), st2.toks.take toks.length, st2.s) else some (Out.ret (single vs2), st2.boxes, st2.toks, st2.s)) = some (o, b', t', s') →
      LeavesInM Fence.wide 0 P fn tmps (fun e w' => ∃ c' X' u, e = o.ends u ∧ Good L c' b' s' X' w' ∧ EvoX X c w X' c' w' ∧ c'.toks = t' ∧ ARel c' o.val u) [dfrOf fd vs] u w2 := by
    intro ex st2 vs2 hev hex hvs hout
    have hpan : isPanic ex = false := by rcases hex with rfl | rfl <;> rfl
    refine ⟨?_, .inr ⟨fun h => by simp [Fence.wide] at h, .func fd, vs.toArray, fd, vs.toArray, rfl, ?_, fun _ _ => trivial, ?_⟩⟩
    · rcases hu with ⟨rfl, _⟩ | ⟨x, rfl, _⟩ <;> simp
    · have := enters_run hfd hen vs.toArray w2
      simpa [dfrOf, invoke] using this
    · refine callsDIn_of_wpSIn hfd hcd trivial (fun c₀ cs hmode => ?_)
      have hrv : ARel c2 rv (recOf2 (c₀ :: cs)).1 ∧ ∃ u', (recOf2 (c₀ :: cs)).2 = { c₀ with mode := u' } :: cs ∧ settle u' = .returning := by
        rcases hu with ⟨rfl, rfl⟩ | ⟨x, rfl, rfl, h1⟩
        · have : recoverD (c₀ :: cs) = none := by simp [recoverD, hmode]
          simp only [recOf2, this]
          exact ⟨by simp [ARel, DRel, Value.oneCell'], .returning, by rw [← hmode], rfl⟩
        · have : recoverD (c₀ :: cs) = some (x, { c₀ with mode := .panicking [{ v := x, recovered := true }] } :: cs) := by simp [recoverD, hmode]
          simp only [recOf2, this]
          exact ⟨by simp only [ARel, DRel]; exact ⟨trivial, h1⟩, _, rfl, by simp [settle]⟩
      obtain ⟨hrv, u', hst, hset⟩ := hrv
      have hs := codeR_sound hC hm hH fd lim (cs := c₀ :: cs) cd _ ex st2 hev c2 X2 w2 { tmps := vs.toArray ++ Array.replicate (fnd.ntmps - vs.toArray.size) undef, defers := [] } hG ht (start_rel hcaps fnd) hY hdd rfl hrv hpan
      refine wpSIn_mono hs ?_
      rintro e3 a3 cs3 w3 ⟨hcs3, hx3, hd3, c3, X3, k1, k2, k3, k4⟩
      have hres' : (results fnd a3.tmps).run P w3 = .ok (.tuple #[]) w3 := by
        simp [results, hres]
      have hend : LeavesInM Fence.wide 0 P fn tmps (fun e w' => ∃ c' X' u, e = o.ends u ∧ Good L c' b' s' X' w' ∧ EvoX X c w X' c' w' ∧ c'.toks = t' ∧ ARel c' o.val u) [] (settle u') w3 := by
        rw [hset]
        obtain ⟨v, q1, q2⟩ := handBack hC.1 k1 (hE.trans k2) k3 (ARels.mono k2.le hA) (k2.dead.trans hdd) hml hmt hvs hout
        exact ⟨v, q1, q2⟩
      rcases hex with rfl | rfl
      · cases e3 with
        | normal => exact ⟨hd3, u', by rw [hcs3, hst], _, hres', hend⟩
        | _ => exact hx3.elim
      · cases e3 with
        | ret => exact ⟨hd3, u', by rw [hcs3, hst], _, hres', hend⟩
        | _ => exact hx3.elim
  split at e
  · rename_i st2 hev
    split at e
    · rename_i vs2 hvs
      exact main .normal st2 vs2 hev (.inl rfl) hvs e
    · cases e
  · rename_i st2 hev
    split at e
    · rename_i vs2 hvs
      exact main .ret st2 vs2 hev (.inr rfl) hvs e
    · cases e
  · cases e
def bodyHdD (C : Cfg) (H : Hd) : Hd := fun σ Y f args boxes toks s => match C.P.funcs[f]? with
  | some fn => if enters fn then evBodyD C H f C.lim fn σ Y args boxes toks s else none
  | none => none
theorem bodyD_sound {C : Cfg} (hC : C.P = P ∧ C.glob = glob ∧ OddSound P glob C.odd) (hm : P.follows .mixedOrders = true) {H : Hd} (ih : HSound P glob H) : HSound P glob (bodyHdD C H) := by
  intro σ Y L f args boxes toks s o b' t' s' e
  simp only [bodyHdD] at e
  split at e
  case h_2 => cases e
  rename_i fn hfn
  rw [hC.1] at hfn
  split at e
  case isFalse => cases e
  rename_i hen
  refine ⟨enters_run hfn hen, fun c w X us ht hd hG hA hY => ?_⟩
  unfold evBodyD at e
  split at e
  case h_2 => cases e
  rename_i code hbody
  have hE0 := start_rel hA fn
  have hml : c.β.length ≤ boxes.length := Nat.le_of_eq hG.ok.len
  have hmt : c.toks.length ≤ toks.length := by rw [ht]; exact Nat.le_refl _
  have main : ∀ (ex : Ex) (st : St σ) (fd : FuncId) (caps : List AV) (rv : AV), evCodeD C H f C.lim σ Y code { env := args ++ List.replicate (fn.ntmps - args.length) (.tup []), boxes, toks, s } = some (ex, st, fd, caps) → (((ex = .normal ∨ ex = .ret) ∧ rv = .d (.val .nilIface)) ∨ ex = .panic rv) →
      evFinD C H f C.lim fn σ Y boxes.length toks.length st fd caps rv = some (o, b', t', s') →
      Calls P f us.toArray w (fun e w' => ∃ c' X' u, e = o.ends u ∧ Good L c' b' s' X' w' ∧ EvoX X c w X' c' w' ∧ c'.toks = t' ∧ ARel c' o.val u) := by
    intro ex st fd caps rv hev hex hfin
    have hcode := codeD_sound hC hm ih f C.lim code _ ex st fd caps hev c X w { tmps := us.toArray ++ Array.replicate (fn.ntmps - us.toArray.size) undef, defers := [] } hG ht hE0 hY hd rfl
    refine callsIn_wide (n := 0).1 (callsIn_of_wp_marks hfn hbody trivial (wpIn_mono hcode ?_))
    rintro e2 a2 w2 ⟨hx, c2, X2, vs, hG2, hE2, ht2, hA2, hc2, _, Ds, d1, d2, d3⟩
    have fin : ∀ (u : FrameMode), u ≠ .run → ((u = .returning ∧ rv = .d (.val .nilIface)) ∨ (∃ x : Value, u = .panicking [{ v := x, recovered := false }] ∧ rv = .d (.val x) ∧ x.oneCell' = true)) → LeavesInM Fence.wide 0 P fn a2.tmps (fun e w' => ∃ c' X' u, e = o.ends u ∧ Good L c' b' s' X' w' ∧ EvoX X c w X' c' w' ∧ c'.toks = t' ∧ ARel c' o.val u) a2.defers u w2 := by
      intro u hu1 hu
      rw [d2]
      refine leaves hu1 (fun w' hG' hE' => ?_) Ds w2 d1 d3 hG2 hE2
      exact finD_sound hC hm ih f C.lim hfin hG' hE' ht2 hA2 hc2 (hE'.dead.trans hd) (hY.le hE'.le) hml hmt hu
    rcases hex with ⟨rfl | rfl, hrv⟩ | rfl
    · cases e2 with
      | normal => exact fin .returning (by simp) (.inl ⟨rfl, hrv⟩)
      | _ => exact hx.elim
    · cases e2 with
      | ret => exact fin .returning (by simp) (.inl ⟨rfl, hrv⟩)
      | _ => exact hx.elim
    · cases e2 with
      | panic ch =>
        obtain ⟨x, hrv, h1, rfl⟩ := hx
        exact fin (.panicking _) (by simp) (.inr ⟨x, rfl, hrv, h1⟩)
      | _ => exact hx.elim
  split at e
  · rename_i st fd caps hev
    exact main .normal st fd caps _ hev (.inl ⟨.inl rfl, rfl⟩) e
  · rename_i st fd caps hev
    exact main .ret st fd caps _ hev (.inl ⟨.inr rfl, rfl⟩) e
  · rename_i v st fd caps hev
    exact main (.panic v) st fd caps v hev (.inr rfl) e
  · cases e
theorem fn_sound {C : Cfg} (hC : C.P = P ∧ C.glob = glob ∧ OddSound P glob C.odd) (hm : P.follows .mixedOrders = true) (hX : ExtSound P glob C.ext) (hM : MethSound P glob C.meth) : ∀ k, HSound P glob (evFn C k) := by
  intro k
  induction k with
  | zero => intro σ Y L f args boxes toks s v b' t' s' e; cases e
  | succ k ih =>
    intro σ Y L f args boxes toks s v b' t' s' e
    simp only [evFn] at e
    split at e
    · rename_i g hg
      split at e
      · rename_i ds hds
        split at e
        · rename_i r hr
          simp only [Option.some.injEq, Prod.mk.injEq, Out.ret.injEq] at e
          obtain ⟨rfl, rfl, rfl, rfl⟩ := e
          obtain ⟨he, hp⟩ := hX f g hg ds r hr
          refine ⟨he, fun c w X us ht hd hG hA hY => Calls.mono (hp c.ro w us hG.ok.ro hY.gl (DArgs.of hA hds)) ?_⟩
          rintro e' w' ⟨u, ro', rfl, h1, h2⟩
          obtain ⟨g1, g2⟩ := hG.pure h2
          exact ⟨_, X, u, rfl, g1, g2, ht, PRel.av rfl h1⟩
        · cases e
      · cases e
    · split at e
      · rename_i g hg
        split at e
        case h_2 => cases e
        rename_i q h1
        simp only [Option.some.injEq, Prod.mk.injEq] at e
        obtain ⟨rfl, rfl, rfl, rfl⟩ := e
        obtain ⟨he, hp⟩ := hM f g hg _ _ _ _ _ _ h1
        refine ⟨he, fun c w X us ht hd hG hA hY => Calls.mono (hp c w us hY.gl ht hd hG.ok hA) ?_⟩
        rintro e' w' ⟨c', u, rfl, hW, hEv, ht', hv⟩
        obtain ⟨g1, g2⟩ := hG.evo hW hEv
        exact ⟨c', X, u, rfl, g1, g2, ht', hv⟩
      split at e
      · rename_i fn hfn
        split at e
        · rename_i hen
          split at e
          · exact bodyD_sound hC hm ih σ Y L f args boxes toks s v b' t' s' (by simp only [bodyHdD, hfn, hen, if_true]; exact e)
          · exact bodyHd_sound hC hm ih σ Y L f args boxes toks s v b' t' s' (by simp only [bodyHd, hfn, hen, if_true]; exact e)
        · cases e
      · cases e
end Ev
