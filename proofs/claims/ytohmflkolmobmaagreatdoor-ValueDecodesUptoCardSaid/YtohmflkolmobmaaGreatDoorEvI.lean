/- What functions of the program compute, as plain Lean functions, each with its proof by a proved reader; plain laws about them (EvI). -/
import Derived.Test.YtohmflkolmobmaaGreatDoorEvH
set_option linter.unusedSimpArgs false
set_option linter.unusedVariables false
namespace Ev
open Go Go.RowKit
variable {σ : Type} {P : Program} {glob : Nat → Option (List D)} {L : Held σ} {X0 : Nat → Prop} {c0 : Cx} {w0 : World}
def LendSound (P : Program) (glob : Nat → Option (List D)) (H : Hd) : Prop := ∀ (σ : Type) (Y : Yd σ) (L : Held σ) (f : FuncId) (args : List AV) (boxes : List Box) (toks : List Nat) (s : σ) (v : Out) (boxes' : List Box) (toks' : List Nat) (s' : σ),
  lend H σ Y f args boxes toks s = some (v, boxes', toks', s') →
  (∀ us w, (callFunc f us).run P w = .ok (.enter f us) w) ∧
  ∀ (c : Cx) (w : World) (X : Nat → Prop) (us : List Value), c.toks = toks → Good L c boxes s X w → ARels c args us → Env P glob L Y c →
    Calls P f us.toArray w (fun e w' => ∃ c' X' u, e = v.ends u ∧ Good L c' boxes' s' X' w' ∧ EvoX X c w X' c' w' ∧ c'.toks = toks' ∧ ARel c' v.val u)
def OddSound (P : Program) (glob : Nat → Option (List D)) (odd : FuncId → Option OddE) : Prop := ∀ f g, odd f = some g → ∀ args boxes toks v boxes' toks', g.run args boxes toks (fun v b t => some (v, b, t)) = some (v, boxes', toks') →
  (∀ us w, (callFunc f us).run P w = .ok (.enter f us) w) ∧
  ∀ (c : Cx) (w : World) (us : List Value), GlobIn P glob c.ro → c.toks = toks → WOk c boxes w → ARels c args us →
    Calls P f us.toArray w (fun e w' => ∃ c' u, e = .returned u ∧ WOk c' boxes' w' ∧ Evo c w c' w' ∧ c'.toks = toks' ∧ ARel c' v u)
theorem OddSound.none {P : Program} {glob : Nat → Option (List D)} : OddSound P glob (fun _ => Option.none) := fun _ _ h => by cases h
theorem semAt_call {rd : Option Nat} {o : Oper} {a : Act} {cl : Call} (ho : o.op = .call cl) : o.semAt rd a.eval = execOp a.eval o := Oper.semAt_eq _ _ _ (fun c e => by rw [ho] at e; cases e)
theorem wp_enter {rd : Option Nat} {o : Oper} {a : Act} {w w1 : World} {f : FuncId} {us : Array Value} {K : Act → World → Prop} {Q : Exit → Act → World → Prop} {cl : Call} (ho : o.op = .call cl)
    (hrun : (execOp a.eval o).run P w = .ok (.enter f us) w1) (hC : Calls P f us w1 (fun e w' => ∃ u, e = .returned u ∧ K (a.put o.dst u) w')) : o.wpIn (FW rd) 0 P a w K Q := by
  refine ⟨fun _ _ => trivial, ?_⟩
  rw [semAt_call ho, hrun, Oper.uponIn_enter]
  refine ⟨fun h => by simp [FW, Fence.wide] at h, callsIn_FW (Calls.mono hC ?_)⟩
  rintro e w' ⟨u, rfl, h⟩
  exact h
theorem wp_enterP {rd : Option Nat} {o : Oper} {a : Act} {w w1 : World} {f : FuncId} {us : Array Value} {K : Act → World → Prop} {Q : Exit → Act → World → Prop} {cl : Call} (ho : o.op = .call cl)
    (hrun : (execOp a.eval o).run P w = .ok (.enter f us) w1) (hC : Calls P f us w1 (fun e w' => ∃ u, e = .panicked [{ v := u, recovered := false }] ∧ Q (.panic [{ v := u, recovered := false }]) a w')) : o.wpIn (FW rd) 0 P a w K Q := by
  refine ⟨fun _ _ => trivial, ?_⟩
  rw [semAt_call ho, hrun, Oper.uponIn_enter]
  refine ⟨fun h => by simp [FW, Fence.wide] at h, callsIn_FW (Calls.mono hC ?_)⟩
  rintro e w' ⟨u, rfl, h⟩
  exact h
theorem ARels.append {c : Cx} : ∀ {xs ys : List AV} {us vs : List Value}, ARels c xs us → ARels c ys vs → ARels c (xs ++ ys) (us ++ vs)
  | [], ys, us, vs, h, k => by
    have : us = [] := h
    subst this; exact k
  | x :: xs, ys, us, vs, h, k => by
    obtain ⟨u, us', rfl, h1, h2⟩ := h
    exact ⟨u, _, rfl, h1, ARels.append h2 k⟩
theorem ARels.demote {c : Cx} : ∀ {xs : List AV} {us : List Value}, ARels c xs us → ARels c (xs.map AV.demote) us
  | [], us, h => h
  | x :: xs, us, h => by
    obtain ⟨u, us', rfl, h1, h2⟩ := h
    exact ⟨u, us', rfl, ARel.demote h1, ARels.demote h2⟩
theorem Now.put {st : St σ} {c : Cx} {X : Nat → Prop} {w : World} {a : Act} {v : AV} {u : Value} {o : Oper} {b : List Box} {t : List Nat} {s : σ} (hG : Good L c b s X w) (hE : EvoX X0 c0 w0 X c w) (ht : c.toks = t) (hA : ARels c st.env a.tmps.toList) (hv : ARel c v u) :
    Now L X0 c0 w0 { env := putA st.env o.dst v, boxes := b, toks := t, s } (a.put o.dst u).tmps w := ⟨c, X, hG, hE, ht, putA_rel hA o.dst hv⟩
theorem plainOf_some {C : Cfg} {o : Oper} {env : List AV} {boxes : List Box} {toks : List Nat} {r : Res} (h : plainOf C o env boxes toks = some r) : evPlain C.P o env boxes toks = some r := by
  unfold plainOf at h
  cases hs : skipPlain C o with
  | true => rw [hs] at h; cases h
  | false => rw [hs] at h; exact h
theorem plainOf_skip {C : Cfg} {o : Oper} {env : List AV} {boxes : List Box} {toks : List Nat} {r : Res} (h : plainOf C o env boxes toks = some r) : skipPlain C o = false := by
  unfold plainOf at h
  cases hs : skipPlain C o with
  | true => rw [hs] at h; cases h
  | false => rfl
theorem plainOf_eq {C : Cfg} {o : Oper} {env : List AV} {boxes : List Box} {toks : List Nat} (h : skipPlain C o = false) : plainOf C o env boxes toks = evPlain C.P o env boxes toks := by
  unfold plainOf; rw [h]; rfl
theorem more_sound {C : Cfg} {c : Cx} {boxes : List Box} {w : World} (hW : WOk c boxes w) {env : List AV} {a : Act} (hE : ARels c env a.tmps.toList) {o : Oper} {r : Res} (e : evMore C o env boxes c.toks = some r) :
    (∀ d, o.op ≠ .defer d) ∧ Stepped C.P c w (execOp a.eval o) r.1 r.2.1 r.2.2 := by
  have hρ := operand_rel hE
  unfold evMore at e
  split at e
  · rename_i t len parts ho
    generalize hd : C.deep t = dp at e
    cases dp with
    | false => cases e
    | true =>
      refine ⟨fun d h => (by rw [ho] at h; cases h), ?_⟩
      simp only [execOp, ho]
      exact deep_step hW hρ e
  · rename_i args ats ho
    generalize hd : rowApp C ats = dp at e
    cases dp with
    | true =>
      exact ⟨fun d h => (by rw [ho] at h; cases h), rowA_sound hW hE e⟩
    | false =>
      rw [cond_false] at e
      split at e
      · rename_i r' hf
        cases e
        exact ⟨fun d h => (by simp [evFog, h] at hf), fog_sound hW hE hf⟩
      · exact rest_sound hW hE e
  · split at e
    · rename_i r' hf
      cases e
      exact ⟨fun d h => (by simp [evFog, h] at hf), fog_sound hW hE hf⟩
    · exact rest_sound hW hE e
theorem op_sound {C : Cfg} (hC : C.P = P ∧ C.glob = glob ∧ OddSound P glob C.odd) {H : Hd} (hH : HSound P glob H) (hL : LendSound P glob H) {Y : Yd σ} (hY : Env P glob L Y c0) {draw : Bool} {o : Oper} {st st' : St σ} (e : evOp C H Y draw o st = some (.normal, st'))
    {rd : Option Nat} {a : Act} {w : World} (hN : Now L X0 c0 w0 st a.tmps w) {K : Act → World → Prop} {Q : Exit → Act → World → Prop} (hK : ∀ (u : Value) (w' : World), Now L X0 c0 w0 st' (a.put o.dst u).tmps w' → K (a.put o.dst u) w') :
    o.wpIn (FW rd) 0 P a w K Q := by
  obtain ⟨c, X, hG, hE, ht, hA⟩ := hN
  have hρ := operand_rel hA
  unfold evOp at e
  split at e
  · 
    rename_i g args ats ho
    have hg := hρ g
    split at e
    · rename_i f first caps hgv
      rw [hgv] at hg
      simp only [ARel] at hg
      obtain ⟨fs, cs, hg, hfs, hcs⟩ := hg
      have hargs : ARels c (first ++ args.toList.map (operand st.env) ++ caps) (fs ++ args.toList.map a.eval ++ cs) := ARels.append (ARels.append hfs (ARels.map_ops hρ _)) hcs
      have hrunE : ∀ (he : ∀ us w, (callFunc f us).run P w = .ok (.enter f us) w), (execOp a.eval o).run P w = .ok (.enter f (fs ++ args.toList.map a.eval ++ cs).toArray) w := fun he => by
        have : fs.toArray ++ args.map a.eval ++ cs.toArray = (fs ++ args.toList.map a.eval ++ cs).toArray := by apply Array.ext'; simp
        simp only [execOp, ho, resolve, hg, Deferred.ofValue, Sem.run_bind, Sem.run_pure, Result.andThen, invoke, he, this]
      simp only at e
      split at e
      · rename_i g hodd
        split at e
        · cases e
        split at e
        · rename_i v b t hg'
          obtain ⟨he, hp⟩ := hC.2.2 f g hodd _ _ _ _ _ _ hg'
          refine wp_enter ho (hrunE he) (Calls.mono (hp c w _ (hY.le hE.le).gl ht hG.ok hargs) ?_)
          rintro e' w' ⟨c', u, rfl, hW, hEv, ht', hv⟩
          obtain ⟨g1, g2⟩ := hG.evo hW hEv
          refine ⟨u, rfl, hK u w' ?_⟩
          simp only [Option.some.injEq, Prod.mk.injEq, true_and] at e
          subst e
          exact Now.put g1 (hE.trans g2) ht' (ARels.mono g2.le hA) hv
        · cases e
      split at e
      · split at e
        · cases e
        split at e
        · rename_i ds hds
          split at e
          · rename_i v b hth
            obtain ⟨he, hp⟩ := thaw_sound (σ := σ) hH hth
            refine wp_enter ho (hrunE he) (Calls.mono (hp L st.s c w X _ hG (hY.le hE.le).gl (DArgs.of hargs hds)) ?_)
            rintro e' w' ⟨c', u, rfl, g1, g2, g3, hv⟩
            refine ⟨u, rfl, hK u w' ?_⟩
            simp only [Option.some.injEq, Prod.mk.injEq, true_and] at e
            subst e
            exact Now.put g1 (hE.trans g2) (g3.trans ht) (ARels.mono g2.le hA) hv
          · cases e
        · cases e
      generalize hr : tryPure C H f (first ++ args.toList.map (operand st.env) ++ caps) = pc at e
      cases pc with
      | some r =>
        simp only at e
        unfold tryPure at hr
        split at hr
        · cases hr
        · split at hr
          · rename_i ds hds
            obtain ⟨he, hp⟩ := pureCall_sound hH hr
            refine wp_enter ho (hrunE he) (Calls.mono (hp c.ro w _ hG.ok.ro (hY.le hE.le).gl (DArgs.of hargs hds)) ?_)
            rintro e' w' ⟨u, ro', rfl, hd, hl⟩
            obtain ⟨g1, g2⟩ := hG.pure hl
            refine ⟨u, rfl, hK u w' ?_⟩
            simp only [Option.some.injEq, Prod.mk.injEq, true_and] at e
            subst e
            exact Now.put g1 (hE.trans g2) ht (ARels.mono g2.le hA) (PRel.av rfl hd)
          · cases hr
      | none =>
        simp only at e
        split at e
        · cases e
        · split at e
          · rename_i v b t s hl
            obtain ⟨he, hp⟩ := hL σ Y L f _ _ _ _ _ _ _ _ hl
            have hargs' : ARels c ((if C.keep f = true then first ++ args.toList.map (operand st.env) else (first ++ args.toList.map (operand st.env)).map AV.demote) ++ caps) (fs ++ args.toList.map a.eval ++ cs) := by
              refine ARels.append ?_ hcs
              have := ARels.append hfs (ARels.map_ops hρ args.toList)
              split
              · exact this
              · exact this.demote
            refine wp_enter ho (hrunE he) (Calls.mono (hp c w X _ ht hG hargs' (hY.le hE.le)) ?_)
            rintro e' w' ⟨c', X', u, rfl, g1, g2, g3, hv⟩
            refine ⟨u, rfl, hK u w' ?_⟩
            simp only [Option.some.injEq, Prod.mk.injEq, true_and] at e
            subst e
            exact Now.put g1 (hE.trans g2) g3 (ARels.mono g2.le hA) hv
          · simp at e
          · cases e
    · 
      rename_i hgv
      rw [hgv] at hg
      simp only [ARel] at hg
      obtain ⟨l, hcl, hg⟩ := hg
      split at e
      · cases e
      dsimp only at e
      split at e
      · rename_i ds hds
        split at e
        · rename_i b s hy
          have hargs : ARels c (args.toList.map (operand st.env)) (args.toList.map a.eval) := ARels.map_ops hρ _
          obtain ⟨f, tmps, assign, body, hrun, hround⟩ := hY.yd l (by rw [← hE.le.l]; exact hcl) ds st.s b s hy X c.ro w _ hG.held hG.ok.ro (DArgs.of hargs hds)
          refine ⟨fun _ _ => trivial, ?_⟩
          have hx : (execOp a.eval o).run P w = .ok (.round l f tmps assign body) w := by
            have : (#[] : Array Value) ++ args.map a.eval ++ #[] = (args.toList.map a.eval).toArray := by apply Array.ext'; simp
            have h2 : (#[] : Array Value) ++ args.map a.eval = (args.toList.map a.eval).toArray := by apply Array.ext'; simp
            simp only [execOp, ho, resolve, hg, Deferred.ofValue, Sem.run_bind, Sem.run_pure, Result.andThen, invoke, h2, hrun]
          rw [semAt_call ho, hx, Oper.uponIn_round]
          refine ⟨fun h => by simp [FW, Fence.wide] at h, (hround rd).mono ?_⟩
          rintro e' w' ⟨X', ro', rfl, hR, hl⟩
          obtain ⟨g1, g2⟩ := hG.left hl hR
          refine hK _ w' ?_
          simp only [Option.some.injEq, Prod.mk.injEq, true_and] at e
          subst e
          exact Now.put g1 (hE.trans g2) ht (ARels.mono g2.le hA) (by simp [ARel, DRel, Value.oneCell'])
        · cases e
      · cases e
    · cases e
  · split at e
    · cases e
    · split at e <;> simp at e
  · rename_i h1 h2
    dsimp only at e
    split at e
    · rename_i v hgl
      unfold globLoad at hgl
      split at hgl
      case h_2 => cases hgl
      rename_i t x ho
      split at hgl
      case h_2 => cases hgl
      rename_i g off hg
      split at hgl
      case h_2 => cases hgl
      rename_i cs hcs
      have hx := hρ x
      rw [hg] at hx
      simp only [ARel] at hx
      obtain ⟨us, hus, hro, _⟩ := (hY.le hE.le).gl.cells g cs (by rw [← hC.2.1]; exact hcs)
      rw [hC.1] at hgl
      obtain ⟨u, h1', h2'⟩ := load_cells (P := P) (b := g) (base := 0) (ACells.of_d (c := c) hus) (w := w) (fun j v e => by rw [Nat.zero_add]; exact hG.ok.ro _ _ _ (hro j v e)) hgl
      rw [Nat.zero_add] at h1'
      simp only [Option.some.injEq, Prod.mk.injEq, true_and] at e
      subst e
      refine ⟨fun _ _ => trivial, ?_⟩
      rw [Oper.semAt_eq _ _ _ (fun d hd => by rw [ho] at hd; cases hd)]
      have hrun : (execOp a.eval o).run P w = .ok (.value u) w := by
        simp only [execOp, ho, hx, Instr.loadAt, Instr.sureAddr, Sem.run_bind, Sem.run_pure, Result.andThen, h1']
      rw [hrun, Oper.uponIn_value]
      exact hK u w (Now.put hG hE ht hA h2')
    split at e
    · rename_i v b t hp
      have hp := plainOf_some hp
      rw [hC.1, ← ht] at hp
      obtain ⟨c', w', n, hrun, hW, hEv, ht', hn⟩ := plain_sound (fun t ht => by rw [(hY.le hE.le).gl.bt]; exact ht) hG.ok hA hp
      obtain ⟨g1, g2⟩ := hG.evo hW hEv
      simp only [Option.some.injEq, Prod.mk.injEq, true_and] at e
      subst e
      refine ⟨fun _ _ => trivial, ?_⟩
      rw [Oper.semAt_eq _ _ _ (fun d hd => by simp [evPlain, hd] at hp), hrun]
      rcases hn with ⟨u, rfl, hu⟩ | ⟨rfl, hv⟩
      · rw [Oper.uponIn_value]
        exact hK u w' (Now.put g1 (hE.trans g2) ht' (ARels.mono g2.le hA) hu)
      · rw [Oper.uponIn_skip]
        refine hK undef w' (Now.put g1 (hE.trans g2) ht' (ARels.mono g2.le hA) ?_)
        simp only at hv
        subst hv
        simp only [ARel]
    · split at e
      · cases e
      split at e
      · rename_i v b t hp
        rw [← ht] at hp
        obtain ⟨hnd, hst⟩ := more_sound hG.ok hA hp
        rw [hC.1] at hst
        obtain ⟨c', w', n, hrun, hW, hEv, ht', hn⟩ := hst
        obtain ⟨g1, g2⟩ := hG.evo hW hEv
        simp only [Option.some.injEq, Prod.mk.injEq, true_and] at e
        subst e
        refine ⟨fun _ _ => trivial, ?_⟩
        rw [Oper.semAt_eq _ _ _ hnd, hrun]
        rcases hn with ⟨u, rfl, hu⟩ | ⟨rfl, hv⟩
        · rw [Oper.uponIn_value]
          exact hK u w' (Now.put g1 (hE.trans g2) ht' (ARels.mono g2.le hA) hu)
        · rw [Oper.uponIn_skip]
          refine hK undef w' (Now.put g1 (hE.trans g2) ht' (ARels.mono g2.le hA) ?_)
          simp only at hv
          subst hv
          simp only [ARel]
      · cases e
theorem op_panic {C : Cfg} (hC : C.P = P ∧ C.glob = glob ∧ OddSound P glob C.odd) {H : Hd} (hH : HSound P glob H) (hL : LendSound P glob H) {Y : Yd σ} (hY : Env P glob L Y c0) {draw : Bool} {o : Oper} {st st' : St σ} {v : AV} (e : evOp C H Y draw o st = some (.panic v, st'))
    {rd : Option Nat} {a : Act} {w : World} (hN : Now L X0 c0 w0 st a.tmps w) {K : Act → World → Prop} {Q : Exit → Act → World → Prop} (hK : ∀ (u : Value) (w' : World), v = .d (.val u) → u.oneCell' = true → Now L X0 c0 w0 st' a.tmps w' → Q (.panic [{ v := u, recovered := false }]) a w') :
    o.wpIn (FW rd) 0 P a w K Q := by
  obtain ⟨c, X, hG, hE, ht, hA⟩ := hN
  have hρ := operand_rel hA
  unfold evOp at e
  split at e
  · rename_i g args ats ho
    have hg := hρ g
    split at e
    · rename_i f first caps hgv
      rw [hgv] at hg
      simp only [ARel] at hg
      obtain ⟨fs, cs, hg, hfs, hcs⟩ := hg
      have hrunE : ∀ (he : ∀ us w, (callFunc f us).run P w = .ok (.enter f us) w), (execOp a.eval o).run P w = .ok (.enter f (fs ++ args.toList.map a.eval ++ cs).toArray) w := fun he => by
        have : fs.toArray ++ args.map a.eval ++ cs.toArray = (fs ++ args.toList.map a.eval ++ cs).toArray := by apply Array.ext'; simp
        simp only [execOp, ho, resolve, hg, Deferred.ofValue, Sem.run_bind, Sem.run_pure, Result.andThen, invoke, he, this]
      simp only at e
      split at e
      · split at e
        · cases e
        split at e <;> simp at e
      split at e
      · split at e
        · cases e
        split at e
        · split at e <;> simp at e
        · cases e
      generalize hr : tryPure C H f (first ++ args.toList.map (operand st.env) ++ caps) = pc at e
      cases pc with
      | some r => simp at e
      | none =>
        simp only at e
        split at e
        · cases e
        · split at e
          · simp at e
          · rename_i u b t s hl
            obtain ⟨he, hp⟩ := hL σ Y L f _ _ _ _ _ _ _ _ hl
            have hargs' : ARels c ((if C.keep f = true then first ++ args.toList.map (operand st.env) else (first ++ args.toList.map (operand st.env)).map AV.demote) ++ caps) (fs ++ args.toList.map a.eval ++ cs) := by
              refine ARels.append ?_ hcs
              have := ARels.append hfs (ARels.map_ops hρ args.toList)
              split
              · exact this
              · exact this.demote
            refine wp_enterP ho (hrunE he) (Calls.mono (hp c w X _ ht hG hargs' (hY.le hE.le)) ?_)
            rintro e' w' ⟨c', X', u', rfl, g1, g2, g3, hv⟩
            simp only [Out.val, ARel, DRel] at hv
            obtain ⟨rfl, hone⟩ := hv
            refine ⟨u', rfl, ?_⟩
            simp only [Option.some.injEq, Prod.mk.injEq, Ex.panic.injEq] at e
            obtain ⟨rfl, rfl⟩ := e
            exact hK u' w' rfl hone ⟨c', X', g1, hE.trans g2, g3, ARels.mono g2.le hA⟩
          · cases e
    · split at e
      · cases e
      dsimp only at e
      split at e
      · split at e <;> simp at e
      · cases e
    · cases e
  · rename_i x ho
    split at e
    · cases e
    split at e
    case h_2 => cases e
    rename_i t v' hx
    simp only [Option.some.injEq, Prod.mk.injEq, Ex.panic.injEq] at e
    obtain ⟨rfl, rfl⟩ := e
    have hxr := hρ x
    rw [hx] at hxr
    simp only [ARel, DRel] at hxr
    refine ⟨fun _ _ => trivial, ?_⟩
    rw [Oper.semAt_eq _ _ _ (fun d hd => by rw [ho] at hd; cases hd)]
    have hrun : (execOp a.eval o).run P w = .halt (.panic (.iface t v')) w := by
      simp only [execOp, ho, hxr.1, Instr.panic, Sem.run_bind]
      rfl
    rw [hrun, Oper.uponIn_panic]
    exact hK _ w rfl rfl ⟨c, X, hG, hE, ht, hA⟩
  · dsimp only at e
    split at e
    · simp at e
    split at e
    · simp at e
    · split at e
      · cases e
      split at e <;> simp at e
theorem wanted_of {ops : Array Oper} {o : Oper} {st : St σ} {a : Act} {w : World} (hN : Now L X0 c0 w0 st a.tmps w) : ∀ {b : Bool}, wantedA ops.toList st.env o = some b → Region.wanted o (yielded ops a.tmps) = b := by
  intro b hb
  obtain ⟨c, X, hG, hE, ht, hA⟩ := hN
  unfold wantedA at hb
  unfold Region.wanted
  cases hg : o.guard with
  | none => simp only [hg, Option.some.injEq] at hb; simp only [← hb]
  | some jw =>
    obtain ⟨j, want⟩ := jw
    simp only [hg] at hb
    simp only
    rw [Array.getElem?_toList] at hb
    cases hj : ops[j]? with
    | none => simp [hj] at hb
    | some q =>
      simp only [hj] at hb
      cases hd : q.dst with
      | none => simp [hd] at hb
      | some t =>
        simp only [hd] at hb
        have hx := ARels.getD hA t
        have hin : ∀ u : Value, a.tmps.toList.getD t undef = u → u ≠ undef → a.tmps[t]? = some u := fun u h1 h2 => by
          rw [List.getD_eq_getElem?_getD, Array.getElem?_toList] at h1
          cases h3 : a.tmps[t]? with
          | none => rw [h3] at h1; exact (h2 h1.symm).elim
          | some v => rw [h3] at h1; simp at h1; rw [h1]
        split at hb
        · rename_i b' hv
          rw [hv] at hx
          simp only [ARel, DRel] at hx
          have := hin _ hx.1 (by simp [undef])
          simp only [Option.some.injEq] at hb
          subst hb
          simp [yielded, hj, hd, this]
        · rename_i hv
          rw [hv] at hx
          simp only [ARel, ARels] at hx
          obtain ⟨us, hx, hus⟩ := hx
          subst hus
          simp only [Option.some.injEq] at hb
          subst hb
          have h1 : yielded ops a.tmps j = Option.none := by
            rw [List.getD_eq_getElem?_getD, Array.getElem?_toList] at hx
            simp only [yielded, hj, hd, Option.bind_some]
            cases h3 : a.tmps[t]? with
            | none => rfl
            | some v => rw [h3] at hx; simp at hx; rw [hx]
          rw [h1]; rfl
        · cases hb
theorem step_sound {C : Cfg} (hC : C.P = P ∧ C.glob = glob ∧ OddSound P glob C.odd) {H : Hd} (hH : HSound P glob H) (hL : LendSound P glob H) {Y : Yd σ} (hY : Env P glob L Y c0) {draw : Bool} {ops : Array Oper} {o : Oper} {st st' : St σ} (e : step1 C H Y draw ops.toList o st = some (.normal, st'))
    {rd : Option Nat} {a : Act} {w : World} (hN : Now L X0 c0 w0 st a.tmps w) {K : Act → World → Prop} {Q : Exit → Act → World → Prop} (hK : ∀ (u : Value) (w' : World), Now L X0 c0 w0 st' (a.put o.dst u).tmps w' → K (a.put o.dst u) w') :
    if Region.wanted o (yielded ops a.tmps) then o.wpIn (FW rd) 0 P a w K Q else (∀ f, o.about P w a.eval = some f → (FW rd).fn f) ∧ K (a.put o.dst undef) w := by
  have hw : ∀ b, wantedA ops.toList st.env o = some b → Region.wanted o (yielded ops a.tmps) = b := fun b hb => wanted_of hN hb
  unfold step1 at e
  split at e
  · rename_i hb
    rw [hw true hb]
    exact op_sound hC hH hL hY e hN hK
  · rename_i hb
    rw [hw false hb]
    simp only [Bool.false_eq_true, if_false]
    refine ⟨fun _ _ => trivial, hK undef w ?_⟩
    cases e
    obtain ⟨c, X, hG, hE, ht, hA⟩ := hN
    exact ⟨c, X, hG, hE, ht, putA_rel hA o.dst (by simp only [ARel, ARels]; exact ⟨[], rfl, rfl⟩)⟩
  · cases e
theorem step_panic {C : Cfg} (hC : C.P = P ∧ C.glob = glob ∧ OddSound P glob C.odd) {H : Hd} (hH : HSound P glob H) (hL : LendSound P glob H) {Y : Yd σ} (hY : Env P glob L Y c0) {draw : Bool} {ops : Array Oper} {o : Oper} {st st' : St σ} {v : AV} (e : step1 C H Y draw ops.toList o st = some (.panic v, st'))
    {rd : Option Nat} {a : Act} {w : World} (hN : Now L X0 c0 w0 st a.tmps w) {K : Act → World → Prop} {Q : Exit → Act → World → Prop} (hK : ∀ (u : Value) (w' : World), v = .d (.val u) → u.oneCell' = true → Now L X0 c0 w0 st' a.tmps w' → Q (.panic [{ v := u, recovered := false }]) a w') :
    if Region.wanted o (yielded ops a.tmps) then o.wpIn (FW rd) 0 P a w K Q else (∀ f, o.about P w a.eval = some f → (FW rd).fn f) ∧ K (a.put o.dst undef) w := by
  unfold step1 at e
  split at e
  · rename_i hb
    have hw := wanted_of hN hb
    rw [hw]
    exact op_panic hC hH hL hY e hN hK
  · cases e
  · cases e
end Ev
