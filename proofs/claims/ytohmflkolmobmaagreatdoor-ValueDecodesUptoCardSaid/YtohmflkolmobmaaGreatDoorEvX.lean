/- What functions of the program compute, as plain Lean functions, each with its proof by a proved reader; plain laws about them (EvX). -/
import Derived.Test.YtohmflkolmobmaaGreatDoorEvQ2
set_option linter.unusedSimpArgs false
set_option linter.unusedVariables false
namespace Ev
open Go Go.RowKit
variable {P : Program} {c : Cx}
def Stepped (P : Program) (c : Cx) (w : World) (s : Sem Next) (v : AV) (boxes' : List Box) (toks' : List Nat) : Prop :=
  ∃ c' w' n, s.run P w = .ok n w' ∧ WOk c' boxes' w' ∧ Evo c w c' w' ∧ c'.toks = toks' ∧ ((∃ u, n = .value u ∧ ARel c' v u) ∨ (n = .skip ∧ v = .undef))
theorem Stepped.quiet {boxes : List Box} {w : World} (hW : WOk c boxes w) {s : Sem Value} {v : AV} (h : ∃ u, s.run P w = .ok u w ∧ ARel c v u) : Stepped P c w (do pure (.value (← s))) v boxes c.toks := by
  obtain ⟨u, h1, h2⟩ := h
  exact ⟨c, w, .value u, by simp only [Sem.run_bind, h1, Result.andThen, Sem.run_pure], hW, Evo.refl c w, rfl, .inl ⟨u, rfl, h2⟩⟩
theorem newBox_step {boxes : List Box} {w : World} (hW : WOk c boxes w) {t : TypeId} {ty : Option TypeId} (hty : ∀ u, ty = some u → t = u) {z : Value} {cs : List AV} (hz : ACells c cs z.cells.toList) :
    ∃ c' w', (newVar t z).run P w = .ok ⟨w.heap.size, 0, none⟩ w' ∧ WOk c' (boxes ++ [.cells ty cs]) w' ∧ Evo c w c' w' ∧ c'.toks = c.toks ∧ ARel c' (.ptr boxes.length 0) (.pointer (some ⟨w.heap.size, 0, none⟩)) := by
  refine ⟨c.addBox w.heap.size, w.alloc (.cells z.cells t), ?_, hW.addBox _ _ (fun c' hc' => ⟨z.cells.toList, [], t, by rw [List.append_nil, Array.toArray_toList]; exact heap_alloc w _, ACells.mono hc' hz, fun u hu => ⟨hty u hu, rfl⟩⟩), Evo.addBox _, rfl, ?_⟩
  · simp [newVar, newRow]
  · simp only [ARel, Cx.addBox]
    exact ⟨w.heap.size, by rw [← hW.len]; simp, rfl⟩
theorem alloc_step {boxes : List Box} {w : World} (hW : WOk c boxes w) {t : TypeId} {r : Res} (e : evAlloc P t boxes c.toks = some r) : Stepped P c w (do pure (.value (← Instr.alloc t true (.tuple #[])))) r.1 r.2.1 r.2.2 := by
  unfold evAlloc at e
  split at e
  · rename_i cs hz
    cases e
    cases hzz : zeroOf P t with
    | none => simp [hzz] at hz
    | some x =>
      simp [hzz] at hz
      obtain ⟨z, hzr, hzrel⟩ := zeroOf_rel c hzz
      obtain ⟨c', w', h1, h2, h3, h4, h5⟩ := newBox_step (P := P) hW (t := t) (ty := some t) (fun _ h => Option.some.inj h) (ARel.cells hzrel hz)
      refine ⟨c', w', .value (.pointer (some ⟨w.heap.size, 0, none⟩)), ?_, h2, h3, h4, .inl ⟨_, rfl, h5⟩⟩
      simp only [Instr.alloc, Sem.run_bind, hzr w, Result.andThen, h1, Sem.run_pure]
  · cases e
theorem box_step {boxes : List Box} {w : World} (hW : WOk c boxes w) {t : TypeId} {x : AV} {u : Value} (hx : ARel c x u) {r : Res} (e : evBox x boxes c.toks = some r) : Stepped P c w (do pure (.value (← Instr.box t u))) r.1 r.2.1 r.2.2 := by
  unfold evBox at e
  split at e
  · rename_i cs hc
    cases e
    obtain ⟨c', w', h1, h2, h3, h4, h5⟩ := newBox_step (P := P) hW (t := t) (ty := none) (fun _ h => by cases h) (ARel.cells hx hc)
    refine ⟨c', w', .value (.pointer (some ⟨w.heap.size, 0, none⟩)), ?_, h2, h3, h4, .inl ⟨_, rfl, h5⟩⟩
    simp only [Instr.box, Sem.run_bind, h1, Result.andThen, Sem.run_pure]
  · cases e
theorem run_storeCells_splice (g o : Nat) (t : TypeId) : ∀ (vs : List Value) (i : Nat) (cur : Array Value) (w : World), w.heap[g]? = some (.cells cur t (0, 0)) → o + i + vs.length ≤ cur.size → (∀ v ∈ vs, v.oneCell' = true) →
    (storeCells ⟨g, o, none⟩ vs i).run P w = .ok () (w.setRow g (spliceV cur.toList (o + i) vs).toArray)
  | [], i, cur, w, hg, _, _ => by
    simp only [storeCells, spliceV, Array.toArray_toList]
    rw [setRow_self w g cur t (0, 0) hg]
    rfl
  | v :: rest, i, cur, w, hg, hl, h1 => by
    have hi : o + i < cur.size := by simp at hl; omega
    have hcell : w.cell? ⟨g, o + i, none⟩ = some cur[o + i] := by simp [World.cell?, hg, hi]
    have hfro : w.frozen? ⟨g, o + i, none⟩ = false := by simp [World.frozen?, hg]
    have hst : (store ((⟨g, o, none⟩ : Addr).add i) v).run P w = .ok () (w.setRow g (cur.setIfInBounds (o + i) v)) := by
      rw [add_eq, run_store P w _ v _ (h1 v (by simp)), hcell]
      simp [hfro, setCell_eq_setRow w g (o + i) cur t (0, 0) v hg]
    have ih := run_storeCells_splice g o t rest (i + 1) (cur.setIfInBounds (o + i) v) (w.setRow g (cur.setIfInBounds (o + i) v)) (setRow_heap w g cur _ t _ hg) (by simp at hl ⊢; omega) (fun x hx => h1 x (by simp [hx]))
    simp only [storeCells, Sem.run_bind, hst, Result.andThen_ok, ih, setRow_setRow]
    congr 3
    simp [spliceV, Nat.add_assoc]
theorem ACells.ones : ∀ {cs : List AV} {us : List Value}, ACells c cs us → ∀ u ∈ us, u.oneCell' = true
  | [], us, h => by
    have : us = [] := h
    subst this; simp
  | x :: xs, us, h => by
    obtain ⟨u, us', rfl, ho, h1, h2⟩ := h
    intro v hv
    rcases List.mem_cons.1 hv with rfl | hv
    · exact ho
    · exact ACells.ones h2 v hv
theorem spliceV_append : ∀ (ws us rest : List Value) (off : Nat), off + ws.length ≤ us.length → spliceV (us ++ rest) off ws = spliceV us off ws ++ rest
  | [], _, _, _, _ => rfl
  | v :: ws, us, rest, off, h => by
    simp only [spliceV]
    rw [List.set_append_left _ _ (by simp at h; omega), spliceV_append ws _ rest (off + 1) (by simp at h ⊢; omega)]
theorem spliceV_off : ∀ (ws us : List Value) (off o : Nat), (o < off ∨ off + ws.length ≤ o) → (spliceV us off ws)[o]? = us[o]?
  | [], _, _, _, _ => rfl
  | v :: ws, us, off, o, h => by
    simp only [spliceV]
    rw [spliceV_off ws _ (off + 1) o (by simp at h; omega), List.getElem?_set_ne (by simp at h; omega)]
theorem spliceV_sub : ∀ (ws sm big : List Value) (base off : Nat), off + ws.length ≤ sm.length → (∀ (j : Nat) (v : Value), sm[j]? = some v → big[base + j]? = some v) → ∀ (j : Nat) (v : Value), (spliceV sm off ws)[j]? = some v → (spliceV big (base + off) ws)[base + j]? = some v
  | [], _, _, _, _, _, h => h
  | x :: ws, sm, big, base, off, hl, h => by
    simp only [spliceV]
    have := spliceV_sub ws (sm.set off x) (big.set (base + off) x) base (off + 1) (by simp at hl ⊢; omega) (fun j v hj => by
      by_cases hjo : off = j
      · subst hjo
        have h1 : off < sm.length := by simp at hl; omega
        rw [List.getElem?_set_self h1] at hj
        have h2 : base + off < big.length := by
          have := h off _ (List.getElem?_eq_getElem h1)
          exact (List.getElem?_eq_some_iff.1 this).1
        rw [List.getElem?_set_self h2]; exact hj
      · rw [List.getElem?_set_ne hjo] at hj
        rw [List.getElem?_set_ne (by omega)]; exact h j v hj)
    rw [← Nat.add_assoc] at this
    exact this
theorem DRels.splice {r : RO} : ∀ {vs : List D} {ws : List Value} {cs : List D} {us : List Value} (off : Nat), DRels r vs ws → DRels r cs us → DRels r (spliceD cs off vs) (spliceV us off ws)
  | [], ws, cs, us, off, h, k => by
    have : ws = [] := h
    subst this; exact k
  | v :: vs, ws, cs, us, off, h, k => by
    obtain ⟨u, us', rfl, ho, h1, h2⟩ := h
    simp only [spliceD, spliceV]
    refine DRels.splice (off + 1) h2 ?_
    clear h2
    induction cs generalizing us off with
    | nil =>
      have : us = [] := k
      subst this
      cases off <;> exact rfl
    | cons x cs ih =>
      obtain ⟨y, ys, rfl, q1, q2, q3⟩ := k
      cases off with
      | zero => exact ⟨u, ys, rfl, ho, h1, q3⟩
      | succ off => exact ⟨y, _, rfl, q1, q2, ih _ _ q3⟩
theorem put_rel {r : RO} {d : D} {u : Value} {off : Nat} {vs : List D} {ws : List Value} (h : DRel r d u) (hv : DRels r vs ws) (hl : off + vs.length ≤ d.cells.length) : ∃ u', DRel r (d.put off vs) u' ∧ u'.cells.toList = spliceV u.cells.toList off ws := by
  have hc := DRel.cells h
  cases d with
  | agg cs =>
    simp only [DRel] at h
    obtain ⟨us, rfl, hs⟩ := h
    refine ⟨.agg (spliceV us off ws).toArray, ?_, by simp [Value.cells]⟩
    simp only [D.put, DRel]
    exact ⟨_, rfl, DRels.splice off hv hs⟩
  | _ =>
    obtain ⟨u0, us', e0, ho, h1, h2⟩ := hc
    have : us' = [] := h2
    subst this
    match vs, hv with
    | [], hv =>
      have : ws = [] := hv
      subst this
      exact ⟨u, h, rfl⟩
    | v :: vs', hv =>
      obtain ⟨w0, ws', rfl, q0, q1, q2⟩ := hv
      simp [D.cells] at hl
      have hoff : off = 0 := by omega
      have hvs : vs' = [] := by
        cases vs' with
        | nil => rfl
        | cons a b => simp at hl; omega
      subst hoff hvs
      have : ws' = [] := q2
      subst this
      refine ⟨w0, q1, ?_⟩
      rw [e0]
      simp [spliceV, cells_one q0]
theorem rowStore_step {boxes : List Box} {w : World} (hW : WOk c boxes w) {t : TypeId} {x : AV} {u : Value} (hx : ARel c x u) {i g z k off : Nat} {es : List D} {d y : D} (hb : boxes[i]? = some (.row z es)) (hg : c.β[i]? = some g) (hd : es[k]? = some d) (hy : x.toD = some y)
    (hdz : d.cells.length = z) (hz0 : 0 < z) (hyl : y.cells.length = P.cellsOf t) (hoff : off + y.cells.length ≤ z) (hinfo : (P.info? t).isSome = true) :
    Stepped P c w (do Instr.storeAt t (.pointer (some ⟨g, k * z + off, none⟩)) u; pure .skip) .undef (boxes.set i (.row z (es.set k (d.put off y.cells)))) c.toks := by
  obtain ⟨cs, el, hh, hr⟩ := hW.box i _ g hb hg
  obtain ⟨v, hv, hvs, hm⟩ := hr k d hd
  have hyr := ARel.toD x hx hy
  have hws := DRel.cells hyr
  have hlw := DRels.length hws
  have hbig : k * z + z ≤ cs.size := by
    have h1 : z - 1 < v.cells.size := by omega
    have := hm (z - 1) _ (Array.getElem?_eq_getElem h1)
    have := (Array.getElem?_eq_some_iff.1 this).1
    omega
  have hone : ∀ q ∈ u.cells.toList, q.oneCell' = true := ACells.ones (ACells.of_d (c := c) hws)
  have hrun := run_storeCells_splice (P := P) g (k * z + off) el u.cells.toList 0 cs w hh (by omega) hone
  rw [Nat.add_zero] at hrun
  obtain ⟨inf, hinf⟩ := Option.isSome_iff_exists.1 hinfo
  have hsz : (Go.sizeOf t).run P w = .ok u.cells.size w := by
    rw [sizeOf_run w hinf, ← cellsOf_info hinf, ← hyl, hlw]; simp
  have hrow := setRow_heap w g cs (spliceV cs.toList (k * z + off) u.cells.toList).toArray el (0, 0) hh
  obtain ⟨v', hv', hvc⟩ := put_rel hv hws (off := off) (by omega)
  have hsm : off + u.cells.toList.length ≤ v.cells.toList.length := by rw [← hlw]; simp; omega
  refine ⟨c, _, .skip, ?_, hW.setBox hg (hW.live hb (by simp) hg) (by simp) (fun j hj => setRow_other w g j _ hj) (.row z (es.set k (d.put off y.cells))) ⟨_, el, hrow, fun i' x' hx' => ?_⟩ (sized_set hh hrow (by simp [length_spliceV])), Evo.setBox (List.mem_of_getElem? hg) (hW.live hb (by simp) hg) (by simp) (fun j hj => setRow_other w g j _ hj) rfl rfl rfl, rfl, .inr ⟨rfl, rfl⟩⟩
  · simp only [Instr.storeAt, Instr.sureAddr, storeVar, Sem.run_bind, Sem.run_pure, Result.andThen, hsz]
    simp only [ne_eq, not_true_eq_false, if_false, Sem.run_bind, Sem.run_pure, Result.andThen, hrun]
  · by_cases hik : k = i'
    · subst hik
      have hkl : k < es.length := (List.getElem?_eq_some_iff.1 hd).1
      rw [List.getElem?_set_self hkl] at hx'
      cases hx'
      refine ⟨v', hv', ?_, fun j q hj => ?_⟩
      · have := congrArg List.length hvc
        rw [length_spliceV] at this
        simpa [hvs] using this
      · have := spliceV_sub u.cells.toList v.cells.toList cs.toList (k * z) off hsm (fun j q h => by simpa using hm j q (by simpa using h)) j q (by rw [← hvc]; simpa using hj)
        simpa using this
    · rw [List.getElem?_set_ne hik] at hx'
      obtain ⟨v2, q1, q2, q3⟩ := hr i' x' hx'
      refine ⟨v2, q1, q2, fun j q hj => ?_⟩
      have hjz : j < z := by rw [← q2]; exact (Array.getElem?_eq_some_iff.1 hj).1
      have hfar : i' * z + j < k * z + off ∨ k * z + off + u.cells.toList.length ≤ i' * z + j := by
        rcases Nat.lt_or_gt_of_ne hik with h | h
        · right
          have : (k + 1) * z ≤ i' * z := Nat.mul_le_mul_right z h
          rw [Nat.succ_mul] at this
          rw [← hlw]; omega
        · left
          have : (i' + 1) * z ≤ k * z := Nat.mul_le_mul_right z h
          rw [Nat.succ_mul] at this
          omega
      have := spliceV_off u.cells.toList cs.toList (k * z + off) (i' * z + j) hfar
      rw [List.getElem?_toArray, this]
      simpa using q3 j q hj
theorem store_step {boxes : List Box} {w : World} (hW : WOk c boxes w) {t : TypeId} {x y : AV} {u v : Value} (hx : ARel c x u) (hy : ARel c y v) {r : Res} (e : evStore P t x boxes c.toks y = some r) : Stepped P c w (do Instr.storeAt t v u; pure .skip) r.1 r.2.1 r.2.2 := by
  unfold evStore at e
  split at e
  · rename_i i off
    split at e
    · rename_i ty cs vs hb hv
      split at e
      · rename_i hl
        cases e
        simp only [ARel] at hy
        obtain ⟨k, hk, rfl⟩ := hy
        obtain ⟨us, rest, el, hh, hcs, hty⟩ := hW.box i _ k hb hk
        have hws := ARel.cells hx hv
        have hlw := ACells.length hws
        have hlc := ACells.length hcs
        have hrun := run_storeCells_splice (P := P) k off el u.cells.toList 0 (us ++ rest).toArray w hh (by simp at hlw; simp; omega) (ACells.ones hws)
        rw [Nat.add_zero] at hrun
        obtain ⟨inf, hinf⟩ := Option.isSome_iff_exists.1 hl.2.2
        have hsz : (Go.sizeOf t).run P w = .ok u.cells.size w := by
          rw [sizeOf_run w hinf, ← cellsOf_info hinf, ← hl.1, hlw]; simp
        have hsp : spliceV (us ++ rest) off u.cells.toList = spliceV us off u.cells.toList ++ rest := spliceV_append _ _ _ _ (by simp at hlw; simp; omega)
        have hrow := setRow_heap w k (us ++ rest).toArray (spliceV us off u.cells.toList ++ rest).toArray el (0, 0) hh
        refine ⟨c, _, .skip, ?_, hW.setBox hk (hW.live ‹_› (by simp) hk) (by simp) (fun j hj => setRow_other w k j _ hj) (.cells ty (splice cs off vs)) ⟨_, rest, el, hrow, ACells.splice off hws hcs, hty⟩ (sized_set hh hrow (by simp [length_spliceV])), Evo.setBox (List.mem_of_getElem? hk) (hW.live ‹_› (by simp) hk) (by simp) (fun j hj => setRow_other w k j _ hj) rfl rfl rfl, rfl, .inr ⟨rfl, rfl⟩⟩
        simp only [Instr.storeAt, Instr.sureAddr, storeVar, Sem.run_bind, Sem.run_pure, Result.andThen, hsz]
        simp only [ne_eq, not_true_eq_false, if_false, Sem.run_bind, Sem.run_pure, Result.andThen, hrun]
        rw [hsp]
      · cases e
    · cases e
  · rename_i i z k off
    split at e
    · rename_i z' es y' hb hy'
      split at e
      · rename_i d hd
        split at e
        · rename_i hc
          obtain ⟨rfl, h1, h2, h3, h4, h5⟩ := hc
          cases e
          simp only [ARel] at hy
          obtain ⟨g, hg, rfl⟩ := hy
          exact rowStore_step hW hx hb hg hd hy' h1 h2 h3 h4 h5
        · cases e
      · cases e
    · cases e
  · cases e
theorem okElem_info {e : TypeId} (h : okElem P e = true) : ∃ i z, P.info? e = some i ∧ i.zero = some z ∧ z.cells.size = i.size ∧ 0 < i.size ∧ 0 < i.bytes := by
  unfold okElem at h
  split at h
  · rename_i i hi
    split at h
    · rename_i z hz
      simp only [Bool.and_eq_true, beq_iff_eq, decide_eq_true_eq] at h
      exact ⟨i, z, hi, hz, h.1.1, h.1.2, h.2⟩
    · cases h
  · cases h
theorem DRows.of_list {r : RO} {b k : Nat} : ∀ {es : List D} {us : List Value} {off : Nat}, es.length = us.length → (∀ (i : Nat) (d : D) (u : Value), es[i]? = some d → us[i]? = some u → DRel r d u ∧ u.cells.size = k) →
    (∀ (j : Nat) (v : Value), (us.flatMap (·.cells.toList))[j]? = some v → r b (off + j) = some v) → DRows r b k off es
  | [], _, _, _, _, _ => by simp only [DRows]
  | d :: es, [], _, hl, _, _ => by simp at hl
  | d :: es, u :: us, off, hl, h1, h2 => by
    simp only [DRows]
    obtain ⟨q1, q2⟩ := h1 0 d u rfl rfl
    refine ⟨⟨u, q1, q2, fun j v e => h2 j v ?_⟩, DRows.of_list (us := us) (by simpa using hl) (fun i d' u' e e' => h1 (i + 1) d' u' (by simpa using e) (by simpa using e')) (fun j v e => ?_)⟩
    · have hj : j < u.cells.toList.length := by
        have := (Array.getElem?_eq_some_iff.1 e).1; simpa using this
      simp only [List.flatMap_cons]
      rw [List.getElem?_append_left hj]
      simpa using e
    · have := h2 (k + j) v (by
        simp only [List.flatMap_cons]
        rw [List.getElem?_append_right (by simp; omega)]
        have : k + j - u.cells.toList.length = j := by simp; omega
        rw [this]; exact e)
      rwa [← Nat.add_assoc] at this
theorem range_step {boxes : List Box} {w : World} (hW : WOk c boxes w) {t : TypeId} {x : AV} {u : Value} (hx : ARel c x u) {r : Res} (e : evRange P t x boxes c.toks = some r) : Stepped P c w (do pure (.value (← Instr.range t u))) r.1 r.2.1 r.2.2 := by
  unfold evRange at e
  split at e
  · rename_i s ht
    cases e
    simp only [ARel, DRel] at hx
    obtain ⟨rfl, _⟩ := hx
    refine ⟨c.addBox w.heap.size, w.alloc (.stringIter s 0), .value (.pointer (some ⟨w.heap.size, 0, none⟩)), ?_, hW.addBox _ _ (fun c' hc' => heap_alloc w _), Evo.addBox _, rfl, .inl ⟨_, rfl, ?_⟩⟩
    · simp [Instr.range, Sem.run_bind, run_underlying ht]
    · simp only [ARel, Cx.addBox]
      exact ⟨w.heap.size, by rw [← hW.len]; simp, rfl⟩
  · cases e
theorem next_step {boxes : List Box} {w : World} (hW : WOk c boxes w) {t : TypeId} {x : AV} {u : Value} (hx : ARel c x u) {r : Res} (e : evNext x boxes c.toks = some r) : Stepped P c w (do pure (.value (← Instr.next u true t))) r.1 r.2.1 r.2.2 := by
  unfold evNext at e
  split at e
  · rename_i i
    simp only [ARel] at hx
    obtain ⟨k, hk, rfl⟩ := hx
    split at e
    · rename_i s pos hb
      have hh : w.heap[k]? = some (.stringIter s pos) := hW.box i _ k hb hk
      have hg : (getObj k).run P w = .ok (.stringIter s pos) w := by simp [getObj, Sem.run, hh]
      split at e
      · rename_i hlt
        cases e
        have hs : ∀ o : Obj, (setObj k o).run P w = .ok () (w.putObj k o) := fun o => by simp [setObj, Sem.run, hh, World.putObj]
        have hkl : k < w.heap.size := (Array.getElem?_eq_some_iff.1 hh).1
        refine ⟨c, w.putObj k (.stringIter s (pos + (Utf8.decode s pos).2)), .value (.tuple #[.bool true, goInt pos, .int .i32 (Utf8.decode s pos).1]), ?_,
          hW.setBox hk (hW.live ‹_› (by simp) hk) (by simp) (fun j hj => World.putObj_heap_other hj) _ (World.putObj_heap_same hkl) (fun n q => by obtain ⟨c', t', f', q1, _⟩ := q; rw [hh] at q1; cases q1), Evo.setBox (List.mem_of_getElem? hk) (hW.live ‹_› (by simp) hk) (by simp) (fun j hj => World.putObj_heap_other hj) rfl rfl rfl, rfl, .inl ⟨_, rfl, ?_⟩⟩
        · simp only [Instr.next, Sem.run_bind, hg, Result.andThen, hlt, if_true, hs, Sem.run_pure]
        · simp only [ARel, ARels, DRel]
          exact ⟨[.bool true, goInt pos, .int .i32 (Utf8.decode s pos).1], rfl, _, _, rfl, ⟨rfl, rfl⟩, _, _, rfl, ⟨rfl, rfl⟩, _, _, rfl, ⟨rfl, rfl⟩, rfl⟩
      · rename_i hlt
        cases e
        refine ⟨c, w, .value (.tuple #[.bool false]), ?_, hW, Evo.refl c w, rfl, .inl ⟨_, rfl, ?_⟩⟩
        · simp only [Instr.next, Sem.run_bind, hg, Result.andThen, hlt, if_false, Sem.run_pure]
        · simp only [ARel, ARels, DRel]
          exact ⟨[.bool false], rfl, _, _, rfl, ⟨rfl, rfl⟩, rfl⟩
    · cases e
  · cases e
theorem isByte_iff {e : TypeId} (h : isByte P e = true) : P.underlying e = some (.int .u8) := by
  unfold isByte at h
  split at h
  · assumption
  · cases h
theorem convert_step {boxes : List Box} {w : World} (hW : WOk c boxes w) {src dst : TypeId} {x : AV} {u : Value} (hx : ARel c x u) {r : Res} (e : evConvert P src dst x boxes c.toks = some r) : Stepped P c w (do pure (.value (← convert src dst u))) r.1 r.2.1 r.2.2 := by
  unfold evConvert at e
  split at e
  · rename_i el hs hd
    split at e
    · rename_i hby
      split at e
      · rename_i s
        cases e
        simp only [ARel, DRel] at hx
        obtain ⟨rfl, _⟩ := hx
        have hrun := run_bytes_of_string (P := P) w src dst el s hs hd (isByte_iff hby)
        refine ⟨c.addRo w.heap.size s.size (fun o => (bytesRow s (grownCap w s.size 0 el))[o]?), w.drew.alloc (.cells (bytesRow s (grownCap w s.size 0 el)) el ((bytesRow s (grownCap w s.size 0 el)).size, (bytesRow s (grownCap w s.size 0 el)).size + 1)), .value (.slice (some ⟨w.heap.size, 0, none⟩) s.size (grownCap w s.size 0 el)), by simp only [Sem.run_bind, hrun, Result.andThen, Sem.run_pure], hW.addRo rfl, Evo.addRo hW rfl rfl rfl rfl, rfl, .inl ⟨_, rfl, ?_⟩⟩
        simp only [ARel, DRel]
        refine ⟨_, _, rfl, grownCap_ge w _ _ _, .inr ⟨w.heap.size, 0, rfl, fun i y hy => ?_⟩⟩
        have hi : i < s.size := by
          rcases Nat.lt_or_ge i s.size with h' | h'
          · exact h'
          · rw [getElem?_neg _ i (by omega)] at hy; cases hy
        simp only [Cx.addRo, Nat.zero_add]
        rw [if_pos ⟨trivial, hi⟩]
        have := bytesRow_at s (grownCap w s.size 0 el) i hi
        rw [this]
        rw [getElem?_pos s i hi] at hy
        cases hy; rfl
      · cases e
    · cases e
  · rename_i el hs hd
    split at e
    · rename_i hby
      split at e
      · rename_i b hb
        cases e
        exact Stepped.quiet hW ⟨_, bytes_string_run hx hb hs hby hd hW.ro, by simp [ARel, DRel, Value.oneCell']⟩
      · cases e
    · cases e
  · split at e
    · rename_i vx hv
      have hu := ARel.toVal hx hv
      subst hu
      cases hs : semPure P (convert src dst u) with
      | none => simp [hs, resB] at e
      | some q =>
        simp [hs, resB] at e
        subst e
        exact Stepped.quiet hW ⟨q, semPure_run _ hs w, ofVal_rel c q⟩
    · cases e
theorem zeroCells_size (z : Array Value) (n : Nat) : (Builtin.zeroCells z n).size = n * z.size := size_zeroCells z n
theorem append_nil_run {ats : Array TypeId} {t u ty e : TypeId} {i : TypeInfo} {z : Value} (h0 : ats[0]? = some t) (h1 : ats[1]? = some u) (ht : P.underlying t = some (.slice e)) (hu : ∃ d, P.underlying u = some d ∧ ∀ k, d ≠ .int k)
    (hi : P.info? e = some i) (hz : i.zero = some z) {x : Value} {n : Nat} {news : Array Value} (hlen : ∀ w : World, (Builtin.lenOf x).run P w = .ok n w) {w : World} (hf : ∀ w' : World, w'.heap = w.heap → (Builtin.firstCells i.size n x).run P w' = .ok news w') (hn : 0 < n) (h63 : n ≤ 9223372036854775807) (h48 : n * i.bytes ≤ 281474976710656) :
    (Builtin.append_ ats ty #[.slice none 0 0, x]).run P w = .ok (.slice (some ⟨w.heap.size, 0, none⟩) n (grownCap w n 0 e)) (w.drew.alloc (.cells (news ++ Builtin.zeroCells z.cells (grownCap w n 0 e - n)) e)) := by
  obtain ⟨d, hd, hdk⟩ := hu
  have hnz : ¬ n = 0 := by omega
  have h63' : ¬ (9223372036854775807 < (n : Int)) := by omega
  have h48' : ¬ (281474976710656 < Builtin.nextslicecap n 0 * i.bytes) := by rw [nextslicecap_zero hn]; omega
  have hf' := hf w.drew rfl
  have hm : (match d with | .int _ => true | _ => false) = false := by
    cases d with
    | int k => exact (hdk k rfl).elim
    | _ => rfl
  simp [Builtin.append_, h0, h1, run_underlying ht, run_underlying hd, hm, Go.sizeOf, typeInfo, zeroValue, hi, hz, hlen, hnz, h63', h48', Question.forced, run_firstCells_none, hf', newRow, grownCap]
theorem append_grow_run {ats : Array TypeId} {t u ty e : TypeId} {i : TypeInfo} {z : Value} (h0 : ats[0]? = some t) (h1 : ats[1]? = some u) (ht : P.underlying t = some (.slice e)) (hu : ∃ d, P.underlying u = some d ∧ ∀ k, d ≠ .int k)
    (hi : P.info? e = some i) (hz : i.zero = some z) {x : Value} {n : Nat} {news : Array Value} (hlen : ∀ w : World, (Builtin.lenOf x).run P w = .ok n w) {w : World} {b : Addr} {sLen sCap : Nat} {olds : List Value} (hlo : olds.length = sLen * i.size) (holds : ∀ (j : Nat) (v : Value), olds[j]? = some v → w.cell? (b.add j) = some v)
    (hf : ∀ w' : World, w'.heap = w.heap → (Builtin.firstCells i.size n x).run P w' = .ok news w') (hg : sCap < sLen + n) (h63 : sLen + n ≤ 9223372036854775807) (hfit : Builtin.nextslicecap (sLen + n) sCap * i.bytes ≤ 281474976710656) :
    (Builtin.append_ ats ty #[.slice (some b) sLen sCap, x]).run P w = .ok (.slice (some ⟨w.heap.size, 0, none⟩) (sLen + n) (grownCap w (sLen + n) sCap e))
      (w.drew.alloc (.cells (olds.toArray ++ news ++ Builtin.zeroCells z.cells (grownCap w (sLen + n) sCap e - (sLen + n))) e)) := by
  obtain ⟨d, hd, hdk⟩ := hu
  have hm : (match d with | .int _ => true | _ => false) = false := by
    cases d with
    | int k => exact (hdk k rfl).elim
    | _ => rfl
  have hn : ¬ (sLen + n ≤ sCap) := by omega
  have h63' : ¬ (9223372036854775807 < ((sLen : Int) + (n : Int))) := by omega
  have h48' : ¬ (281474976710656 < Builtin.nextslicecap (sLen + n) sCap * i.bytes) := by omega
  have hf' := hf w.drew rfl
  have hfo := run_firstCells_some (P := P) w.drew i.size sLen b sLen sCap olds hlo (by simpa using holds)
  simp [Builtin.append_, h0, h1, run_underlying ht, run_underlying hd, hm, Go.sizeOf, typeInfo, zeroValue, hi, hz, hlen, hn, h63', h48', Question.forced, hf', hfo, newRow, grownCap]
theorem append_room_run {ats : Array TypeId} {t u ty e : TypeId} {i : TypeInfo} {z : Value} (h0 : ats[0]? = some t) (h1 : ats[1]? = some u) (ht : P.underlying t = some (.slice e)) (hu : ∃ d, P.underlying u = some d ∧ ∀ k, d ≠ .int k)
    (hi : P.info? e = some i) (hz : i.zero = some z) {x : Value} {n : Nat} {news : Array Value} (hlen : ∀ w : World, (Builtin.lenOf x).run P w = .ok n w) {w : World} {g sLen sCap : Nat} {cur : Array Value} {e' : TypeId} (hg : w.heap[g]? = some (.cells cur e' (0, 0))) (hf : ∀ w' : World, w'.heap = w.heap → (Builtin.firstCells i.size n x).run P w' = .ok news w')
    (hone : ∀ v ∈ news.toList, v.oneCell' = true) (hroom : sLen + n ≤ sCap) (hfit : sLen * i.size + news.size ≤ cur.size) :
    (Builtin.append_ ats ty #[.slice (some ⟨g, 0, none⟩) sLen sCap, x]).run P w = .ok (.slice (some ⟨g, 0, none⟩) (sLen + n) sCap) (w.setRow g (spliceV cur.toList (sLen * i.size) news.toList).toArray) := by
  obtain ⟨d, hd, hdk⟩ := hu
  have hm : (match d with | .int _ => true | _ => false) = false := by
    cases d with
    | int k => exact (hdk k rfl).elim
    | _ => rfl
  have hf' := hf w rfl
  have hst := run_storeCells_splice (P := P) g (sLen * i.size) e' news.toList 0 cur w hg (by simpa using hfit) hone
  rw [Nat.add_zero] at hst
  simp [Builtin.append_, h0, h1, run_underlying ht, run_underlying hd, hm, Go.sizeOf, typeInfo, zeroValue, hi, hz, hlen, hroom, hf', add_eq, hst]
structure More (P : Program) (c : Cx) (w : World) (size n : Nat) (x : Value) (news : Array Value) : Prop where
  len : ∀ w' : World, (Builtin.lenOf x).run P w' = .ok n w'
  cells : ∀ w' : World, w'.heap = w.heap → (Builtin.firstCells size n x).run P w' = .ok news w'
  size : news.size = n * size
  one : ∀ v ∈ news.toList, v.oneCell' = true
theorem rows_cells {r : RO} {b k : Nat} : ∀ {es : List D} {off : Nat}, DRows r b k off es → ∃ us : List Value, us.length = es.length ∧ (∀ (i : Nat) (d : D) (u : Value), es[i]? = some d → us[i]? = some u → DRel r d u ∧ u.cells.size = k) ∧
    (us.flatMap (·.cells.toList)).length = es.length * k ∧ ∀ (j : Nat) (v : Value), (us.flatMap (·.cells.toList))[j]? = some v → r b (off + j) = some v ∧ v.oneCell' = true
  | [], _, _ => ⟨[], rfl, by simp, by simp, by simp⟩
  | d :: es, off, h => by
    simp only [DRows] at h
    obtain ⟨⟨u, h1, h2, h3⟩, h4⟩ := h
    obtain ⟨us, q1, q2, q3, q4⟩ := rows_cells h4
    refine ⟨u :: us, by simp [q1], ?_, ?_, ?_⟩
    · intro i d' u' e e'
      cases i with
      | zero => simp at e e'; subst e; subst e'; exact ⟨h1, h2⟩
      | succ i => exact q2 i d' u' (by simpa using e) (by simpa using e')
    · simp only [List.flatMap_cons, List.length_append, q3, Array.length_toList, h2, List.length_cons, Nat.succ_mul]; omega
    · intro j v e
      simp only [List.flatMap_cons] at e
      by_cases hj : j < u.cells.toList.length
      · rw [List.getElem?_append_left hj] at e
        have e' : u.cells[j]? = some v := by simpa using e
        refine ⟨h3 j v e', ?_⟩
        have hcs : DRels r d.cells u.cells.toList := DRel.cells h1
        have : ∀ {cs : List D} {ws : List Value}, DRels r cs ws → ∀ y ∈ ws, y.oneCell' = true := by
          intro cs
          induction cs with
          | nil => intro ws hw y hy; have : ws = [] := hw; subst this; cases hy
          | cons a cs ih =>
            intro ws hw y hy
            obtain ⟨a', ws', rfl, ho, _, hr⟩ := hw
            rcases List.mem_cons.1 hy with rfl | hy
            · exact ho
            · exact ih hr y hy
        exact this hcs v (List.mem_of_getElem? e)
      · rw [List.getElem?_append_right (by omega)] at e
        have := q4 _ v e
        have hk : u.cells.toList.length = k := by simpa using h2
        rw [hk] at this
        refine ⟨?_, this.2⟩
        have h5 := this.1
        rw [show off + k + (j - k) = off + j by omega] at h5
        exact h5
end Ev
