/- What functions of the program compute, as plain Lean functions, each with its proof by a proved reader; plain laws about them (EvNw). -/
import Derived.Test.YtohmflkolmobmaaGreatDoorEvZ
set_option linter.unusedSimpArgs false
set_option linter.unusedVariables false
namespace Ev
open Go Go.RowKit
variable {P : Program} {c : Cx}
theorem ofVal2_rel (c : Cx) (v : Value) : ARel c (ofVal2 v) v := by
  unfold ofVal2
  split
  · rename_i us
    simp only [ARel]
    refine ⟨us.toList, by simp, ?_⟩
    generalize us.toList = l
    induction l with
    | nil => exact rfl
    | cons u l ih => exact ⟨u, l, rfl, ofVal_rel c u, ih⟩
  · exact ofVal_rel c v
theorem nilCmp_rel {t : TypeId} {x y : AV} {u v : Value} {b : Bool} (hx : ARel c x u) (hy : ARel c y v) (e : nilCmp P t x y = some b) :
    ∃ el A n k, P.underlying t = some (.slice el) ∧ u = .slice A n k ∧ v = .slice none 0 0 ∧ A.isNone = b := by
  unfold nilCmp at e
  split at e
  case h_2 => cases e
  rename_i el ht
  split at e
  · cases e
    simp only [ARel] at hx hy
    exact ⟨el, none, 0, 0, ht, hx, hy, rfl⟩
  · cases e
    simp only [ARel, DRel] at hx hy
    obtain ⟨A, k, rfl, _, h⟩ := hx
    rcases h with h | ⟨b, off, k', rfl, _⟩
    · cases h
    · exact ⟨el, _, _, k, ht, rfl, hy, rfl⟩
  · cases e
    simp only [ARel] at hx hy
    rcases hx with ⟨b, cap, k, rfl, _⟩ | ⟨h, _⟩
    · exact ⟨el, _, _, cap, ht, rfl, hy, rfl⟩
    · cases h
  · cases e
    simp only [ARel] at hx hy
    obtain ⟨k, cap, _, _, rfl⟩ := hx
    exact ⟨el, _, _, cap, ht, rfl, hy, rfl⟩
  · cases e
    simp only [ARel] at hx hy
    obtain ⟨k, cap, _, _, rfl⟩ := hx
    exact ⟨el, _, _, cap, ht, rfl, hy, rfl⟩
  · split at e
    · cases e
    · rename_i h0
      cases e
      simp only [ARel, DRel] at hx hy
      obtain ⟨A, k, rfl, _, h⟩ := hx
      rcases h with h | ⟨b, off, rfl, _⟩
      · exact (h0 h).elim
      · exact ⟨el, _, _, k, ht, rfl, hy, rfl⟩
  · split at e
    · cases e
    · rename_i h0
      cases e
      simp only [ARel] at hx hy
      rcases hx with ⟨b, cap, rfl, _⟩ | ⟨h, _⟩
      · exact ⟨el, _, _, cap, ht, rfl, hy, rfl⟩
      · exact (h0 h).elim
  · cases e
theorem findNow_same {kd : TypeDesc} {k : Value} : ∀ (ms ms' : List MapEntry) (i : Nat), ms.map (fun e => (e.key, e.val)) = ms'.map (fun e => (e.key, e.val)) → Instr.findNow kd k ms i = Instr.findNow kd k ms' i
  | [], ms', i, h => by
    have : ms' = [] := by cases ms' with
      | nil => rfl
      | cons a b => cases h
    subst this; rfl
  | e :: ms, [], i, h => by cases h
  | e :: ms, e' :: ms', i, h => by
    simp only [List.map_cons, List.cons.injEq, Prod.mk.injEq] at h
    obtain ⟨⟨h1, h2⟩, h3⟩ := h
    simp only [Instr.findNow, h1, h2]
    rw [findNow_same ms ms' (i + 1) h3]
theorem entries_same (es : List (Value × Value)) : (entriesOf es).map (fun e => (e.key, e.val)) = es := by
  unfold entriesOf
  rw [List.map_map]
  conv => rhs; rw [← List.map_id es]
  rfl
theorem run_setObj_m {w : World} {k : Nat} {ms : Array MapEntry} {cl : Nat} (o : Obj) (h : w.heap[k]? = some (.map ms cl)) : (setObj k o).run P w = .ok () (w.putObj k o) := by
  simp [setObj, Sem.run, h, World.putObj]
theorem run_getObj_m {w : World} {k : Nat} {ms : Array MapEntry} {cl : Nat} (h : w.heap[k]? = some (.map ms cl)) : (getObj k).run P w = .ok (.map ms cl) w := by
  simp [getObj, Sem.run, h]
theorem ACells.times {zs : List AV} {us : List Value} (h : ACells c zs us) : ∀ n, ACells c (timesL zs n) (timesL us n)
  | 0 => rfl
  | n + 1 => ACells.app h (ACells.times h n)
theorem times_len {α : Type} (zs : List α) : ∀ n, (timesL zs n).length = n * zs.length
  | 0 => by simp [timesL]
  | n + 1 => by simp only [timesL, List.length_append, times_len zs n, Nat.succ_mul]; omega
theorem times_get (zs : List Value) (hz : 0 < zs.length) : ∀ (n i : Nat), i < n * zs.length → (timesL zs n)[i]? = zs[i % zs.length]?
  | 0, i, h => by omega
  | n + 1, i, h => by
    simp only [timesL]
    by_cases hi : i < zs.length
    · rw [List.getElem?_append_left hi, Nat.mod_eq_of_lt hi]
    · rw [List.getElem?_append_right (by omega), times_get zs hz n (i - zs.length) (by rw [Nat.succ_mul] at h; omega)]
      congr 1
      exact (Nat.mod_eq_sub_mod (by omega)).symm
theorem zeroCells_times (z : Array Value) (n : Nat) (hz : 0 < z.size) : (Builtin.zeroCells z n).toList = timesL z.toList n := by
  apply List.ext_getElem?
  intro i
  unfold Builtin.zeroCells
  by_cases hi : i < n * z.size
  · rw [times_get z.toList (by simpa using hz) n i (by simpa using hi)]
    simp [hi, Nat.mod_lt _ hz]
  · rw [List.getElem?_eq_none (by simp; omega), List.getElem?_eq_none (by rw [times_len]; simp; omega)]
theorem putMap_step {boxes : List Box} {w : World} (hW : WOk c boxes w) {i k : Nat} {es es' : List (Value × Value)} {ms ms' : Array MapEntry} {cl cl' : Nat} (hb : boxes[i]? = some (.map es)) (hk : c.β[i]? = some k) (hh : w.heap[k]? = some (.map ms cl))
    (h' : ms'.toList.map (fun e => (e.key, e.val)) = es') : WOk c (boxes.set i (.map es')) (w.putObj k (.map ms' cl')) ∧ Evo c w c (w.putObj k (.map ms' cl')) := by
  have hd := hW.live hb (by simp) hk
  have hlt : k < w.heap.size := (Array.getElem?_eq_some_iff.1 hh).1
  refine ⟨hW.setBox hk hd (by simp) (fun j hj => World.putObj_heap_other hj) (.map es') ⟨ms', cl', World.putObj_heap_same hlt, h'⟩ (fun n q => ?_), ⟨Cx.le_refl c, rfl, rfl, rfl, by simp, fun j hj hn => World.putObj_heap_other (fun e => hn (by subst e; exact .inl ⟨List.mem_of_getElem? hk, hd⟩)), fun _ h => .inl h, fun _ _ h0 h1 => (h1 h0).elim, rfl⟩⟩
  obtain ⟨cs, t, fz, q1, _⟩ := q
  rw [hh] at q1; cases q1
theorem rest_sound {boxes : List Box} {w : World} (hW : WOk c boxes w) {env : List AV} {a : Act} (hE : ARels c env a.tmps.toList) {o : Oper} {r : Res} (e : evRest P o env boxes c.toks = some r) :
    (∀ d, o.op ≠ .defer d) ∧ Stepped P c w (execOp a.eval o) r.1 r.2.1 r.2.2 := by
  have hρ := operand_rel hE
  refine ⟨fun d h => (by simp [evRest, h] at e), ?_⟩
  unfold evRest at e
  split at e
  · 
    rename_i t x ho
    split at e
    case h_2 => cases e
    rename_i v hv
    split at e
    case h_2 => cases e
    rename_i u hu
    cases e
    simp only [execOp, ho]
    exact Stepped.quiet hW ⟨u, by rw [ARel.toVal (hρ x) hv]; exact semPure_run _ hu w, ofVal_rel c u⟩
  · rename_i x xt t ok ho
    split at e
    case h_2 => cases e
    rename_i v hv
    split at e
    case h_2 => cases e
    rename_i u hu
    cases e
    simp only [execOp, ho]
    exact Stepped.quiet hW ⟨u, by rw [ARel.toVal (hρ x) hv]; exact semPure_run _ hu w, ofVal2_rel c u⟩
  · rename_i op t x y q ho
    simp only [execOp, ho]
    have key : ∀ (b : Bool), nilCmp P t (operand env x) (operand env y) = some b → (op = .eql ∨ op = .neq) → ∀ rb : Bool, rb = (if op = .eql then b else !b) → Stepped P c w (do pure (.value (← (do eqGuard op t x y (a.eval x) (a.eval y); binOp op t (a.eval x) (a.eval y))))) (.d (.val (.bool rb))) boxes c.toks := by
      intro b hb hop rb hrb
      obtain ⟨el, A, n, k, ht, h1, h2, h3⟩ := nilCmp_rel (hρ x) (hρ y) hb
      refine Stepped.quiet hW ⟨.bool rb, ?_, by simp [ARel, DRel, Value.oneCell']⟩
      rw [h1, h2, hrb]
      have hq : (Op.equal t (.slice A n k) (.slice none 0 0)).run P w = .ok b w := by
        unfold Op.equal Op.maxDepth Op.equalIn
        simp only [Sem.run_bind, run_underlying ht, Result.andThen]
        cases A with
        | none => simp at h3; subst h3; rfl
        | some A => simp at h3; subst h3; rfl
      rcases hop with rfl | rfl
      · simp [eqGuard, binOp, Sem.run_bind, hq]
      · simp [eqGuard, binOp, Sem.run_bind, hq]
    split at e
    · rename_i b hb
      cases e
      exact key b hb (.inl rfl) _ (by simp)
    · rename_i b hb
      cases e
      exact key b hb (.inr rfl) _ (by simp)
    · cases e
  · 
    rename_i t x lo hi ho
    split at e
    case h_2 => cases e
    rename_i el l ht hl
    split at e
    case h_2 => cases e
    rename_i n hn
    split at e
    case h_2 => cases e
    rename_i h hh
    split at e
    case isFalse => cases e
    rename_i hc
    split at e
    case h_2 => cases e
    rename_i v hv
    cases e
    simp only [execOp, ho]
    obtain ⟨h0, h1, h6⟩ := hc
    obtain ⟨i, hi'⟩ := Option.isSome_iff_exists.1 h6
    have hx := hρ x
    have key : ∀ (ib off cap k : Nat), operand env x = operand env x → c.β[ib]? = some k → n ≤ cap → a.eval x = .slice (some ⟨k, off, none⟩) n cap → h.toNat ≤ n → (l.toNat < n ∨ l.toNat = 0) → v = .msb ib (off + l.toNat * P.cellsOf el) (h.toNat - l.toNat) →
        Stepped P c w (do pure (.value (← Instr.sliceAt t (a.eval x) (lo.map a.eval) (hi.map a.eval) (Option.map a.eval none)))) v boxes c.toks := by
      intro ib off cap k _ hk hcap hu hhn hln hv'
      have hbd := bounds_run (P := P) (mx := none) (m := n) hρ hl hh rfl h0 h1 (by omega) (Int.le_refl _) hcap true w (by simp)
      refine Stepped.quiet hW ⟨.slice (some ⟨k, off + l.toNat * P.cellsOf el, none⟩) (h.toNat - l.toNat) (cap - l.toNat), ?_, ?_⟩
      · rw [hu]
        simp only [Instr.sliceAt, Instr.slice, Sem.run_bind, run_underlying ht, Result.andThen, hbd, sizeOf_run w hi', Sem.run_pure, cellsOf_info hi', Option.isNone_none, if_true]
        simp only [add_eq, Option.map_some, Result.ok.injEq, and_true, Value.slice.injEq, Option.some.injEq, Addr.mk.injEq, true_and]
        rcases hln with q | q
        · rw [if_neg (by omega)]
        · rw [q]; simp
      · rw [hv']
        simp only [ARel]
        exact ⟨k, _, hk, by omega, rfl⟩
    have keyR : ∀ (ib off cap k : Nat), c.β[ib]? = some k → n ≤ cap → a.eval x = .slice (some ⟨k, off * P.cellsOf el, none⟩) n cap → h.toNat ≤ n → (if l.toNat < h.toNat then some (AV.rsb ib (P.cellsOf el) (off + l.toNat) (h.toNat - l.toNat)) else some (.d (if isByte P el then .bytes .empty else .slice []))) = some v →
        Stepped P c w (do pure (.value (← Instr.sliceAt t (a.eval x) (lo.map a.eval) (hi.map a.eval) (Option.map a.eval none)))) v boxes c.toks := by
      intro ib off cap k hk hcap hu hhn hv'
      have hbd := bounds_run (P := P) (mx := none) (m := n) hρ hl hh rfl h0 h1 (by omega) (Int.le_refl _) hcap true w (by simp)
      have hrun : ∃ A q, (Instr.sliceAt t (a.eval x) (lo.map a.eval) (hi.map a.eval) (Option.map a.eval none)).run P w = .ok (.slice (some A) (h.toNat - l.toNat) q) w ∧ h.toNat - l.toNat ≤ q ∧ (l.toNat < h.toNat → A = ⟨k, off * P.cellsOf el + l.toNat * P.cellsOf el, none⟩) := by
        rw [hu]
        simp only [Instr.sliceAt, Instr.slice, Sem.run_bind, run_underlying ht, Result.andThen, hbd, sizeOf_run w hi', Sem.run_pure, cellsOf_info hi', Option.isNone_none, if_true]
        simp only [add_eq, Option.map_some]
        by_cases hz : cap = l.toNat
        · refine ⟨_, _, by rw [if_pos hz], by omega, fun hlt => by omega⟩
        · refine ⟨_, _, by rw [if_neg hz], by omega, fun hlt => rfl⟩
      obtain ⟨A, q, hr, hq, hA⟩ := hrun
      refine Stepped.quiet hW ⟨_, hr, ?_⟩
      split at hv'
      · rename_i hlt
        cases hv'
        simp only [ARel]
        exact ⟨k, q, hk, hq, by rw [hA hlt, Nat.add_mul]⟩
      · rename_i hlt
        cases hv'
        have h0' : h.toNat - l.toNat = 0 := by omega
        rw [h0']
        cases isByte P el with
        | true =>
          simp only [ARel, DRel, if_true]
          exact ⟨some A, q, rfl, Nat.zero_le _, .inl rfl⟩
        | false =>
          simp only [ARel, DRel, Bool.false_eq_true, if_false]
          exact ⟨some A, q, rfl, Nat.zero_le _, .inl trivial⟩
    unfold cutRow at hv
    split at hv
    · rename_i ib z' n' hop
      split at hv
      case isFalse => cases hv
      rename_i hhn
      obtain ⟨hhn, rfl⟩ := hhn
      rw [hop] at hx hn
      simp only [slen, Option.some.injEq] at hn
      subst hn
      simp only [ARel] at hx
      obtain ⟨k, cap, q1, q2, _, q3⟩ := hx
      exact keyR ib 0 cap k q1 q2 (by rw [q3]; simp) hhn (by rw [Nat.zero_add]; exact hv)
    · rename_i ib z' off n' hop
      split at hv
      case isFalse => cases hv
      rename_i hhn
      obtain ⟨hhn, rfl⟩ := hhn
      rw [hop] at hx hn
      simp only [slen, Option.some.injEq] at hn
      subst hn
      simp only [ARel] at hx
      obtain ⟨k, cap, q1, q2, q3⟩ := hx
      exact keyR ib off cap k q1 q2 q3 hhn hv
    · rename_i ib n' z hop
      split at hv
      case isFalse => cases hv
      rename_i hhn
      cases hv
      rw [hop] at hx hn
      simp only [slen, Option.some.injEq] at hn
      subst hn
      simp only [ARel] at hx
      obtain ⟨k, cap, q1, q2, q3⟩ := hx
      exact key ib 0 cap k rfl q1 q2 q3 hhn.1 hhn.2 (by rw [Nat.zero_add])
    · rename_i ib off n' hop
      split at hv
      case isFalse => cases hv
      rename_i hhn
      cases hv
      rw [hop] at hx hn
      simp only [slen, Option.some.injEq] at hn
      subst hn
      simp only [ARel] at hx
      obtain ⟨k, cap, q1, q2, q3⟩ := hx
      exact key ib off cap k rfl q1 q2 q3 hhn.1 hhn.2 rfl
    · cases hv
  · 
    rename_i t ho
    cases e
    simp only [execOp, ho]
    refine ⟨c.addBox w.heap.size, w.alloc (.map #[] 0), .value (.map (some w.heap.size)), ?_, hW.addBox _ _ (fun c' hc' => ⟨#[], 0, heap_alloc w _, rfl⟩), Evo.addBox _, rfl, .inl ⟨_, rfl, ?_⟩⟩
    · simp [Instr.makeMap, Sem.run_bind]
    · simp only [ARel, Cx.addBox]
      exact ⟨w.heap.size, by rw [← hW.len]; simp, rfl⟩
  · 
    rename_i t m k x ho
    split at e
    case h_2 => cases e
    rename_i i kv xv hm hkv hxv
    split at e
    case h_2 => cases e
    rename_i es kt et hb ht
    split at e
    case h_2 => cases e
    rename_i _ kd hck hkd
    split at e
    case h_2 => cases e
    rename_i hfn
    cases e
    have hmr := hρ m
    rw [hm] at hmr
    simp only [ARel] at hmr
    obtain ⟨g, hg, hmv⟩ := hmr
    obtain ⟨ms, cl, hh, hms⟩ := hW.box i _ g hb hg
    obtain ⟨q1, q2⟩ := putMap_step hW (es' := es ++ [(kv, xv)]) (ms' := ms.push { key := kv, val := xv, born := cl }) (cl' := cl + 1) hb hg hh (by simp [hms])
    simp only [execOp, ho]
    refine ⟨c, _, .skip, ?_, q1, q2, rfl, .inr ⟨rfl, rfl⟩⟩
    rw [hmv, ARel.toVal (hρ k) hkv, ARel.toVal (hρ x) hxv]
    have hfk : (Instr.findKey kt kv ms.toList).run P w = .ok none w := by
      simp only [Instr.findKey, Sem.run_bind, run_underlying hkd, Result.andThen]
      rw [findNow_same ms.toList (entriesOf es) 0 (by rw [entries_same]; exact hms), hfn]
      rfl
    simp only [Instr.mapUpdate, Sem.run_bind, run_underlying ht, Result.andThen, run_getObj_m hh, semPure_run _ hck w, hfk, run_setObj_m _ hh, Sem.run_pure]
  · 
    rename_i t m k ho
    split at e
    case h_2 => cases e
    rename_i i kv hm hkv
    split at e
    case h_2 => cases e
    rename_i es kt et hb ht
    split at e
    case h_2 => cases e
    rename_i _ kd hck hkd
    have hmr := hρ m
    rw [hm] at hmr
    simp only [ARel] at hmr
    obtain ⟨g, hg, hmv⟩ := hmr
    obtain ⟨ms, cl, hh, hms⟩ := hW.box i _ g hb hg
    have hem : ms.isEmpty = es.isEmpty := by
      rw [← hms]
      cases ms with
      | mk l => cases l <;> rfl
    have hfs := findNow_same (kd := kd) (k := kv) ms.toList (entriesOf es) 0 (by rw [entries_same]; exact hms)
    simp only [execOp, ho]
    split at e
    · rename_i j v hfn
      cases e
      refine Stepped.quiet hW ⟨v, ?_, ofVal_rel c v⟩
      have hfk : (Instr.findKey kt kv ms.toList).run P w = .ok (some (j, v)) w := by
        simp only [Instr.findKey, Sem.run_bind, run_underlying hkd, Result.andThen]
        rw [hfs, hfn]
        rfl
      rw [hmv, ARel.toVal (hρ k) hkv]
      simp only [Instr.lookup, Sem.run_bind, run_underlying ht, Result.andThen, run_getObj_m hh, hem, semPure_run _ hck w, hfk, Sem.run_pure, Bool.false_eq_true, if_false]
    · rename_i hfn
      split at e
      case h_2 => cases e
      rename_i z hz
      cases e
      obtain ⟨zv, z1, z2⟩ := zeroOf_rel c hz
      refine Stepped.quiet hW ⟨zv, ?_, z2⟩
      have hfk : (Instr.findKey kt kv ms.toList).run P w = .ok none w := by
        simp only [Instr.findKey, Sem.run_bind, run_underlying hkd, Result.andThen]
        rw [hfs, hfn]
        rfl
      rw [hmv, ARel.toVal (hρ k) hkv]
      simp only [Instr.lookup, Sem.run_bind, run_underlying ht, Result.andThen, run_getObj_m hh, hem, semPure_run _ hck w, hfk, z1 w, Sem.run_pure, Bool.false_eq_true, if_false]
    · cases e
  · 
    rename_i src dst x ho
    split at e
    case h_3 => cases e
    case h_2 =>
      rename_i el i z off n hs hd hx
      split at e
      case isFalse => cases e
      rename_i hc
      obtain ⟨hby, rfl⟩ := hc
      split at e
      case h_2 => cases e
      rename_i z' es hb
      split at e
      case isFalse => cases e
      rename_i hz
      subst hz
      split at e
      case h_2 => cases e
      rename_i b hrb
      cases e
      have hxr := hρ x
      rw [hx] at hxr
      simp only [ARel] at hxr
      obtain ⟨g, cap, hg, hnc, hu⟩ := hxr
      obtain ⟨cs, et, hh, hrow⟩ := hW.box i _ g hb hg
      unfold partBytes at hrb
      split at hrb
      case isFalse => cases hrb
      rename_i hlen
      obtain ⟨t1, t2⟩ := toBytes_get hrb
      simp only [execOp, ho]
      refine Stepped.quiet hW ⟨.string b, ?_, by simp [ARel, DRel, Value.oneCell']⟩
      rw [hu]
      have hsz : n = b.size := by rw [List.length_take, List.length_drop] at t1; omega
      subst hsz
      have := run_convert_bytes_arg (P := P) w src el hs (isByte_iff hby) g (off * 1) b.size cap (b.data.toList.map fun x => (x.toNat : Int)) (by rw [List.length_map, Array.length_toList]; rfl) (fun i hi => by
        have hb' : b[i]? = some b[i] := getElem?_pos b i hi
        have h7 := t2 i _ hb'
        rw [List.getElem?_take_of_lt hi, List.getElem?_drop] at h7
        obtain ⟨u, r1, r2, r3⟩ := hrow (off + i) _ h7
        simp only [DRel] at r1
        obtain ⟨rfl, _⟩ := r1
        have := r3 0 (.int .u8 (b[i]).toNat) rfl
        have hl : i < b.data.toList.length := by rw [Array.length_toList]; exact hi
        rw [List.getD_eq_getElem?_getD, List.getElem?_map, List.getElem?_eq_getElem hl]
        simp only [Nat.mul_one, Nat.add_zero] at this ⊢
        simp only [World.cell?, hh, Option.bind_none, Option.getD_none]
        exact this) dst hd
      rw [this, strOfNums_bytes]
    rename_i el i z n hs hd hx
    split at e
    case isFalse => cases e
    rename_i hc
    obtain ⟨hby, rfl⟩ := hc
    split at e
    case h_2 => cases e
    rename_i z' es hb
    split at e
    case isFalse => cases e
    rename_i hz
    subst hz
    split at e
    case h_2 => cases e
    rename_i b hrb
    cases e
    have hxr := hρ x
    rw [hx] at hxr
    simp only [ARel] at hxr
    obtain ⟨g, cap, hg, hnc, _, hu⟩ := hxr
    obtain ⟨cs, et, hh, hrow⟩ := hW.box i _ g hb hg
    unfold rowBytes at hrb
    split at hrb
    case isFalse => cases hrb
    rename_i hlen
    obtain ⟨t1, t2⟩ := toBytes_get hrb
    simp only [execOp, ho]
    refine Stepped.quiet hW ⟨.string b, ?_, by simp [ARel, DRel, Value.oneCell']⟩
    rw [hu]
    have hsz : n = b.size := by omega
    subst hsz
    have := run_convert_bytes_arg (P := P) w src el hs (isByte_iff hby) g 0 b.size cap (b.data.toList.map fun x => (x.toNat : Int)) (by rw [List.length_map, Array.length_toList]; rfl) (fun i hi => by
      have hb' : b[i]? = some b[i] := getElem?_pos b i hi
      obtain ⟨u, r1, r2, r3⟩ := hrow i _ (t2 i _ hb')
      simp only [DRel] at r1
      obtain ⟨rfl, _⟩ := r1
      have := r3 0 (.int .u8 (b[i]).toNat) rfl
      have hl : i < b.data.toList.length := by rw [Array.length_toList]; exact hi
      rw [List.getD_eq_getElem?_getD, List.getElem?_map, List.getElem?_eq_getElem hl]
      simp only [Nat.mul_one, Nat.add_zero] at this
      simp only [World.cell?, hh, Nat.zero_add, Option.bind_none, Option.getD_none]
      exact this) dst hd
    rw [this, strOfNums_bytes]
  · 
    rename_i cl ho
    split at e
    case h_2 => cases e
    rename_i t x hcl h0 h1
    split at e
    case h_2 => cases e
    rename_i el i off n ht hx
    split at e
    case h_2 => cases e
    rename_i ty cs z hb hz
    split at e
    case isFalse => cases e
    rename_i hc
    cases e
    obtain ⟨hzl, hn, hcp, hfit, hinf⟩ := hc
    obtain ⟨inf, hinf⟩ := Option.isSome_iff_exists.1 hinf
    have hxr := hρ x
    rw [hx] at hxr
    simp only [ARel] at hxr
    obtain ⟨k, cap, hk, hcap, hxu⟩ := hxr
    cases hzz : zeroOf P el with
    | none => simp [hzz] at hz
    | some zx =>
      simp [hzz] at hz
      obtain ⟨zv, hzr, hzrel⟩ := zeroOf_rel c hzz
      have hzc := ARel.cells hzrel hz
      obtain ⟨us, rest, el', hh, hcs, hty⟩ := hW.box i _ k hb hk
      have hlz : zv.cells.size = P.cellsOf el := by have := ACells.len hzc; rw [← hzl, ← this]; simp
      have hpos : 0 < zv.cells.size := by rw [hlz]; exact hcp
      have hzt := zeroCells_times zv.cells n hpos
      have hws := hzc.times n
      have hlw := ACells.len hws
      have hlc := ACells.len hcs
      have htl : (timesL z n).length = n * P.cellsOf el := by rw [times_len, hzl]
      have hrun := run_storeCells_splice (P := P) k off el' (timesL zv.cells.toList n) 0 (us ++ rest).toArray w hh (by rw [hlw, htl]; simp; omega) (ACells.ones hws)
      rw [Nat.add_zero] at hrun
      have hsp : spliceV (us ++ rest) off (timesL zv.cells.toList n) = spliceV us off (timesL zv.cells.toList n) ++ rest := spliceV_append _ _ _ _ (by rw [hlw, htl]; omega)
      have hrow := setRow_heap w k (us ++ rest).toArray (spliceV us off (timesL zv.cells.toList n) ++ rest).toArray el' (0, 0) hh
      simp only [execOp, ho]
      refine ⟨c, w.setRow k (spliceV us off (timesL zv.cells.toList n) ++ rest).toArray, .value (.tuple #[]), ?_, hW.setBox hk (hW.live hb (by simp) hk) (by simp) (fun j hj => setRow_other w k j _ hj) (.cells ty (splice cs off (timesL z n))) ⟨_, rest, el', hrow, ACells.splice off hws hcs, hty⟩ (sized_set hh hrow (by simp [length_spliceV])), ?_, rfl, .inl ⟨_, rfl, by simp only [ARel]; exact ⟨[], rfl, rfl⟩⟩⟩
      · have hax : cl.args.map a.eval = (cl.args.map a.eval) := rfl
        have hn0 : ¬ n = 0 := by omega
        have ha0 : (cl.args.map a.eval)[0]? = some (.slice (some ⟨k, off, none⟩) n cap) := by simp [h1, hxu]
        simp only [resolve, hcl, Sem.run_bind, Sem.run_pure, Result.andThen, invoke, builtin]
        have hclr : (Builtin.clear_ cl.argTypes o.type (cl.args.map a.eval)).run P w = .ok (.tuple #[]) (w.setRow k (spliceV us off (timesL zv.cells.toList n) ++ rest).toArray) := by
          obtain ⟨n', rfl⟩ : ∃ n', n = n' + 1 := ⟨n - 1, by omega⟩
          unfold Builtin.clear_
          simp only [h0, ha0, Sem.run_bind, run_underlying ht, Result.andThen, hzr w, hzt]
          rw [hrun]
          simp only [Sem.run_pure, hsp]
        rw [hclr]
      · refine ⟨Cx.le_refl c, rfl, rfl, rfl, by simp, fun j hj hn => setRow_other w k j _ (fun e => hn (by subst e; exact .inl ⟨List.mem_of_getElem? hk, hW.live hb (by simp) hk⟩)), fun _ h => .inl h, fun _ _ h0 h1 => (h1 h0).elim, rfl⟩
  · cases e
end Ev
