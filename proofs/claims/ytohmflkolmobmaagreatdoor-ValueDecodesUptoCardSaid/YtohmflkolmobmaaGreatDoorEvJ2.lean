/- What functions of the program compute, as plain Lean functions, each with its proof by a proved reader; plain laws about them (EvJ2). -/
import Derived.Test.YtohmflkolmobmaaGreatDoorEvDl
set_option linter.unusedSimpArgs false
set_option linter.unusedVariables false
namespace Ev
open Go Go.RowKit
variable {σ : Type} {P : Program} {glob : Nat → Option (List D)}
structure Pair2 (all : List Oper) (i j : Nat) (a b : Oper) : Prop where
  a1 : isAlloc a = true
  b1 : isAlloc b = true
  adj : j = i + 1
  apart : apartD all a b = true
  wait : ∀ (k : Nat) (o : Oper), j < k → all[k]? = some o → edgeT all 4 i o = true
theorem isAlloc_of {o : Oper} (h : isAlloc o = true) : o.guard = none ∧ (∃ t, o.dst = some t) ∧ ∃ T, o.op = .alloc T := by
  simp only [isAlloc, Bool.and_eq_true, Option.isNone_iff_eq_none] at h
  refine ⟨h.1.1, Option.isSome_iff_exists.1 h.1.2, ?_⟩
  have := h.2
  split at this
  · rename_i T ho; exact ⟨T, ho⟩
  · cases this
theorem freeOf2_pair {env : List AV} {all : List Oper} {i : Nat} {la : List Oper} {a : Oper} : ∀ {r : List Oper} {k : Nat}, (∀ j, r[j]? = all[k + j]?) → freeOf2 P env all i la a r = true → la = all.drop i → i < k →
    ∀ (j : Nat) (b : Oper), k ≤ j → all[j]? = some b → PairOk P env all i j a b ∨ Pair2 all i j a b
  | [], k, hr, _, _, _, j, b, hj, hb => by
    have := hr (j - k)
    rw [show k + (j - k) = j by omega, hb] at this
    simp at this
  | b0 :: r, k, hr, h, hla, hik, j, b, hj, hb => by
    simp only [freeOf2, Bool.and_eq_true, Bool.or_eq_true] at h
    obtain ⟨h1, h2⟩ := h
    have h0 : all[k]? = some b0 := by simpa using (hr 0).symm
    by_cases hjk : j = k
    · subst hjk
      rw [h0] at hb; cases hb
      have hdrop : b0 :: r = all.drop j := by
        apply List.ext_getElem?
        intro m
        rw [List.getElem?_drop]; exact hr m
      rcases h1 with (⟨q1, q2⟩ | q) | q
      · refine .inl (.inr ⟨q1, ?_⟩)
        rcases q2 with q2 | q2
        · exact .inl (by simpa using q2)
        · refine .inr ?_
          rw [← hla, ← hdrop]; exact q2
      · exact .inl (.inl q)
      · simp only [two, Bool.and_eq_true] at q
        obtain ⟨⟨⟨⟨q1, q2⟩, q3⟩, q4⟩, q5⟩ := q
        have q3 := Nat.eq_of_beq_eq_true q3
        have hjl : j < all.length := (List.getElem?_eq_some_iff.1 h0).1
        have e1 : r.length + 1 = all.length - j := by
          have := congrArg List.length hdrop
          simpa using this
        have e2 : la.length = all.length - i := by rw [hla]; simp
        refine .inr ⟨q1, q2, by omega, q4, fun m o hm ho => ?_⟩
        have hmr : r[m - (j + 1)]? = some o := by
          have := hr (m - (j + 1) + 1)
          rw [List.getElem?_cons_succ, show j + (m - (j + 1) + 1) = m by omega] at this
          rw [this]; exact ho
        exact List.all_eq_true.1 q5 o (List.mem_of_getElem? hmr)
    · exact freeOf2_pair (k := k + 1) (fun m => by have := hr (m + 1); simpa [Nat.add_assoc, Nat.add_comm 1 m] using this) h2 hla (by omega) j b (by omega) hb
theorem draw2_facts {env : List AV} {all : List Oper} : ∀ {r : List Oper} {k : Nat}, (∀ j, r[j]? = all[k + j]?) → draw2 P env all k r = true →
    (∀ (i : Nat) (a : Oper), k ≤ i → all[i]? = some a → ∀ e ∈ a.after, Region.binds .any e = true → e.on < i) ∧ ∀ (i j : Nat) (a b : Oper), k ≤ i → i < j → all[i]? = some a → all[j]? = some b → PairOk P env all i j a b ∨ Pair2 all i j a b
  | [], k, hr, _ => by
    have hno : ∀ i a, k ≤ i → all[i]? ≠ some a := fun i a hi e => by
      have := hr (i - k)
      rw [show k + (i - k) = i by omega, e] at this
      simp at this
    exact ⟨fun i a hi ha => (hno i a hi ha).elim, fun i j a b hi _ ha => (hno i a hi ha).elim⟩
  | a0 :: r, k, hr, h => by
    simp only [draw2, Bool.and_eq_true] at h
    obtain ⟨⟨h1, h2⟩, h3⟩ := h
    have h0 : all[k]? = some a0 := by simpa using (hr 0).symm
    have hr' : ∀ j, r[j]? = all[k + 1 + j]? := fun m => by have := hr (m + 1); simpa [Nat.add_assoc, Nat.add_comm 1 m] using this
    obtain ⟨q1, q2⟩ := draw2_facts hr' h3
    have hdrop : a0 :: r = all.drop k := by
      apply List.ext_getElem?
      intro m
      rw [List.getElem?_drop]; exact hr m
    refine ⟨fun i a hi ha e he hbe => ?_, fun i j a b hi hij ha hb => ?_⟩
    · by_cases hik : i = k
      · subst hik
        rw [h0] at ha; cases ha
        have := List.all_eq_true.1 h1 e (by simpa using he)
        simpa [hbe] using this
      · exact q1 i a (by omega) ha e he hbe
    · by_cases hik : i = k
      · subst hik
        rw [h0] at ha; cases ha
        exact freeOf2_pair hr' h2 hdrop (by omega) j b (by omega) hb
      · exact q2 i j a b (by omega) hij ha hb
theorem runI_env {C : Cfg} {H : Hd} {Y : Yd σ} {all : List Oper} {t2 q : Nat} {o : Oper} (ho : all[q]? = some o) (hd : o.dst = some t2) (hlo : t2 ∉ looks all o) (v : AV) {l2 : List Nat} : ∀ (l1 : List Nat) (st stf : St σ), (∀ j ∈ l1, ∀ o', all[j]? = some o' → t2 ∉ looks all o' ∧ o'.dst ≠ some t2) → runI C H Y all (l1 ++ q :: l2) st = some stf →
    runI C H Y all (l1 ++ q :: l2) { st with env := st.env.set t2 v } = some stf
  | [], st, stf, _, h => by
    obtain ⟨o', st1, ho', h1, h2⟩ := runI_cons h
    rw [ho] at ho'; cases ho'
    obtain ⟨va, ea, sa, ba, ka, ga⟩ := step1_does h1
    have hs : ∀ t ∈ looks all o, (st.env.set t2 v).getD t .undef = st.env.getD t .undef := fun t ht => getD_set_ne (fun e => hlo (e ▸ ht))
    have := ga { st with env := st.env.set t2 v } hs (fun _ _ _ _ h => h) (fun _ => rfl) (fun _ => rfl) (fun _ => ⟨rfl, rfl⟩)
    refine runI_of ho (this.trans ?_) h2
    simp only [Option.some.injEq, Prod.mk.injEq, true_and]
    obtain ⟨e1, b1, k1, s1⟩ := st1
    simp only at ea sa ba ka ⊢
    subst sa
    congr 1
    · rw [ea, hd]; simp [putA, List.set_set]
    · split
      · rfl
      · rename_i hw; exact (ba hw).symm
    · split
      · rfl
      · rename_i hw; exact (ka (by simpa using hw)).symm
  | j :: l1, st, stf, hl, h => by
    obtain ⟨o', st1, ho', h1, h2⟩ := runI_cons h
    obtain ⟨g1, g2⟩ := hl j (by simp) o' ho'
    obtain ⟨va, ea, sa, ba, ka, ga⟩ := step1_does h1
    have hs : ∀ t ∈ looks all o', (st.env.set t2 v).getD t .undef = st.env.getD t .undef := fun t ht => getD_set_ne (fun e => g1 (e ▸ ht))
    have := ga { st with env := st.env.set t2 v } hs (fun _ _ _ _ h => h) (fun _ => rfl) (fun _ => rfl) (fun _ => ⟨rfl, rfl⟩)
    have ih := runI_env ho hd hlo v l1 st1 stf (fun k hk => hl k (List.mem_cons_of_mem _ hk)) h2
    refine runI_of ho' (this.trans ?_) ih
    simp only [Option.some.injEq, Prod.mk.injEq, true_and]
    obtain ⟨e1, b1, k1, s1⟩ := st1
    simp only at ea sa ba ka ⊢
    subst sa
    congr 1
    · rw [ea]
      cases hdd : o'.dst with
      | none => rfl
      | some u =>
        simp only [putA]
        rw [List.set_comm _ _ (fun e => g2 (by rw [hdd, e]))]
    · split
      · rfl
      · rename_i hw; exact (ba hw).symm
    · split
      · rfl
      · rename_i hw; exact (ka (by simpa using hw)).symm
theorem runI_at {C : Cfg} {H : Hd} {Y : Yd σ} {all : List Oper} {q : Nat} {l2 : List Nat} : ∀ (l1 : List Nat) {st stf : St σ}, runI C H Y all (l1 ++ q :: l2) st = some stf → ∃ o s1 s2, all[q]? = some o ∧ step1 C H Y true all o s1 = some (.normal, s2)
  | [], st, stf, h => by
    obtain ⟨o, st1, ho, h1, _⟩ := runI_cons h
    exact ⟨o, st, st1, ho, h1⟩
  | j :: l1, st, stf, h => by
    obtain ⟨_, _, _, _, h2⟩ := runI_cons h
    exact runI_at l1 h2
theorem ARels.set_at {c : Cx} : ∀ {xs : List AV} {us : List Value} {t : Nat} {x : AV}, ARels c xs us → (∀ u, us[t]? = some u → ARel c x u) → ARels c (xs.set t x) us
  | [], us, _, _, h, _ => h
  | y :: xs, us, 0, x, h, hx => by
    obtain ⟨u, us', rfl, _, h2⟩ := h
    exact ⟨u, us', rfl, hx u rfl, h2⟩
  | y :: xs, us, t + 1, x, h, hx => by
    obtain ⟨u, us', rfl, h1, h2⟩ := h
    exact ⟨u, us', rfl, h1, ARels.set_at h2 (fun v hv => hx v (by simpa using hv))⟩
theorem alloc_does {C : Cfg} {H : Hd} {Y : Yd σ} {all : List Oper} {o : Oper} {T : TypeId} (hg : o.guard = none) (ho : o.op = .alloc T) {st st' : St σ} (e : step1 C H Y true all o st = some (.normal, st')) :
    ∃ cs, (zeroOf C.P T).bind AV.cells = some cs ∧ st' = { env := putA st.env o.dst (.ptr st.boxes.length 0), boxes := st.boxes ++ [.cells (some T) cs], toks := st.toks, s := st.s } := by
  unfold step1 at e
  have hw : wantedA all st.env o = some true := by unfold wantedA; rw [hg]
  rw [hw] at e
  simp only [evOp, ho, globLoad, plainOf, skipPlain, cond_false, evPlain, evAlloc] at e
  split at e
  · rename_i v b t hst
    split at hst
    · rename_i z hz
      cases hst
      cases e
      exact ⟨z, hz, rfl⟩
    · cases hst
  · cases e
theorem alloc_wp {o : Oper} {T : TypeId} (ho : o.op = .alloc T) {cs : List AV} (hz : (zeroOf P T).bind AV.cells = some cs) : ∃ z : Value, (∀ c : Cx, ACells c cs z.cells.toList) ∧
    ∀ (rd : Option Nat) (a : Act) (w : World) (K : Act → World → Prop) (Q : Exit → Act → World → Prop), K (a.put o.dst (.pointer (some ⟨w.heap.size, 0, none⟩))) (w.alloc (.cells z.cells T)) → o.wpIn (FW rd) 0 P a w K Q := by
  cases hzz : zeroOf P T with
  | none => simp [hzz] at hz
  | some x =>
    simp [hzz] at hz
    obtain ⟨z, hzr, _⟩ := zeroOf_rel (⟨[], [], [], ⟨fun _ _ => none, ⟨fun _ => none, fun _ => false⟩, fun _ => none⟩, none, []⟩ : Cx) hzz
    refine ⟨z, fun c => ?_, fun rd a w K Q hK => ?_⟩
    · obtain ⟨z', hzr', hrel⟩ := zeroOf_rel c hzz
      have : z' = z := by
        have h1 := hzr' default
        rw [hzr default] at h1
        cases h1; rfl
      rw [← this]
      exact ARel.cells hrel hz
    · refine ⟨fun _ _ => trivial, ?_⟩
      rw [Oper.semAt_eq _ _ _ (fun d hd => by rw [ho] at hd; cases hd)]
      have hrun : (execOp a.eval o).run P w = .ok (.value (.pointer (some ⟨w.heap.size, 0, none⟩))) (w.alloc (.cells z.cells T)) := by
        simp [execOp, ho, Instr.alloc, Sem.run_bind, hzr w, Result.andThen, newVar, newRow]
      rw [hrun, Oper.uponIn_value]
      exact hK
theorem RO.holds.alloc {ro : RO} {w : World} (h : ro.holds w) (o : Obj) : ro.holds (w.alloc o) := ⟨fun b o' v e => by
  have h1 := h b o' v e
  have hb := World.block_lt_of_cell? w ⟨b, o', none⟩ h1
  simp only [World.cell?, heap_alloc_ne w o b hb] at h1 ⊢
  exact h1, fun b n e => (h.whole b n e).same (heap_alloc_ne w o b (h.whole b n e).lt), h.known, fun b n e => (h.big b n e).same (heap_alloc_ne w o b (h.big b n e).lt)⟩
theorem Act.put_other {a : Act} {dst : Option Tmp} {u : Value} {t : Nat} (h : dst ≠ some t) : (a.put dst u).tmps[t]? = a.tmps[t]? := by
  cases dst with
  | none => rfl
  | some d =>
    simp only [Act.put]
    rw [Array.getElem?_setIfInBounds_ne (fun e => h (by rw [e]))]
theorem apart_facts {all : List Oper} {a b : Oper} {t : Nat} (h : apartD all a b = true) (hb : b.dst = some t) : t ∉ looks all a ∧ a.dst ≠ some t := by
  simp only [apartD, Bool.and_eq_true, hb] at h
  refine ⟨notIn h.2, fun e => ?_⟩
  simp only [e, Bool.and_eq_true] at h
  have := h.1.2
  simp at this
variable {L : Held σ} {X0 : Nat → Prop} {c0 : Cx} {w0 : World}
def Ahead (L : Held σ) (X0 : Nat → Prop) (c0 : Cx) (w0 : World) (st : St σ) (a : Act) (w : World) (t2 k2 : Nat) (zs : Array Value) (T : TypeId) : Prop :=
  ∃ c X, Good L c st.boxes st.s X w ∧ EvoX X0 c0 w0 X c w ∧ c.toks = st.toks ∧ ARels c st.env a.tmps.toList ∧ k2 < w.heap.size ∧ w0.heap.size ≤ k2 ∧ ¬ c.has k2 ∧ ¬ X k2 ∧ (∀ o, c.ro k2 o = none) ∧ w.heap[k2]? = some (.cells zs T (0, 0)) ∧ ∀ u, a.tmps[t2]? = some u → u = .pointer (some ⟨k2, 0, none⟩)
theorem Ahead.step {st st' : St σ} {w : World} {t2 k2 : Nat} {zs : Array Value} {T : TypeId} {c c' : Cx} {X X' : Nat → Prop} {w' : World} {a' : Act}
    (hG : Good L c st.boxes st.s X w) (hE : EvoX X0 c0 w0 X c w) (h1 : k2 < w.heap.size) (h2 : w0.heap.size ≤ k2) (h3 : ¬ c.has k2) (h4 : ¬ X k2) (h5 : ∀ o, c.ro k2 o = none) (h6 : w.heap[k2]? = some (.cells zs T (0, 0)))
    (hG' : Good L c' st'.boxes st'.s X' w') (hE' : EvoX X c w X' c' w') (ht' : c'.toks = st'.toks) (hA' : ARels c' st'.env a'.tmps.toList) (h7 : ∀ u, a'.tmps[t2]? = some u → u = .pointer (some ⟨k2, 0, none⟩)) : Ahead L X0 c0 w0 st' a' w' t2 k2 zs T := by
  refine ⟨c', X', hG', hE.trans hE', ht', hA', Nat.lt_of_lt_of_le h1 hE'.size, h2, fun q => ?_, fun q => ?_, fun o => ?_, ?_, h7⟩
  · have hno : ¬ c'.owns k2 := fun q => by
      rcases hE'.new k2 q with q | q
      · exact h3 q.has
      · omega
    rcases q with q | q
    · by_cases hd : k2 ∈ c'.dead
      · rw [hE'.dead] at hd
        obtain ⟨i, q1, _⟩ := hG.ok.dead k2 hd
        exact h3 (.inl (List.mem_of_getElem? q1))
      · exact hno (.inl ⟨q, hd⟩)
    · exact hno (.inr q)
  · rcases hE'.newX k2 q with q | q
    · exact h4 q
    · omega
  · cases hq : c'.ro k2 o with
    | none => rfl
    | some v =>
      exfalso
      rcases hE'.ronew k2 o (h5 o) (by rw [hq]; simp) with q | q | q
      · exact h3 q.has
      · exact h4 q
      · omega
  · rw [hE'.keep k2 h1 (fun q => h3 q.has) h4]; exact h6
theorem any2_sound {C : Cfg} (hC : C.P = P ∧ C.glob = glob ∧ OddSound P glob C.odd) {H : Hd} (hH : HSound P glob H) {Y : Yd σ} (hY : Env P glob L Y c0) {ops : Array Oper} {rd : Option Nat} {Q : Exit → Act → World → Prop} {ds : List Deferred} {stf : St σ}
    (hok : draw2 C.P stf.env ops.toList 0 ops.toList = true) (hQ : ∀ (a' : Act) (w' : World), a'.defers = ds → Now L X0 c0 w0 stf a'.tmps w' → Q .normal a' w') :
    ∀ (n : Nat),
      (∀ (listed : Array Bool) (a : Act) (w : World) (st : St σ), listed.size = ops.size → Shut ops listed → (left ops.size listed).length = n → runI C H Y ops.toList (left ops.size listed) st = some stf → a.defers = ds → Now L X0 c0 w0 st a.tmps w →
        wpAnyIn (FW rd) 0 P .any ops Q n listed a w) ∧
      (∀ (listed : Array Bool) (a : Act) (w : World) (st : St σ) (p : Nat) (op1 op2 : Oper) (A S : List Nat) (t2 k2 : Nat) (z : Value) (T : TypeId) (cs : List AV), listed.size = ops.size → Shut ops listed → (left ops.size listed).length = n → left ops.size listed = A ++ p :: S → ops.toList[p]? = some op1 → ops.toList[p + 1]? = some op2 → Pair2 ops.toList p (p + 1) op1 op2 → op2.dst = some t2 → op2.op = .alloc T → (zeroOf P T).bind AV.cells = some cs → (∀ c : Cx, ACells c cs z.cells.toList) → (∀ j ∈ S, p + 1 < j) →
        runI C H Y ops.toList (A ++ p :: (p + 1) :: S) st = some stf → a.defers = ds → Ahead L X0 c0 w0 st a w t2 k2 z.cells T →
        wpAnyIn (FW rd) 0 P .any ops Q n listed a w) := by
  obtain ⟨hback, hpairs⟩ := draw2_facts (k := 0) (fun j => by simp) hok
  have hmem : ∀ {listed : Array Bool} {i : Nat}, i ∈ left ops.size listed ↔ i < ops.size ∧ listed.getD i true = false := fun {listed i} => by
    simp [left]
  have hclash : ∀ {listed : Array Bool} {j : Nat}, listed.size = ops.size → j ∈ left ops.size listed → listed.getD j false = true → False := fun {listed j} hs hj h1 => by
    obtain ⟨hjl, h2⟩ := hmem.1 hj
    rw [← hs] at hjl
    rw [Array.getD_eq_getD_getElem?, Array.getElem?_eq_getElem hjl] at h1 h2
    simp at h1 h2
    rw [h1] at h2; cases h2
  have hsort : ∀ listed : Array Bool, (left ops.size listed).Pairwise (· < ·) := fun listed => List.Pairwise.filter _ List.pairwise_lt_range
  intro n
  induction n with
  | zero =>
    refine ⟨fun listed a w st hs hsh hn hr hd hN => ?_, fun listed a w st p op1 op2 A S t2 k2 z T cs hs hsh hn hlf => ?_⟩
    · have h0 := List.eq_nil_of_length_eq_zero hn
      rw [h0] at hr
      cases hr
      refine ⟨List.eq_nil_iff_forall_not_mem.2 (fun i hi => ?_), hQ a w hd hN⟩
      obtain ⟨o, ho, hl, _⟩ := ready_mem hi
      have : i ∈ left ops.size listed := hmem.2 ⟨(Array.getElem?_eq_some_iff.1 ho).1, hl⟩
      rw [h0] at this; cases this
    · rw [hlf] at hn; simp at hn
  | succ n ih =>
    obtain ⟨ih1, ih2⟩ := ih
    refine ⟨fun listed a w st hs hsh hn hr hd hN => ⟨fun h0 => ?_, fun i hi => ?_⟩, fun listed a w st p op1 op2 A S t2 k2 z T cs hs hsh hn hlf hp1 hp2 hP hd2 ho2 hz hzs hS hr hd hAh => ⟨fun h0 => ?_, fun i hi => ?_⟩⟩
    · exfalso
      cases hlf' : left ops.size listed with
      | nil => rw [hlf'] at hn; cases hn
      | cons i r =>
        have := ready_some hs (fun i a ha e he hb => hback i a (Nat.zero_le _) ha e he hb) hlf'
        rw [h0] at this; cases this
    · 
      obtain ⟨o, ho, hl, hed⟩ := ready_mem hi
      have hil : i < ops.size := (Array.getElem?_eq_some_iff.1 ho).1
      have hin : i ∈ left ops.size listed := hmem.2 ⟨hil, hl⟩
      have hsorted := hsort listed
      obtain ⟨A, B, hAB⟩ := List.append_of_mem hin
      have hsAB := hsorted
      rw [hAB, List.pairwise_append] at hsAB
      obtain ⟨hA, hiB, hAB'⟩ := hsAB
      have hAi : ∀ j ∈ A, j < i := fun j hj => hAB' j hj i (by simp)
      have hBi : ∀ j ∈ B, i < j := fun j hj => (List.pairwise_cons.1 hiB).1 j hj
      rw [hAB] at hr
      have hto : ops.toList[i]? = some o := by simpa using ho
      have hne : ∀ j ∈ A, edgeT ops.toList 4 j o = false := fun j hj => by
        cases hg : edgeT ops.toList 4 j o with
        | false => rfl
        | true => exact (hclash hs (by rw [hAB]; simp [hj]) (hsh.all 4 o hed j hg)).elim
      have hleft := left_set hs hAB
      by_cases h2 : ∃ j ∈ A, ∃ b, ops.toList[j]? = some b ∧ Pair2 ops.toList j i b o
      · 
        obtain ⟨j, hj, b, hb, hP⟩ := h2
        have hij := hP.adj
        subst hij
        obtain ⟨A0, A1, hA01⟩ := List.append_of_mem hj
        have hA1 : A1 = [] := by
          cases A1 with
          | nil => rfl
          | cons m A1 =>
            have hmA : m ∈ A := by rw [hA01]; simp
            have e1 := hAi m hmA
            rw [hA01, List.pairwise_append] at hA
            have e2 := (List.pairwise_cons.1 hA.2.1).1 m (by simp)
            omega
        subst hA1
        obtain ⟨hg, ⟨t2, hd2⟩, T, hoT⟩ := isAlloc_of hP.b1
        have hlo : t2 ∉ looks ops.toList o := by simp [looks, hoT, Op.operands, hg]
        have hbefore : ∀ m ∈ A, ∀ o', ops.toList[m]? = some o' → t2 ∉ looks ops.toList o' ∧ o'.dst ≠ some t2 := fun m hm o' ho' => by
          by_cases hmj : m = j
          · subst hmj
            rw [hb] at ho'; cases ho'
            exact apart_facts hP.apart hd2
          · rcases hpairs m (j + 1) o' o (Nat.zero_le _) (hAi m hm) ho' hto with q | q
            · rcases q with q | ⟨q, _⟩
              · rw [hne m hm] at q; cases q
              · exact apart_facts q hd2
            · have := q.adj; omega
        have hr2 := runI_env hto hd2 hlo .undef A st stf hbefore hr
        obtain ⟨o', s1, s2, ho', hst⟩ := runI_at A hr
        rw [hto] at ho'; cases ho'
        obtain ⟨cs, hz, _⟩ := alloc_does hg hoT hst
        rw [hC.1] at hz
        obtain ⟨z, hzs, hwp⟩ := alloc_wp hoT hz
        unfold wpOpIn
        simp only [ho]
        have hw : Region.wanted o (yielded ops a.tmps) = true := by unfold Region.wanted; rw [hg]
        rw [if_pos hw]
        refine hwp _ _ _ _ _ ?_
        obtain ⟨c, X, hG, hE, ht, hAr⟩ := hN
        have hlft : Left (fun _ => False) c.ro w (fun _ => False) c.ro (w.alloc (.cells z.cells T)) :=
          ⟨RO.le_refl _, hG.ok.ro.alloc _, rfl, rfl, rfl, by simp, fun k hk _ => heap_alloc_ne w _ k hk, fun _ h => h.elim, fun _ _ h0 h1 => (h1 h0).elim⟩
        obtain ⟨g1, g2⟩ := hG.pure hlft
        refine ih2 _ _ _ { st with env := st.env.set t2 .undef } j b o A0 B t2 w.heap.size z T cs (by simp [hs]) (hsh.next ho hed) ?_ (by rw [hleft, hA01]; simp) hb hto hP hd2 hoT hz hzs hBi (by rw [hA01] at hr2; simpa using hr2) (by rw [put_defers]; exact hd) ?_
        · rw [hleft]
          have := hn
          rw [hAB] at this
          simp at this ⊢
          omega
        · refine ⟨c, X, g1, hE.trans g2, ht, ?_, by simp, hE.size, fun q => ?_, fun q => ?_, fun o' => ro_new hG.ok _ _ (Nat.le_refl _), heap_alloc w _, fun u hu => ?_⟩
          · rw [hd2]
            simpa [Act.put] using ARels.set hAr t2 (x := .undef) (u := .pointer (some ⟨w.heap.size, 0, none⟩)) (by simp [ARel])
          · have := hG.ok.lt _ q; omega
          · have := L.lt hG.held _ q; omega
          · rw [hd2] at hu
            simp only [Act.put] at hu
            rw [Array.getElem?_setIfInBounds_self] at hu
            split at hu
            · cases hu; rfl
            · cases hu
      · 
        have hbub := bubble hto hBi hr hA hAi (fun j hj b hb => by
          refine ⟨?_, hne j hj⟩
          rcases hpairs j i b o (Nat.zero_le _) (hAi j hj) hb hto with q | q
          · exact q
          · exact (h2 ⟨j, hj, b, hb, q⟩).elim)
        obtain ⟨o', st1, ho', h1, h2'⟩ := runI_cons hbub
        rw [hto] at ho'; cases ho'
        unfold wpOpIn
        simp only [ho]
        refine step_sound hC hH (lend_sound hH) hY h1 hN (fun u w' hN' => ?_)
        refine ih1 _ _ _ st1 (by simp [hs]) (hsh.next ho hed) ?_ (by rw [hleft]; exact h2') (by rw [put_defers]; exact hd) hN'
        rw [hleft]
        have := hn
        rw [hAB] at this
        simp at this ⊢
        omega
    · exfalso
      cases hlf' : left ops.size listed with
      | nil => rw [hlf'] at hn; cases hn
      | cons i r =>
        have := ready_some hs (fun i a ha e he hb => hback i a (Nat.zero_le _) ha e he hb) hlf'
        rw [h0] at this; cases this
    · 
      obtain ⟨o, ho, hl, hed⟩ := ready_mem hi
      have hil : i < ops.size := (Array.getElem?_eq_some_iff.1 ho).1
      have hin : i ∈ left ops.size listed := hmem.2 ⟨hil, hl⟩
      have hto : ops.toList[i]? = some o := by simpa using ho
      have hsorted := hsort listed
      rw [hlf, List.pairwise_append] at hsorted
      obtain ⟨hAs, hpS, hAp⟩ := hsorted
      have hAlt : ∀ j ∈ A, j < p := fun j hj => hAp j hj p (by simp)
      have hpl : p ∈ left ops.size listed := by rw [hlf]; simp
      have hne : ∀ j ∈ A ++ p :: S, edgeT ops.toList 4 j o = false := fun j hj => by
        cases hg : edgeT ops.toList 4 j o with
        | false => rfl
        | true => exact (hclash hs (by rw [hlf]; exact hj) (hsh.all 4 o hed j hg)).elim
      have hp2l : listed.getD (p + 1) false = true := by
        have hlt : p + 1 < ops.size := by
          have := (List.getElem?_eq_some_iff.1 hp2).1
          simpa using this
        cases hq : listed.getD (p + 1) true with
        | true =>
          rw [Array.getD_eq_getD_getElem?, Array.getElem?_eq_getElem (by omega)] at hq ⊢
          simpa using hq
        | false =>
          have : p + 1 ∈ left ops.size listed := hmem.2 ⟨hlt, hq⟩
          rw [hlf] at this
          rcases List.mem_append.1 this with q | q
          · have := hAlt _ q; omega
          · rcases List.mem_cons.1 q with q | q
            · omega
            · have := hS _ q; omega
      have hop2 : ops[p + 1]? = some op2 := by simpa using hp2
      have hne2 : ∀ j ∈ A ++ p :: S, edgeT ops.toList 4 j op2 = false := fun j hj => by
        cases hg : edgeT ops.toList 4 j op2 with
        | false => rfl
        | true => exact (hclash hs (by rw [hlf]; exact hj) (hsh.all 4 op2 (fun k hk => hsh (p + 1) op2 hop2 hp2l k hk) j hg)).elim
      have hpa : ∀ j ∈ A, ∀ b, ops.toList[j]? = some b → apartD ops.toList b op2 = true := fun j hj b hb => by
        rcases hpairs j (p + 1) b op2 (Nat.zero_le _) (by have := hAlt j hj; omega) hb hp2 with q | q
        · rcases q with q | ⟨q, _⟩
          · rw [hne2 j (by simp [hj])] at q; cases q
          · exact q
        · have := q.adj; have := hAlt j hj; omega
      obtain ⟨c, X, hG, hE, ht, hAr, k1, k3, k4, k5, k6, k7, k8⟩ := hAh
      have hYc : Env P glob L Y c := hY.le hE.le
      rw [hlf] at hin
      rcases List.mem_append.1 hin with hin | hin
      · 
        obtain ⟨A1, A2, hA12⟩ := List.append_of_mem hin
        have hs12 := hAs
        rw [hA12, List.pairwise_append] at hs12
        obtain ⟨q1, q2, q3⟩ := hs12
        have hA1i : ∀ j ∈ A1, j < i := fun j hj => q3 j hj i (by simp)
        have hrest : ∀ j ∈ A2 ++ p :: (p + 1) :: S, i < j := fun j hj => by
          have hip := hAlt i hin
          rcases List.mem_append.1 hj with hj | hj
          · exact (List.pairwise_cons.1 q2).1 j hj
          · rcases List.mem_cons.1 hj with rfl | hj
            · exact hip
            · rcases List.mem_cons.1 hj with rfl | hj
              · omega
              · have := hS j hj; omega
        have hr' : runI C H Y ops.toList (A1 ++ i :: (A2 ++ p :: (p + 1) :: S)) st = some stf := by rw [hA12] at hr; simpa using hr
        have hbub := bubble hto hrest hr' q1 hA1i (fun j hj b hb => by
          refine ⟨?_, hne j (by rw [hA12]; simp [hj])⟩
          rcases hpairs j i b o (Nat.zero_le _) (hA1i j hj) hb hto with q | q
          · exact q
          · have := q.wait (p + 1) op2 (by have := hAlt i hin; omega) hp2
            rw [hne2 j (by rw [hA12]; simp [hj])] at this; cases this)
        obtain ⟨o', st1, ho', h1, h2'⟩ := runI_cons hbub
        rw [hto] at ho'; cases ho'
        unfold wpOpIn
        simp only [ho]
        have hleft : left ops.size (listed.setIfInBounds i true) = (A1 ++ A2) ++ p :: S := by
          rw [left_set (A := A1) (B := A2 ++ p :: S) hs (by rw [hlf, hA12]; simp), List.append_assoc]
        refine step_sound hC hH (lend_sound hH) hYc h1 (Now.start hG ht hAr) (fun u w' hN' => ?_)
        obtain ⟨c', X', hG', hE', ht', hA'⟩ := hN'
        refine ih2 _ _ _ st1 p op1 op2 (A1 ++ A2) S t2 k2 z T cs (by simp [hs]) (hsh.next ho hed) ?_ hleft hp1 hp2 hP hd2 ho2 hz hzs hS (by simpa using h2') (by rw [put_defers]; exact hd) (Ahead.step hG hE k1 k3 k4 k5 k6 k7 hG' hE' ht' hA' (fun v hv => k8 v ?_))
        · rw [hleft]
          have := hn
          rw [hlf, hA12] at this
          simp at this ⊢
          omega
        · rw [Act.put_other (apart_facts (hpa i hin o hto) hd2).2] at hv
          exact hv
      · rcases List.mem_cons.1 hin with rfl | hin
        · 
          rw [← Array.getElem?_toList, hp1] at ho
          cases ho
          have ho : ops[i]? = some op1 := by simpa using hp1
          have hb1 := bubble hp1 (B := (i + 1) :: S) (fun j hj => by
            rcases List.mem_cons.1 hj with rfl | hj
            · omega
            · have := hS j hj; omega) hr hAs hAlt (fun j hj b hb => by
            refine ⟨?_, hne j (by simp [hj])⟩
            rcases hpairs j i b op1 (Nat.zero_le _) (hAlt j hj) hb hp1 with q | q
            · exact q
            · have := q.wait (i + 1) op2 (by omega) hp2
              rw [hne2 j (by simp [hj])] at this; cases this)
          obtain ⟨o', st1, ho', h1, h2'⟩ := runI_cons hb1
          rw [hp1] at ho'; cases ho'
          have hb2 := bubble hp2 (B := S) (fun j hj => hS j hj) h2' hAs (fun j hj => by have := hAlt j hj; omega) (fun j hj b hb => by
            refine ⟨?_, hne2 j (by simp [hj])⟩
            rcases hpairs j (i + 1) b op2 (Nat.zero_le _) (by have := hAlt j hj; omega) hb hp2 with q | q
            · exact q
            · have := q.adj; have := hAlt j hj; omega)
          obtain ⟨o', st2, ho', h3, h4⟩ := runI_cons hb2
          rw [hp2] at ho'; cases ho'
          obtain ⟨hg2, _, T', hoT'⟩ := isAlloc_of hP.b1
          rw [ho2] at hoT'; cases hoT'
          obtain ⟨cs', hz', rfl⟩ := alloc_does hg2 ho2 h3
          rw [hC.1, hz] at hz'
          cases hz'
          unfold wpOpIn
          simp only [ho]
          have hleft := left_set hs hlf
          refine step_sound hC hH (lend_sound hH) hYc h1 (Now.start hG ht hAr) (fun u w' hN' => ?_)
          obtain ⟨c', X', hG', hE', ht', hA'⟩ := hN'
          obtain ⟨c3, X3, m1, m2, m3, m4, m5, m6, m7, m8, m9, m10, m11⟩ := Ahead.step (a' := a.put op1.dst u) (t2 := t2) hG hE k1 k3 k4 k5 k6 k7 hG' hE' ht' hA' (fun v hv => k8 v (by
            rw [Act.put_other (apart_facts hP.apart hd2).2] at hv
            exact hv))
          have hG3 := m1.adopt (b := k2) (bx := .cells (some T) cs) m5 m7 m9 m8 ⟨z.cells.toList, [], T, by rw [List.append_nil, Array.toArray_toList]; exact m10, hzs _, fun u hu => ⟨Option.some.inj hu, rfl⟩⟩
          refine ih1 _ _ _ { env := putA st1.env op2.dst (.ptr st1.boxes.length 0), boxes := st1.boxes ++ [.cells (some T) cs], toks := st1.toks, s := st1.s } (by simp [hs]) (hsh.next ho hed) ?_ (by rw [hleft]; exact h4) (by rw [put_defers]; exact hd) ⟨c3.addBox k2, X3, hG3, ⟨Cx.le_trans m2.le (Cx.le_addBox _ k2), m2.os, m2.tape, m2.output, m2.size, m2.keep, fun k hk => ?_, m2.newX, m2.ronew, m2.dead⟩, m3, ?_⟩
          · rw [hleft]
            have := hn
            rw [hlf] at this
            simp at this ⊢
            omega
          · rcases hk with ⟨hk, hdd⟩ | hk
            · simp only [Cx.addBox, List.mem_append, List.mem_singleton] at hk
              rcases hk with hk | rfl
              · exact m2.new k (.inl ⟨hk, hdd⟩)
              · exact .inr m6
            · exact m2.new k (.inr hk)
          · rw [hd2]
            refine ARels.set_at (ARels.mono (Cx.le_addBox _ k2) m4) (fun v hv => ?_)
            have := m11 v (by simpa using hv)
            subst this
            simp only [ARel]
            exact ⟨k2, by simp [Cx.addBox, m1.ok.len], rfl⟩
        · 
          exfalso
          have := hP.wait i o (hS i hin) hto
          rw [hne p (by simp)] at this; cases this
theorem draw_sound2 {C : Cfg} (hC : C.P = P ∧ C.glob = glob ∧ OddSound P glob C.odd) (hm : P.follows .mixedOrders = true) {H : Hd} (hH : HSound P glob H) {Y : Yd σ} (hY : Env P glob L Y c0) {ops : Array Oper} {rd : Option Nat} {Q : Exit → Act → World → Prop} {id : Nat} {st stf : St σ}
    (e : evOps C H Y true ops.toList ops.toList st = some (.normal, stf)) (hok : (drawOk C.P stf.env ops.toList 0 ops.toList || draw2 C.P stf.env ops.toList 0 ops.toList) = true) {a : Act} {w : World} (hN : Now L X0 c0 w0 st a.tmps w.drew)
    (hQ : ∀ (a' : Act) (w' : World), a'.defers = a.defers → Now L X0 c0 w0 stf a'.tmps w' → Q .normal a' w') : (Code.region id ops true).wpIn (FW rd) 0 P Q a w := by
  rcases Bool.or_eq_true _ _ ▸ hok with hok | hok
  · exact draw_sound hC hm hH hY e hok hN hQ
  · have hlf : left ops.size (Array.replicate ops.size false) = List.range ops.size := by
      unfold left
      refine List.filter_eq_self.2 (fun i hi => ?_)
      have : i < ops.size := by simpa using hi
      simp [Array.getD_eq_getD_getElem?, this]
    refine wpIn_region_any hm ((any2_sound hC hH hY hok hQ ops.size).1 _ a _ st (by simp) (Shut.start _ _) (by rw [hlf]; simp) ?_ rfl hN)
    rw [hlf, List.range_eq_range', ← Array.length_toList]
    exact runI_evOps ops.toList 0 (by simp) e
end Ev
