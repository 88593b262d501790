/- What functions of the program compute, as plain Lean functions, each with its proof by a proved reader; plain laws about them (EvDl). -/
import Derived.Test.YtohmflkolmobmaaGreatDoorEvJ
set_option linter.unusedSimpArgs false
set_option linter.unusedVariables false
namespace Ev
open Go Go.RowKit
variable {σ : Type} {P : Program} {glob : Nat → Option (List D)}
theorem splitCall_eq : ∀ {l A B : List Oper} {oc : Oper} {g : Operand} {as : List Operand}, splitCall l = some (A, oc, g, as, B) → l = A ++ oc :: B ∧ oc.guard = none ∧ ∃ args ats, oc.op = .call { callee := .value g, args := args, argTypes := ats } ∧ args.toList = as
  | [], _, _, _, _, _, h => by cases h
  | o :: r, A, B, oc, g, as, h => by
    unfold splitCall at h
    split at h
    · rename_i g' args ats ho
      split at h
      · rename_i hc
        simp only [Option.some.injEq, Prod.mk.injEq] at h
        obtain ⟨rfl, rfl, rfl, rfl, rfl⟩ := h
        exact ⟨rfl, Option.isNone_iff_eq_none.1 hc, args, ats, ho, rfl⟩
      · cases h
    · split at h
      · rename_i a' c' g' as' b' hr
        simp only [Option.some.injEq, Prod.mk.injEq] at h
        obtain ⟨rfl, rfl, rfl, rfl, rfl⟩ := h
        obtain ⟨h1, h2⟩ := splitCall_eq hr
        exact ⟨by rw [h1]; rfl, h2⟩
      · cases h
theorem putBack_far {α : Type} : ∀ {ps : List (Nat × α)} {l : List α} {i : Nat}, (∀ p ∈ ps, p.1 ≠ i) → (putBack l ps)[i]? = l[i]?
  | [], _, _, _ => rfl
  | (j, x) :: ps, l, i, h => by
    simp only [putBack]
    rw [putBack_far (fun p hp => h p (List.mem_cons_of_mem _ hp)), List.getElem?_set_ne (h (j, x) (by simp))]
theorem putBack_len2 {α : Type} : ∀ (ps : List (Nat × α)) (l : List α), (putBack l ps).length = l.length
  | [], _ => rfl
  | (j, x) :: ps, l => by simp only [putBack]; rw [putBack_len2 ps]; simp
theorem lend_other {H : Hd} {Y : Yd σ} {f : FuncId} {args : List AV} {boxes b : List Box} {toks t : List Nat} {s s' : σ} {o : Out} (h : lend H σ Y f args boxes toks s = some (o, b, t, s')) {i : Nat} (hi : i < boxes.length) (hn : i ∉ lentB args boxes) : b[i]? = boxes[i]? := by
  unfold lend at h
  dsimp only at h
  split at h
  case isFalse => cases h
  split at h
  case h_2 => cases h
  simp only [Option.some.injEq, Prod.mk.injEq] at h
  obtain ⟨_, h2, _⟩ := h
  rw [← h2]
  unfold merge
  rw [List.getElem?_append_left (by rw [putBack_len2]; exact hi), putBack_far]
  rintro ⟨j, x⟩ hp e
  simp only at e
  subst e
  exact hn (List.of_mem_zip hp).1
theorem light_cls {P : Program} {o : Op} (h : lightCls o = .pure ∨ lightCls o = .reads) : classOf P o ≠ .writes ∧ (classOf P o).tk = false ∧ (classOf P o).lk = false := by
  have e : classOf P o = lightCls o := by
    unfold lightCls at h ⊢
    unfold classOf
    split <;> first | rfl | (simp_all; done) | skip
  rw [e]
  rcases h with h | h <;> rw [h] <;> simp [Class.tk, Class.lk]
structure Light (env : List AV) (nb : Nat) (rs : List Nat) (all : List Oper) (oc : Oper) (k j : Nat) (o : Oper) : Prop where
  cls : lightCls o.op = .pure ∨ lightCls o.op = .reads
  rd : ∀ t x, o.op = .load t x → ∃ u i off, x = .tmp u ∧ env.getD u .undef = .ptr i off ∧ i < nb ∧ i ∉ rs ∧ ∀ m q, j ≤ m → m < k → all[m]? = some q → q.dst ≠ some u
  ap : apartD all o oc = true
theorem light_of {env : List AV} {nb : Nat} {rs : List Nat} {all : List Oper} {oc : Oper} : ∀ {l : List Oper} {n : Nat}, (∀ m, m < l.length → l[m]? = all[n + m]?) → lightOk env nb rs all oc n l = true → ∀ (j : Nat) (o : Oper), n ≤ j → j < n + l.length → all[j]? = some o → edge j oc = true ∨ Light env nb rs all oc (n + l.length) j o
  | [], n, hl, h, j, o, h1, h2, ho => by simp at h2; omega
  | q :: l, n, hl, h, j, o, h1, h2, ho => by
    simp only [lightOk, Bool.and_eq_true, Bool.or_eq_true] at h
    obtain ⟨h34, h5⟩ := h
    have hq : all[n]? = some q := by have := hl 0 (by simp); simpa using this.symm
    have hl' : ∀ m, m < l.length → l[m]? = all[n + 1 + m]? := fun m hm => by
      have := hl (m + 1) (by simp; omega)
      rw [List.getElem?_cons_succ] at this
      rw [this]; congr 1; omega
    by_cases hj : j = n
    · subst hj
      rw [hq] at ho; cases ho
      rcases h34 with h34 | ⟨h3, h4⟩
      · exact .inl h34
      refine .inr ⟨?_, fun t x hx => ?_, h4⟩
      · split at h3
        · exact .inl ‹_›
        · exact .inr ‹_›
        · cases h3
      · have hcl : lightCls q.op = .reads := by rw [hx]; rfl
        rw [hcl] at h3
        simp only [hx] at h3
        cases x with
        | tmp u =>
          simp only [Bool.and_eq_true] at h3
          obtain ⟨h6, h7⟩ := h3
          split at h6
          · rename_i i off hp
            simp only [Bool.and_eq_true, decide_eq_true_eq, Bool.not_eq_true', List.contains_eq_mem, decide_eq_false_iff_not] at h6
            refine ⟨u, i, off, rfl, hp, h6.1, h6.2, fun m p hm1 hm2 hp e => ?_⟩
            have hmem : p ∈ q :: l := by
              have := hl (m - j) (by simp at hm2 ⊢; omega)
              rw [show j + (m - j) = m by omega, hp] at this
              exact List.mem_of_getElem? this
            have := List.all_eq_true.1 h7 p hmem
            simp [e] at this
          · cases h6
        | const v => simp at h3
        | global g => simp at h3
        | func f => simp at h3
    · have hlen : (q :: l).length = l.length + 1 := rfl
      rw [show n + (q :: l).length = n + 1 + l.length by rw [hlen]; omega]
      refine light_of hl' h5 j o (by omega) (by rw [hlen] at h2; omega) ho
variable {C : Cfg} {H : Hd} {Y : Yd σ}
theorem light_same {env : List AV} {nb : Nat} {rs : List Nat} {all : List Oper} {oc : Oper} {k : Nat} : ∀ {r : List Nat} {st stA : St σ}, runI C H Y all r st = some stA → (∀ j ∈ r, ∀ o, all[j]? = some o → Light env nb rs all oc k j o) → stA.boxes = st.boxes ∧ stA.toks = st.toks ∧ stA.s = st.s ∧ stA.env.length = st.env.length
  | [], st, stA, h, _ => by cases h; exact ⟨rfl, rfl, rfl, rfl⟩
  | i :: r, st, stA, h, hl => by
    obtain ⟨o, st1, ho, h1, h2⟩ := runI_cons h
    obtain ⟨v, e, s, hb, ht, _⟩ := step1_does h1
    obtain ⟨q1, q2, q3, q4⟩ := light_same h2 (fun j hj => hl j (List.mem_cons_of_mem _ hj))
    have hc := (hl i (by simp) o ho).cls
    refine ⟨q1.trans (hb ?_), q2.trans (ht ?_), q3.trans s, q4.trans ?_⟩
    · exact (light_cls hc).1
    · exact (light_cls hc).2.1
    · rw [e]; cases o.dst <;> simp [putA]
theorem light_looks {env : List AV} {nb : Nat} {rs : List Nat} {all : List Oper} {oc : Oper} {k : Nat} {r : List Nat} {st stA : St σ} (h : runI C H Y all r st = some stA) (hl : ∀ j ∈ r, ∀ o, all[j]? = some o → Light env nb rs all oc k j o) : ∀ t ∈ looks all oc, st.env.getD t .undef = stA.env.getD t .undef := fun t ht =>
  (runI_keeps h (fun i hi o ho e => by
    have := (hl i hi o ho).ap
    simp only [apartD, e, Bool.and_eq_true] at this
    exact notIn this.1.1 ht)).symm
theorem light_after {nb : Nat} {rs : List Nat} {all : List Oper} {oc : Oper} {k : Nat} {stA : St σ} {v : AV} {b : List Box} {t : List Nat} {s : σ} (hb : ∀ i, i < nb → i ∉ rs → b[i]? = stA.boxes[i]?) : ∀ {r : List Nat} {st : St σ}, runI C H Y all r st = some stA → r.Pairwise (· < ·) → (∀ j ∈ r, j < k) → (∀ j ∈ r, ∀ o, all[j]? = some o → Light stA.env nb rs all oc k j o) →
    runI C H Y all r { env := putA st.env oc.dst v, boxes := b, toks := t, s := s } = some { env := putA stA.env oc.dst v, boxes := b, toks := t, s := s }
  | [], st, h, _, _, _ => by cases h; rfl
  | i :: r, st, h, hs, hk, hl => by
    have h0 := h
    obtain ⟨o, st1, ho, h1, h2⟩ := runI_cons h
    obtain ⟨va, e, es, eb, et, go⟩ := step1_does h1
    have hli := hl i (by simp) o ho
    have ih := light_after (v := v) (t := t) (s := s) hb h2 (List.pairwise_cons.1 hs).2 (fun j hj => hk j (List.mem_cons_of_mem _ hj)) (fun j hj => hl j (List.mem_cons_of_mem _ hj))
    have hap := hli.ap
    simp only [apartD, Bool.and_eq_true] at hap
    have hd2 : ∀ u, oc.dst = some u → u ∉ looks all o := fun u e => by
      have := hap.2; simp only [e] at this; exact notIn this
    have hne : ∀ u u', o.dst = some u → oc.dst = some u' → u ≠ u' := fun u u' e1 e2 => by
      have := hap.1; simp only [e1, e2, Bool.and_eq_true] at this; simpa using this.2
    obtain ⟨hw, htk, hlk⟩ := light_cls (P := C.P) hli.cls
    have hsame := light_same h0 hl
    have hstep := go { env := putA st.env oc.dst v, boxes := b, toks := t, s := s } (fun u hu => putA_getD (fun u' e1 e2 => hd2 u' e1 (e2 ▸ hu))) (fun ty x r0 hx hr0 => by
      refine Eq.trans ?_ hr0
      obtain ⟨u, ib, off, rfl, hp, hi1, hi2, hnd⟩ := hli.rd ty x hx
      have hop : operand st.env (.tmp u) = .ptr ib off := by
        have := runI_keeps (t := u) h0 (fun m hm q hq => hnd m q (by
          rcases List.mem_cons.1 hm with rfl | hm
          · exact Nat.le_refl _
          · exact Nat.le_of_lt ((List.pairwise_cons.1 hs).1 m hm)) (hk m hm) hq)
        simp only [operand]
        rw [← this, hp]
      rw [hop]
      simp only [evLoad]
      rw [hb ib hi1 hi2, hsame.1]) (fun h => (hw h).elim) (fun h => by rw [htk] at h; cases h) (fun h => by rw [hlk] at h; cases h)
    refine runI_of ho hstep ?_
    rw [if_neg hw, if_neg (by rw [htk]; simp)]
    have hcomm : putA (putA st.env oc.dst v) o.dst va = putA st1.env oc.dst v := by
      rw [e]; exact putA_comm hne
    simp only [hcomm]
    exact ih
variable {L : Held σ} {X0 : Nat → Prop} {c0 : Cx} {w0 : World}
theorem runI_evOps2 {all : List Oper} : ∀ (l : List Oper) (k : Nat) {st stf : St σ}, (∀ j, j < l.length → l[j]? = all[k + j]?) → evOps C H Y true all l st = some (.normal, stf) → runI C H Y all (List.range' k l.length) st = some stf
  | [], _, _, _, _, h => by cases h; rfl
  | o :: l, k, st, stf, hl, h => by
    obtain ⟨st1, h1, h2⟩ := evOps_cons rfl h
    simp only [forgetSt, if_true] at h2
    have h0 : all[k]? = some o := by simpa using (hl 0 (by simp)).symm
    simp only [List.length_cons, List.range'_succ]
    exact runI_of h0 h1 (runI_evOps2 l (k + 1) (fun j hj => by have := hl (j + 1) (by simp; omega); simpa [Nat.add_assoc, Nat.add_comm 1 j] using this) h2)
theorem runI_append {all : List Oper} : ∀ {r r2 : List Nat} {st st1 stf : St σ}, runI C H Y all r st = some st1 → runI C H Y all r2 st1 = some stf → runI C H Y all (r ++ r2) st = some stf
  | [], _, _, _, _, h, h2 => by cases h; exact h2
  | i :: r, r2, st, st1, stf, h, h2 => by
    obtain ⟨o, st', ho, q1, q2⟩ := runI_cons h
    exact runI_of ho q1 (runI_append q2 h2)
theorem undefs_rel {c : Cx} : ∀ {xs : List AV} {us : List Value}, us.length = (xs.map fun _ => AV.undef).length → ARels c (xs.map fun _ => AV.undef) us
  | [], us, h => by
    have : us = [] := List.length_eq_zero_iff.1 (by simpa using h)
    subst this; exact rfl
  | x :: xs, [], h => by simp at h
  | x :: xs, u :: us, h => ⟨u, us, rfl, by simp only [ARel], undefs_rel (xs := xs) (by simpa using h)⟩
theorem callArgs_run {c : Cx} {st : St σ} {a : Act} {o : Oper} {g : Operand} {args : Array Operand} {ats : Array TypeId} {f : FuncId} {as : List AV} {w : World} (hρ : ∀ x, ARel c (operand st.env x) (a.eval x)) (ho : o.op = .call { callee := .value g, args := args, argTypes := ats }) (e : callArgs C g args.toList st = some (f, as)) :
    ∃ us : List Value, ARels c as us ∧ ((∀ us w, (callFunc f us).run P w = .ok (.enter f us) w) → (execOp a.eval o).run P w = .ok (.enter f us.toArray) w) := by
  unfold callArgs at e
  split at e
  case h_2 => cases e
  rename_i f' first caps hgv
  split at e
  case isFalse => cases e
  simp only [Option.some.injEq, Prod.mk.injEq] at e
  obtain ⟨rfl, rfl⟩ := e
  have hg := hρ g
  rw [hgv] at hg
  simp only [ARel] at hg
  obtain ⟨fs, cs, hg, hfs, hcs⟩ := hg
  refine ⟨fs ++ args.toList.map a.eval ++ cs, ?_, fun he => ?_⟩
  · refine ARels.append ?_ hcs
    have := ARels.append hfs (ARels.map_ops hρ args.toList)
    split
    · exact this
    · exact this.demote
  · have : fs.toArray ++ args.map a.eval ++ cs.toArray = (fs ++ args.toList.map a.eval ++ cs).toArray := by apply Array.ext'; simp
    simp only [execOp, ho, resolve, hg, Deferred.ofValue, Sem.run_bind, Sem.run_pure, Result.andThen, invoke, he, this]
theorem callArgs_agree {st st2 : St σ} {all : List Oper} {o : Oper} {g : Operand} {args : Array Operand} {ats : Array TypeId} (ho : o.op = .call { callee := .value g, args := args, argTypes := ats }) (h : ∀ t ∈ looks all o, st2.env.getD t .undef = st.env.getD t .undef) : callArgs C g args.toList st2 = callArgs C g args.toList st := by
  have hop := operand_agree h
  have hg : operand st2.env g = operand st.env g := hop g (by simp [ho, Op.operands, Call.operands])
  have ha : args.toList.map (operand st2.env) = args.toList.map (operand st.env) := by
    apply List.map_congr_left
    intro x hx
    exact hop x (by simp [ho, Op.operands, Call.operands]; exact .inr (by simpa using hx))
  unfold callArgs
  rw [hg, ha]
theorem ready_some {ops : Array Oper} {listed : Array Bool} (hs : listed.size = ops.size) (hback : ∀ (i : Nat) (a : Oper), ops.toList[i]? = some a → ∀ e ∈ a.after, Region.binds .any e = true → e.on < i) {i : Nat} {r : List Nat} (hlf : left ops.size listed = i :: r) : i ∈ Region.ready .any ops listed := by
  have hmem : ∀ {i : Nat}, i ∈ left ops.size listed ↔ i < ops.size ∧ listed.getD i true = false := fun {i} => by simp [left]
  have hi : i ∈ left ops.size listed := by rw [hlf]; simp
  obtain ⟨q1, q2⟩ := hmem.1 hi
  have ho : ops[i]? = some ops[i] := Array.getElem?_eq_getElem q1
  refine ready_first ho q2 (fun e he hbe => ?_)
  have hlt := hback i ops[i] (by simp [q1]) e he hbe
  cases hg : listed.getD e.on false with
  | true => rfl
  | false =>
    have hel : e.on < ops.size := by omega
    have hin : e.on ∈ left ops.size listed := hmem.2 ⟨hel, by
      rw [Array.getD_eq_getD_getElem?] at hg ⊢
      rw [Array.getElem?_eq_getElem (by omega)] at hg ⊢
      simpa using hg⟩
    have hsorted : (left ops.size listed).Pairwise (· < ·) := List.Pairwise.filter _ List.pairwise_lt_range
    rw [hlf] at hin hsorted
    rcases List.mem_cons.1 hin with e1 | e1
    · omega
    · have := (List.pairwise_cons.1 hsorted).1 _ e1; omega
theorem left_set {n i : Nat} {listed : Array Bool} (hs : listed.size = n) {A B : List Nat} (hAB : left n listed = A ++ i :: B) : left n (listed.setIfInBounds i true) = A ++ B := by
  have hsorted : (left n listed).Pairwise (· < ·) := List.Pairwise.filter _ List.pairwise_lt_range
  rw [hAB, List.pairwise_append] at hsorted
  obtain ⟨hA, hiB, hAB'⟩ := hsorted
  have hAi : ∀ j ∈ A, j < i := fun j hj => hAB' j hj i (by simp)
  have hBi : ∀ j ∈ B, i < j := fun j hj => (List.pairwise_cons.1 hiB).1 j hj
  have : left n (listed.setIfInBounds i true) = (left n listed).filter (fun j => j != i) := by
    unfold left
    rw [List.filter_filter]
    apply List.filter_congr
    intro j hj
    have hjl : j < listed.size := by rw [hs]; simpa using hj
    rw [Array.getD_eq_getD_getElem?, Array.getD_eq_getD_getElem?]
    by_cases hji : j = i
    · subst hji; simp [hjl]
    · rw [Array.getElem?_setIfInBounds_ne (fun e => hji e.symm)]
      simp [hji]
  rw [this, hAB, List.filter_append, List.filter_cons]
  simp only [bne_self_eq_false, Bool.false_eq_true, if_false]
  congr 1
  · exact List.filter_eq_self.2 (fun j hj => by have := hAi j hj; simp; omega)
  · exact List.filter_eq_self.2 (fun j hj => by have := hBi j hj; simp; omega)
theorem anyL_sound (hC : C.P = P ∧ C.glob = glob ∧ OddSound P glob C.odd) (hH : HSound P glob H) (hY : Env P glob L Y c0) {ops : Array Oper} {rd : Option Nat} {Q : Exit → Act → World → Prop} {ds : List Deferred} {A B : List Oper} {oc : Oper} {g : Operand} {args : Array Operand} {ats : Array TypeId}
    (hops : ops.toList = A ++ oc :: B) (hog : oc.guard = none) (hoc : oc.op = .call { callee := .value g, args := args, argTypes := ats }) {stA : St σ} {f : FuncId} {as : List AV} (hca : callArgs C g args.toList stA = some (f, as))
    (hlight : lightOk stA.env stA.boxes.length (lentB as stA.boxes) ops.toList oc 0 A = true) (hB : B.all (edge A.length) = true) (hdr : drawOk C.P stA.env ops.toList 0 ops.toList = true) {out : Out} {b : List Box} {t : List Nat} {s : σ} (hl : lend H σ Y f as stA.boxes stA.toks stA.s = some (out, b, t, s))
    (hret : ∀ v, out = .ret v → ∃ stf, runI C H Y ops.toList (List.range' (A.length + 1) B.length) { env := putA stA.env oc.dst v, boxes := b, toks := t, s := s } = some stf ∧ drawOk C.P stf.env ops.toList 0 ops.toList = true ∧ ∀ (a' : Act) (w' : World), a'.defers = ds → Now L X0 c0 w0 stf a'.tmps w' → Q .normal a' w')
    (hpan : ∀ x, out = .panic x → ∃ u : Value, x = .d (.val u) ∧ ∀ (a' : Act) (w' : World), u.oneCell' = true → a'.defers = ds → Now L X0 c0 w0 { env := stA.env.map fun _ => .undef, boxes := b, toks := t, s := s } a'.tmps w' → Q (.panic [{ v := u, recovered := false }]) a' w') :
    ∀ (n : Nat) (listed : Array Bool) (a : Act) (w : World) (st : St σ) (L1 : List Nat), listed.size = ops.size → Shut ops listed → (left ops.size listed).length = n → left ops.size listed = L1 ++ A.length :: List.range' (A.length + 1) B.length → runI C H Y ops.toList L1 st = some stA → a.defers = ds → Now L X0 c0 w0 st a.tmps w →
      wpAnyIn (FW rd) 0 P .any ops Q n listed a w := by
  obtain ⟨hback, hpairs⟩ := drawOk_facts (k := 0) (fun j => by simp) hdr
  have hmem : ∀ {listed : Array Bool} {i : Nat}, i ∈ left ops.size listed ↔ i < ops.size ∧ listed.getD i true = false := fun {listed i} => by simp [left]
  have hk : ops[A.length]? = some oc := by rw [← Array.getElem?_toList, hops, List.getElem?_append_right (Nat.le_refl _)]; simp
  have hlen : ops.size = A.length + 1 + B.length := by rw [← Array.length_toList, hops]; simp; omega
  have hlt : ∀ (j : Nat) (o : Oper), j < A.length → ops.toList[j]? = some o → edge j oc = true ∨ Light stA.env stA.boxes.length (lentB as stA.boxes) ops.toList oc A.length j o := fun j o hj ho => by
    have := light_of (n := 0) (fun m hm => by rw [hops, Nat.zero_add, List.getElem?_append_left hm]) hlight j o (Nat.zero_le _) (by omega) ho
    rwa [Nat.zero_add] at this
  intro n
  induction n with
  | zero =>
    intro listed a w st L1 hs hsh hn hlf
    rw [hlf] at hn; simp at hn
  | succ n ih =>
    intro listed a w st L1 hs hsh hn hlf hr hd hN
    have hsorted : (left ops.size listed).Pairwise (· < ·) := List.Pairwise.filter _ List.pairwise_lt_range
    have hsL := hsorted
    rw [hlf, List.pairwise_append] at hsL
    obtain ⟨hL1s, _, hL1k⟩ := hsL
    have hL1lt : ∀ j ∈ L1, j < A.length := fun j hj => hL1k j hj A.length (by simp)
    refine ⟨fun h0 => ?_, fun i hi => ?_⟩
    · exfalso
      cases hlf' : left ops.size listed with
      | nil => rw [hlf'] at hn; cases hn
      | cons i r =>
        have := ready_some hs (fun i a ha e he hb => hback i a (Nat.zero_le _) ha e he hb) hlf'
        rw [h0] at this; cases this
    · obtain ⟨o, ho, hli, hed⟩ := ready_mem hi
      have hil : i < ops.size := (Array.getElem?_eq_some_iff.1 ho).1
      have hin : i ∈ left ops.size listed := hmem.2 ⟨hil, hli⟩
      have hto : ops.toList[i]? = some o := by simpa using ho
      have hkl : A.length ∈ left ops.size listed := by rw [hlf]; simp
      rw [hlf] at hin
      rcases List.mem_append.1 hin with hin | hin
      · 
        have hik := hL1lt i hin
        obtain ⟨A1, B1, hAB⟩ := List.append_of_mem hin
        have hsAB := hL1s
        rw [hAB, List.pairwise_append] at hsAB
        obtain ⟨hA, hiB, hAB'⟩ := hsAB
        have hAi : ∀ j ∈ A1, j < i := fun j hj => hAB' j hj i (by simp)
        have hBi : ∀ j ∈ B1, i < j := fun j hj => (List.pairwise_cons.1 hiB).1 j hj
        rw [hAB] at hr
        have hbub := bubble hto hBi hr hA hAi (fun j hj a ha => by
          refine ⟨hpairs j i a o (Nat.zero_le _) (hAi j hj) ha hto, ?_⟩
          cases hg : edgeT ops.toList 4 j o with
          | false => rfl
          | true =>
            have h1 := hsh.all 4 o hed j hg
            have h2 := (hmem.1 (show j ∈ left ops.size listed by rw [hlf, hAB]; simp [hj])).2
            have hjl : j < listed.size := by have := hAi j hj; omega
            rw [Array.getD_eq_getD_getElem?, Array.getElem?_eq_getElem hjl] at h1 h2
            simp at h1 h2
            rw [h1] at h2; cases h2)
        obtain ⟨o', st1, ho', h1, h2⟩ := runI_cons hbub
        rw [hto] at ho'; cases ho'
        unfold wpOpIn
        simp only [ho]
        refine step_sound hC hH (lend_sound hH) hY h1 hN (fun u w' hN' => ?_)
        have hleft : left ops.size (listed.setIfInBounds i true) = (A1 ++ B1) ++ A.length :: List.range' (A.length + 1) B.length := by
          rw [left_set (A := A1) (B := B1 ++ A.length :: List.range' (A.length + 1) B.length) hs (by rw [hlf, hAB]; simp), List.append_assoc]
        refine ih _ _ _ st1 (A1 ++ B1) (by simp [hs]) (hsh.next ho hed) ?_ hleft h2 (by rw [put_defers]; exact hd) hN'
        rw [hleft]
        have := hn
        rw [hlf, hAB] at this
        simp at this ⊢
        omega
      · rcases List.mem_cons.1 hin with rfl | hin
        · 
          rw [hk] at ho; cases ho
          have hl1 : ∀ j ∈ L1, ∀ o, ops.toList[j]? = some o → Light stA.env stA.boxes.length (lentB as stA.boxes) ops.toList oc A.length j o := fun j hj o ho => by
            rcases hlt j o (hL1lt j hj) ho with q | q
            · exfalso
              have h1 := hed j q
              have h2 := (hmem.1 (show j ∈ left ops.size listed by rw [hlf]; simp [hj])).2
              have hjl : j < listed.size := by have := hL1lt j hj; omega
              rw [Array.getD_eq_getD_getElem?, Array.getElem?_eq_getElem hjl] at h1 h2
              simp at h1 h2
              rw [h1] at h2; cases h2
            · exact q
          obtain ⟨e1, e2, e3, e4⟩ := light_same hr hl1
          have hlooks := light_looks hr hl1
          have hca' : callArgs C g args.toList st = some (f, as) := by rw [callArgs_agree hoc hlooks]; exact hca
          rw [e1, e2, e3] at hl
          unfold wpOpIn
          simp only [hk]
          have hw : Region.wanted oc (yielded ops a.tmps) = true := by unfold Region.wanted; rw [hog]
          rw [if_pos hw]
          obtain ⟨c, X, hG, hE, ht, hA⟩ := hN
          obtain ⟨us, hargs, hrun⟩ := callArgs_run (P := P) (w := w) (operand_rel hA) hoc hca'
          obtain ⟨he, hp⟩ := lend_sound hH σ Y L f _ _ _ _ _ _ _ _ hl
          have hcalls := hp c w X us ht hG hargs (hY.le hE.le)
          cases out with
          | ret v =>
            obtain ⟨stf, hrB, hdf, hQ⟩ := hret v rfl
            refine wp_enter hoc (hrun he) (Calls.mono hcalls ?_)
            rintro e' w' ⟨c', X', u, rfl, g1, g2, g3, hv⟩
            refine ⟨u, rfl, ?_⟩
            have hafter := light_after (v := v) (t := t) (s := s) (b := b) (oc := oc) (k := A.length) (fun i hi hn => lend_other (H := H) (by rw [← e1, ← e2, ← e3] at hl; exact hl) hi hn) hr hL1s hL1lt hl1
            have hleft : left ops.size (listed.setIfInBounds A.length true) = L1 ++ List.range' (A.length + 1) B.length := left_set hs hlf
            refine any_sound hC hH hY hdf hQ n _ _ w' { env := putA st.env oc.dst v, boxes := b, toks := t, s := s } (by simp [hs]) (hsh.next hk hed) ?_ ?_ (by rw [put_defers]; exact hd) ⟨c', X', g1, hE.trans g2, g3, putA_rel (ARels.mono g2.le hA) oc.dst hv⟩
            · rw [hleft]
              have := hn
              rw [hlf] at this
              simp at this ⊢
              omega
            · rw [hleft]
              exact runI_append hafter hrB
          | panic x =>
            obtain ⟨u0, rfl, hQ⟩ := hpan x rfl
            refine wp_enterP hoc (hrun he) (Calls.mono hcalls ?_)
            rintro e' w' ⟨c', X', u, rfl, g1, g2, g3, hv⟩
            simp only [Out.val, ARel, DRel] at hv
            obtain ⟨rfl, h1c⟩ := hv
            refine ⟨u, rfl, hQ a w' h1c hd ⟨c', X', g1, hE.trans g2, g3, ?_⟩⟩
            have hlen' := ARels.length hA
            exact undefs_rel (by rw [List.length_map, e4]; exact hlen'.symm)
        · 
          exfalso
          have hij : A.length + 1 ≤ i := by simp only [List.mem_range'_1] at hin; exact hin.1
          have hoB : o ∈ B := by
            have : B[i - (A.length + 1)]? = some o := by
              rw [hops, List.getElem?_append_right (by omega), show i - A.length = (i - (A.length + 1)) + 1 by omega, List.getElem?_cons_succ] at hto
              exact hto
            exact List.mem_of_getElem? this
          have h1 := hed A.length (List.all_eq_true.1 hB o hoB)
          have h2 := (hmem.1 hkl).2
          have hjl : A.length < listed.size := by omega
          rw [Array.getD_eq_getD_getElem?, Array.getElem?_eq_getElem hjl] at h1 h2
          simp at h1 h2
          rw [h1] at h2; cases h2
theorem evDrawL_ends {ops : List Oper} {st st' : St σ} {ex : Ex} (e : evDrawL C H Y ops st = some (ex, st')) : ex = .normal ∨ ∃ u : Value, ex = .panic (.d (.val u)) := by
  unfold evDrawL at e
  split at e
  case h_2 => cases e
  split at e
  case h_2 => cases e
  split at e
  case h_2 => cases e
  split at e
  case isFalse => cases e
  split at e
  · split at e
    · split at e
      · cases e; exact .inl rfl
      · cases e
    · cases e
  · cases e; exact .inr ⟨_, rfl⟩
  · cases e
theorem drawL_sound (hC : C.P = P ∧ C.glob = glob ∧ OddSound P glob C.odd) (hm : P.follows .mixedOrders = true) (hH : HSound P glob H) (hY : Env P glob L Y c0) {ops : Array Oper} {rd : Option Nat} {Q : Exit → Act → World → Prop} {id : Nat} {st stf : St σ} {ex : Ex}
    (e : evDrawL C H Y ops.toList st = some (ex, stf)) {a : Act} {w : World} (hN : Now L X0 c0 w0 st a.tmps w.drew)
    (hQ : ex = .normal → ∀ (a' : Act) (w' : World), a'.defers = a.defers → Now L X0 c0 w0 stf a'.tmps w' → Q .normal a' w')
    (hQP : ∀ u : Value, ex = .panic (.d (.val u)) → u.oneCell' = true → ∀ (a' : Act) (w' : World), a'.defers = a.defers → Now L X0 c0 w0 stf a'.tmps w' → Q (.panic [{ v := u, recovered := false }]) a' w') : (Code.region id ops true).wpIn (FW rd) 0 P Q a w := by
  unfold evDrawL at e
  split at e
  case h_2 => cases e
  rename_i A oc g args B hsp
  obtain ⟨hops, hog, args', ats, hoc, hargs⟩ := splitCall_eq hsp
  subst hargs
  split at e
  case h_2 => cases e
  rename_i stA hA
  split at e
  case h_2 => cases e
  rename_i f as hca
  split at e
  case isFalse => cases e
  rename_i hchk
  simp only [Bool.and_eq_true] at hchk
  obtain ⟨⟨h1, h2⟩, h3⟩ := hchk
  have hlf : left ops.size (Array.replicate ops.size false) = List.range ops.size := by
    unfold left
    refine List.filter_eq_self.2 (fun i hi => ?_)
    have : i < ops.size := by simpa using hi
    simp [Array.getD_eq_getD_getElem?, this]
  have hlen : ops.size = A.length + (1 + B.length) := by rw [← Array.length_toList, hops]; simp; omega
  have hrange : List.range ops.size = List.range' 0 A.length ++ A.length :: List.range' (A.length + 1) B.length := by
    rw [List.range_eq_range', hlen, ← List.range'_append_1, Nat.zero_add, Nat.add_comm 1 B.length, List.range'_succ]
  have hrunA : runI C H Y ops.toList (List.range' 0 A.length) st = some stA := runI_evOps2 A 0 (fun j hj => by rw [hops, Nat.zero_add, List.getElem?_append_left hj]) hA
  have main : ∀ (out : Out) (b : List Box) (t : List Nat) (s : σ), lend H σ Y f as stA.boxes stA.toks stA.s = some (out, b, t, s) →
      (∀ v, out = .ret v → ∃ stf, runI C H Y ops.toList (List.range' (A.length + 1) B.length) { env := putA stA.env oc.dst v, boxes := b, toks := t, s := s } = some stf ∧ drawOk C.P stf.env ops.toList 0 ops.toList = true ∧ ∀ (a' : Act) (w' : World), a'.defers = a.defers → Now L X0 c0 w0 stf a'.tmps w' → Q .normal a' w') →
      (∀ x, out = .panic x → ∃ u : Value, x = .d (.val u) ∧ ∀ (a' : Act) (w' : World), u.oneCell' = true → a'.defers = a.defers → Now L X0 c0 w0 { env := stA.env.map fun _ => .undef, boxes := b, toks := t, s := s } a'.tmps w' → Q (.panic [{ v := u, recovered := false }]) a' w') →
      (Code.region id ops true).wpIn (FW rd) 0 P Q a w := by
    intro out b t s hl hret hpan
    exact wpIn_region_any hm (anyL_sound hC hH hY hops hog hoc hca h1 h2 h3 hl hret hpan ops.size _ a _ st (List.range' 0 A.length) (by simp) (Shut.start _ _) (by rw [hlf]; simp) (by rw [hlf, hrange]) hrunA rfl hN)
  split at e
  · rename_i v b t s hl
    split at e
    case h_2 => cases e
    rename_i stf' hB
    split at e
    case isFalse => cases e
    rename_i hd
    cases e
    refine main _ b t s hl (fun v' hv' => ?_) (fun x hx => by cases hx)
    cases hv'
    refine ⟨stf, runI_evOps2 B (A.length + 1) (fun j hj => by rw [hops, List.getElem?_append_right (by omega), show A.length + 1 + j - A.length = j + 1 by omega, List.getElem?_cons_succ]) hB, hd, hQ rfl⟩
  · rename_i u b t s hl
    cases e
    refine main _ b t s hl (fun v hv => by cases hv) (fun x hx => ?_)
    cases hx
    exact ⟨u, rfl, fun a' w' h1c hd' hN' => hQP u rfl h1c a' w' hd' hN'⟩
  · cases e
end Ev
