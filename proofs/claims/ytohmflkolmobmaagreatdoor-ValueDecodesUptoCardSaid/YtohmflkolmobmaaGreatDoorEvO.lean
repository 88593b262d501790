/- What functions of the program compute, as plain Lean functions, each with its proof by a proved reader; plain laws about them (EvO). -/
import Derived.Test.YtohmflkolmobmaaGreatDoorEvV
set_option linter.unusedSimpArgs false
set_option linter.unusedVariables false
namespace Ev
open Go Go.RowKit
variable {σ : Type} {P : Program}
theorem getD_set_ne {l : List AV} {i j : Nat} {v : AV} (h : i ≠ j) : (l.set i v).getD j .undef = l.getD j .undef := by
  rw [List.getD_eq_getElem?_getD, List.getD_eq_getElem?_getD, List.getElem?_set_ne h]
theorem operand_agree {env env2 : List AV} {o : Oper} {all : List Oper} (h : ∀ t ∈ looks all o, env2.getD t .undef = env.getD t .undef) : ∀ x ∈ o.op.operands, operand env2 x = operand env x := by
  intro x hx
  cases x with
  | tmp t => exact h t (List.mem_append_left _ (List.mem_flatMap.2 ⟨.tmp t, by simpa using hx, by simp [tmpOf]⟩))
  | const v => rfl
  | global g => rfl
  | func f => rfl
theorem wanted_agree {env env2 : List AV} {o : Oper} {all : List Oper} (h : ∀ t ∈ looks all o, env2.getD t .undef = env.getD t .undef) : wantedA all env2 o = wantedA all env o := by
  unfold wantedA
  cases hg : o.guard with
  | none => rfl
  | some jw =>
    obtain ⟨j, want⟩ := jw
    simp only
    cases hj : all[j]? with
    | none => rfl
    | some q =>
      simp only
      cases hd : q.dst with
      | none => rfl
      | some t =>
        have ht : t ∈ looks all o := List.mem_append_right _ (by simp [hg, hj, hd])
        simp only [h t ht]
theorem globLoad_agree {C : Cfg} {env env2 : List AV} {o : Oper} (h : ∀ x ∈ o.op.operands, operand env2 x = operand env x) : globLoad C o env2 = globLoad C o env := by
  unfold globLoad
  cases ho : o.op <;> try rfl
  rename_i t a
  simp only
  rw [h a (by simp [ho, Op.operands])]
structure Does (C : Cfg) (H : Hd) (Y : Yd σ) (all : List Oper) (o : Oper) (st st' : St σ) (v : AV) : Prop where
  env : st'.env = putA st.env o.dst v
  s : st'.s = st.s
  boxes : classOf C.P o.op ≠ .writes → st'.boxes = st.boxes
  toks : (classOf C.P o.op).tk = false → st'.toks = st.toks
  go : ∀ st2 : St σ, (∀ t ∈ looks all o, st2.env.getD t .undef = st.env.getD t .undef) → (∀ t x r, o.op = .load t x → evLoad C.P t st.boxes (operand st.env x) = some r → evLoad C.P t st2.boxes (operand st.env x) = some r) →
    (classOf C.P o.op = .writes → st2.boxes = st.boxes) → ((classOf C.P o.op).tk = true → st2.toks = st.toks) → ((classOf C.P o.op).lk = true → st2.boxes = st.boxes ∧ st2.toks = st.toks) →
    step1 C H Y true all o st2 = some (.normal, { env := putA st2.env o.dst v, boxes := if classOf C.P o.op = .writes then st'.boxes else st2.boxes, toks := if (classOf C.P o.op).tk = true then st'.toks else st2.toks, s := st2.s })
theorem Class.tk_ne {c : Class} (h : c.tk = false) : c ≠ .toks ∧ c ≠ .calls := by cases c <;> simp_all [Class.tk]
theorem Class.facts {a b : Class} (h : a.clash b = false) : ¬ (a = .writes ∧ b = .writes) ∧ ¬ (a.tk = true ∧ b.tk = true) ∧ ¬ (a = .writes ∧ b.lk = true) ∧ ¬ (a.tk = true ∧ b.lk = true) ∧ ¬ (a.lk = true ∧ b = .writes) ∧ ¬ (a.lk = true ∧ b.tk = true) := by
  cases a <;> cases b <;> simp_all [Class.clash, Class.tk, Class.lk]
theorem call_class {P : Program} {o : Oper} {g : Operand} {args : Array Operand} {ats : Array TypeId} (ho : o.op = .call { callee := .value g, args := args, argTypes := ats }) : (classOf P o.op).lk = true ∧ classOf P o.op ≠ .writes ∧ (bytesFirst P ats = true → (classOf P o.op).tk = true) := by
  rw [ho]
  simp only [classOf]
  cases bytesFirst P ats <;> simp [Class.lk, Class.tk]
theorem step1_does {C : Cfg} {H : Hd} {Y : Yd σ} {all : List Oper} {o : Oper} {st st' : St σ} (e : step1 C H Y true all o st = some (.normal, st')) : ∃ v, Does C H Y all o st st' v := by
  have e0 := e
  unfold step1 at e
  split at e
  · rename_i hw
    unfold evOp at e
    split at e
    · rename_i g args ats ho
      obtain ⟨c1, c2, c3⟩ := call_class (P := C.P) ho
      split at e
      · rename_i f first caps hg
        dsimp only at e
        split at e
        · rename_i gd hodd
          split at e
          · cases e
          rename_i hq
          split at e
          · rename_i v b t hrun
            by_cases hqt : gd.quiet = true
            · obtain ⟨hb, ht⟩ := gd.calm hqt _ _ _ _ _ _ hrun
              subst hb; subst ht
              cases e
              refine ⟨v, rfl, rfl, fun _ => rfl, fun _ => rfl, fun st2 h1 h2 h3 h4 h5 => ?_⟩
              obtain ⟨e5, e6⟩ := h5 c1
              have hop := operand_agree h1
              have hargs : args.toList.map (operand st2.env) = args.toList.map (operand st.env) := map_congr' (fun x hx => hop x (by simp at hx; simp [ho, Op.operands, Call.operands, hx]))
              have hgg : operand st2.env g = operand st.env g := hop g (by simp [ho, Op.operands, Call.operands])
              unfold step1
              rw [wanted_agree h1, hw]
              rw [ho] at c2
              simp only [evOp, ho, hgg, hg, hargs, hodd, hqt, e5, e6, hrun]
              rw [if_neg c2]
              simp
            · have hk : gd.tok = true ∧ bytesFirst C.P ats = true := by simpa [hqt] using hq
              have hb := gd.still hk.1 _ _ _ _ _ _ hrun
              have htk := c3 hk.2
              subst hb
              cases e
              refine ⟨v, rfl, rfl, fun _ => rfl, fun h => (by rw [htk] at h; cases h), fun st2 h1 h2 h3 h4 h5 => ?_⟩
              obtain ⟨e5, e6⟩ := h5 c1
              have hop := operand_agree h1
              have hargs : args.toList.map (operand st2.env) = args.toList.map (operand st.env) := map_congr' (fun x hx => hop x (by simp at hx; simp [ho, Op.operands, Call.operands, hx]))
              have hgg : operand st2.env g = operand st.env g := hop g (by simp [ho, Op.operands, Call.operands])
              unfold step1
              rw [wanted_agree h1, hw]
              rw [ho] at c2 htk
              simp only [evOp, ho, hgg, hg, hargs, hodd, hk.1, hk.2, e5, e6, hrun]
              rw [if_neg c2, if_pos htk]
              simp
          · cases e
        rename_i hodd
        split at e
        · simp at e
        rename_i hth
        generalize hr : tryPure C H f (first ++ args.toList.map (operand st.env) ++ caps) = pc at e
        cases pc with
        | none => simp at e
        | some r =>
          simp only [Option.some.injEq, Prod.mk.injEq, true_and] at e
          subst e
          refine ⟨r.av, rfl, rfl, fun _ => rfl, fun _ => rfl, fun st2 h1 h2 h3 h4 h5 => ?_⟩
          have hop := operand_agree h1
          have hargs : args.toList.map (operand st2.env) = args.toList.map (operand st.env) := map_congr' (fun x hx => hop x (by simp at hx; simp [ho, Op.operands, Call.operands, hx]))
          have hgg : operand st2.env g = operand st.env g := hop g (by simp [ho, Op.operands, Call.operands])
          unfold step1
          rw [wanted_agree h1, hw]
          simp only [evOp, ho, hgg, hg, hargs, hodd]
          rw [if_neg hth]
          simp only [hr]
          rw [ho] at c2
          rw [if_neg c2]
          obtain ⟨e5, e6⟩ := h5 c1
          rw [e6]
          simp
      · simp at e
      · cases e
    · simp at e
    · rename_i hne1 hne2
      dsimp only at e
      split at e
      · rename_i v hgl
        simp only [Option.some.injEq, Prod.mk.injEq, true_and] at e
        subst e
        refine ⟨v, rfl, rfl, fun _ => rfl, fun _ => rfl, fun st2 h1 h2 h3 h4 h5 => ?_⟩
        have hcl : classOf C.P o.op = .reads := by
          unfold globLoad at hgl
          split at hgl
          · rename_i ho; rw [ho]; rfl
          · cases hgl
        unfold step1
        rw [wanted_agree h1, hw]
        simp only
        unfold evOp
        split
        · rename_i ho; exact (hne1 _ _ _ ho).elim
        · rename_i ho; exact (hne2 _ ho).elim
        · simp only [globLoad_agree (operand_agree h1), hgl, hcl]
          rfl
      rename_i hgn
      split at e
      · rename_i v b t hp
        have hsk := plainOf_skip hp
        have hp := plainOf_some hp
        simp only [Option.some.injEq, Prod.mk.injEq, true_and] at e
        subst e
        obtain ⟨q1, q2, _⟩ := plain_to (b2 := st.boxes) (k2 := st.toks) hp (fun _ _ => rfl) (fun _ _ _ _ h => h) (fun _ => rfl) (fun _ => rfl)
        have hnc : classOf C.P o.op ≠ .calls := by
          intro h
          unfold classOf at h
          split at h <;> first | (cases h; done) | skip
          rename_i ho
          exact (hne1 _ _ _ ho).elim
        have htk : ∀ h : (classOf C.P o.op).tk = true, classOf C.P o.op = .toks := fun h => by
          cases hc : classOf C.P o.op <;> rw [hc] at h hnc <;> first | rfl | (cases h; done) | exact (hnc rfl).elim
        refine ⟨v, rfl, rfl, q1, fun h => q2 (Class.tk_ne h).1, fun st2 h1 h2 h3 h4 h5 => ?_⟩
        obtain ⟨_, _, q3⟩ := plain_to (b2 := st2.boxes) (k2 := st2.toks) hp (operand_agree h1) h2 h3 (fun h => h4 (by rw [h]; rfl))
        have hif : (if classOf C.P o.op = .toks then t else st2.toks) = (if (classOf C.P o.op).tk = true then t else st2.toks) := by
          by_cases h : (classOf C.P o.op).tk = true
          · rw [if_pos h, if_pos (htk h)]
          · rw [if_neg h, if_neg (fun e => h (by rw [e]; rfl))]
        rw [hif] at q3
        unfold step1
        rw [wanted_agree h1, hw]
        simp only
        unfold evOp
        split
        · rename_i ho; exact (hne1 _ _ _ ho).elim
        · rename_i ho; exact (hne2 _ ho).elim
        · simp only [globLoad_agree (operand_agree h1), hgn, plainOf_eq hsk, q3]
      · cases e
  · rename_i hw
    cases e
    refine ⟨.tup [], rfl, rfl, fun _ => rfl, fun _ => rfl, fun st2 h1 h2 h3 h4 h5 => ?_⟩
    unfold step1
    rw [wanted_agree h1, hw]
    simp only [Option.some.injEq, Prod.mk.injEq, true_and]
    obtain ⟨e2, b2, t2, s2⟩ := st2
    simp only at h3 h4
    congr 1
    · split
      · rename_i h; exact h3 h
      · rfl
    · split
      · rename_i h; exact h4 h
      · rfl
  · cases e
theorem notIn {l : List Nat} {t : Nat} (h : (!l.contains t) = true) : t ∉ l := by simpa using h
theorem putA_getD {env : List AV} {d : Option Tmp} {v : AV} {t : Nat} (h : ∀ u, d = some u → u ≠ t) : (putA env d v).getD t .undef = env.getD t .undef := by
  cases d with
  | none => rfl
  | some u => exact getD_set_ne (h u rfl)
theorem putA_comm {env : List AV} {d d' : Option Tmp} {v v' : AV} (h : ∀ t u, d = some t → d' = some u → t ≠ u) : putA (putA env d' v') d v = putA (putA env d v) d' v' := by
  cases d with
  | none => rfl
  | some t =>
    cases d' with
    | none => rfl
    | some u => exact List.set_comm _ _ (h t u rfl rfl).symm
theorem splice_get : ∀ (vs cs : List AV) (off j : Nat), (j < off ∨ off + vs.length ≤ j) → (splice cs off vs)[j]? = cs[j]?
  | [], _, _, _, _ => rfl
  | v :: r, cs, off, j, h => by
    simp only [splice]
    rw [splice_get r _ (off + 1) j (by simp at h; omega), List.getElem?_set_ne (by simp at h; omega)]
theorem partA_far {t : TypeId} {cs vs : List AV} {off o : Nat} (h : o + max 1 (P.cellsOf t) ≤ off ∨ off + vs.length ≤ o) : partA P t (splice cs off vs) o = partA P t cs o := by
  unfold partA
  split
  · rfl
  · split
    · rw [length_splice]
      split
      · congr 1
        apply congrArg mkAgg
        apply List.ext_getElem?
        intro j
        rw [List.getElem?_take, List.getElem?_take]
        split
        · rw [List.getElem?_drop, List.getElem?_drop, splice_get _ _ _ _ (by omega)]
        · rfl
      · rfl
    · exact splice_get _ _ _ _ (by omega)
theorem load_store {t t' : TypeId} {p q x : AV} {b b' : List Box} {k k' : List Nat} {v : AV} (hs : evStore P t' x b k q = some (v, b', k')) (hf : offOf p (max 1 (P.cellsOf t)) q (P.cellsOf t') = true) : evLoad P t b' p = evLoad P t b p := by
  unfold evStore at hs
  split at hs
  · rename_i i off
    split at hs
    · rename_i cs vs hb hv
      split at hs
      · rename_i hc
        cases hs
        cases p with
        | ptr b1 o1 =>
          simp only [offOf] at hf
          unfold evLoad
          simp only
          by_cases hi : i = b1
          · subst hi
            have hl : i < b.length := (List.getElem?_eq_some_iff.1 hb).1
            rw [hb]
            simp only [hl, List.getElem?_set_self]
            refine partA_far ?_
            simp at hf
            omega
          · rw [List.getElem?_set_ne hi]
        | ept x o => rfl
        | _ => simp [offOf] at hf
      · cases hs
    · cases hs
  · cases p <;> simp [offOf] at hf
  · cases hs
theorem load_app {t : TypeId} {p : AV} {b l : List Box} {r : AV} (h : evLoad P t b p = some r) : evLoad P t (b ++ l) p = some r := by
  have hg : ∀ i bx, b[i]? = some bx → (b ++ l)[i]? = some bx := fun i bx e => by
    rw [List.getElem?_append_left (List.getElem?_eq_some_iff.1 e).1]; exact e
  cases p with
  | ptr i off =>
    unfold evLoad at h ⊢
    simp only at h ⊢
    cases hb : b[i]? with
    | none => rw [hb] at h; cases h
    | some bx => rw [hb] at h; rw [hg i bx hb]; exact h
  | rpt i z k off =>
    unfold evLoad at h ⊢
    simp only at h ⊢
    cases hb : b[i]? with
    | none => rw [hb] at h; cases h
    | some bx => rw [hb] at h; rw [hg i bx hb]; exact h
  | _ => exact h
theorem commute {C : Cfg} {H : Hd} {Y : Yd σ} {all : List Oper} {a b : Oper} {st st1 st2 : St σ} (ha : step1 C H Y true all a st = some (.normal, st1)) (hb : step1 C H Y true all b st1 = some (.normal, st2)) (hd : apartD all a b = true)
    (hc : (classOf C.P a.op).clash (classOf C.P b.op) = false ∨
      (∃ t x t' y z, a.op = .load t x ∧ b.op = .store t' y z ∧ offOf (operand st.env x) (max 1 (C.P.cellsOf t)) (operand st.env y) (C.P.cellsOf t') = true) ∨
      (∃ t x t' y z, a.op = .store t' y z ∧ b.op = .load t x ∧ offOf (operand st.env x) (max 1 (C.P.cellsOf t)) (operand st.env y) (C.P.cellsOf t') = true) ∨
      (∃ t x t', a.op = .load t x ∧ b.op = .alloc t')) :
    ∃ st1', step1 C H Y true all b st = some (.normal, st1') ∧ step1 C H Y true all a st1' = some (.normal, st2) := by
  have X : ¬ (classOf C.P a.op = .writes ∧ classOf C.P b.op = .writes) ∧ ¬ ((classOf C.P a.op).tk = true ∧ (classOf C.P b.op).tk = true) ∧ ¬ (classOf C.P a.op = .writes ∧ (classOf C.P b.op).lk = true) ∧ ¬ ((classOf C.P a.op).tk = true ∧ (classOf C.P b.op).lk = true) ∧ ¬ ((classOf C.P a.op).lk = true ∧ classOf C.P b.op = .writes) ∧ ¬ ((classOf C.P a.op).lk = true ∧ (classOf C.P b.op).tk = true) := by
    rcases hc with hc | ⟨t1, x1, t2, y, z, q1, q2, _⟩ | ⟨t1, x1, t2, y, z, q1, q2, hf⟩ | ⟨t1, x1, t2, q1, q2⟩
    · exact Class.facts hc
    all_goals (rw [q1, q2]; simp [classOf, Class.tk, Class.lk])
  have nt : ∀ {x : Class}, ¬ x.tk = true → x.tk = false := fun h => by simpa using h
  obtain ⟨va, ea, sa, ba, ka, ga⟩ := step1_does ha
  obtain ⟨vb, eb, sb, bb, kb, gb⟩ := step1_does hb
  simp only [apartD, Bool.and_eq_true] at hd
  obtain ⟨hd1, hd2⟩ := hd
  have hab : ∀ t, a.dst = some t → t ∉ looks all b := fun t e => by
    simp only [e, Bool.and_eq_true] at hd1; exact notIn hd1.1
  have hne : ∀ t u, a.dst = some t → b.dst = some u → t ≠ u := fun t u e1 e2 => by
    simp only [e1, e2, Bool.and_eq_true] at hd1; simpa using hd1.2
  have hba : ∀ t, b.dst = some t → t ∉ looks all a := fun t e => by
    simp only [e] at hd2; exact notIn hd2
  have hlb : ∀ t ∈ looks all b, st.env.getD t .undef = st1.env.getD t .undef := fun t ht => by
    rw [ea, putA_getD (fun u e1 e2 => hab u e1 (e2 ▸ ht))]
  have h1 := gb st hlb (fun t x r hx hr => by
      refine Eq.trans ?_ hr
      by_cases hw : classOf C.P a.op = .writes
      · have hwr : (classOf C.P b.op) = .reads := by rw [hx]; rfl
        rcases hc with hc | ⟨t1, x1, t2, y, z, q1, q2, _⟩ | ⟨t1, x1, t2, y, z, q1, q2, hf⟩ | ⟨t1, x1, t2, q1, q2⟩
        · rw [hw, hwr] at hc; cases hc
        · rw [q2] at hx; cases hx
        rotate_left
        · rw [q2] at hx; cases hx
        · rw [q2] at hx; cases hx
          have hox : operand st1.env x = operand st.env x := (operand_agree hlb x (by simp [q2, Op.operands])).symm
          rw [hox]
          have hs := ha
          unfold step1 at hs
          split at hs
          · simp only [evOp, globLoad, q1, plainOf, skipPlain, cond_false, evPlain] at hs
            split at hs
            · rename_i v b' t' hst
              cases hs
              exact (load_store hst hf).symm
            · cases hs
          · cases hs; rfl
          · cases hs
      · rw [ba hw]) (fun hw => (ba (fun e => X.1 ⟨e, hw⟩)).symm) (fun hw => (ka (nt fun e => X.2.1 ⟨e, hw⟩)).symm) (fun hw => ⟨(ba (fun e => X.2.2.1 ⟨e, hw⟩)).symm, (ka (nt fun e => X.2.2.2.1 ⟨e, hw⟩)).symm⟩)
  refine ⟨_, h1, ?_⟩
  have h2 := ga { env := putA st.env b.dst vb, boxes := if classOf C.P b.op = .writes then st2.boxes else st.boxes, toks := if (classOf C.P b.op).tk = true then st2.toks else st.toks, s := st.s } (fun t ht => by
      simp only
      rw [putA_getD (fun u e1 e2 => hba u e1 (e2 ▸ ht))]) (fun t x r hx hr => by
      simp only
      split
      · rename_i hw
        rcases hc with hc | ⟨t1, x1, t2, y, z, q1, q2, hf⟩ | ⟨t1, x1, t2, y, z, q1, q2, hf⟩ | ⟨t1, x1, t2, q1, q2⟩
        · rw [hw, hx] at hc; cases hc
        rotate_right
        · 
          rw [q1] at hx; cases hx
          have hs := hb
          unfold step1 at hs
          have hba' : st1.boxes = st.boxes := ba (by rw [q1]; simp [classOf])
          split at hs
          · simp only [evOp, globLoad, q2, plainOf, skipPlain, cond_false, evPlain, evAlloc] at hs
            split at hs
            · rename_i v b' t' hst
              cases hs
              split at hst
              · cases hst
                rw [hba']
                exact load_app hr
              · cases hst
            · cases hs
          · cases hs
            simp only
            rw [hba']; exact hr
          · cases hs
        · rw [q1] at hx; cases hx
          have hs := hb
          unfold step1 at hs
          have hoy : operand st1.env y = operand st.env y := (operand_agree hlb y (by simp [q2, Op.operands])).symm
          split at hs
          · simp only [evOp, globLoad, q2, plainOf, skipPlain, cond_false, evPlain] at hs
            split at hs
            · rename_i v b' t' hst
              cases hs
              rw [hoy, ba (by rw [q1]; simp [classOf])] at hst
              exact (load_store hst hf).trans hr
            · cases hs
          · cases hs; simp only; rw [ba (by rw [q1]; simp [classOf])]; exact hr
          · cases hs
        · rw [q1] at hx; cases hx
      · exact hr) (fun hw => by
      simp only
      rw [if_neg (fun e => X.1 ⟨hw, e⟩)]) (fun hw => by
      simp only
      rw [if_neg (fun e => X.2.1 ⟨hw, e⟩)]) (fun hw => by
      simp only
      rw [if_neg (fun e => X.2.2.2.2.1 ⟨hw, e⟩), if_neg (fun e => X.2.2.2.2.2 ⟨hw, e⟩)]
      exact ⟨rfl, rfl⟩)
  rw [h2]
  simp only [Option.some.injEq, Prod.mk.injEq, true_and]
  obtain ⟨e2, b2, t2, s2⟩ := st2
  simp only at *
  subst eb
  congr 1
  · rw [ea, putA_comm (fun t u e1 e2 => (hne t u e1 e2))]
  · by_cases hwa : classOf C.P a.op = .writes
    · rw [if_pos hwa]
      by_cases hwb : classOf C.P b.op = .writes
      · exact (X.1 ⟨hwa, hwb⟩).elim
      · exact (bb hwb).symm
    · rw [if_neg hwa]
      split
      · rfl
      · rename_i hwb; rw [bb hwb, ba hwa]
  · by_cases hwa : (classOf C.P a.op).tk = true
    · rw [if_pos hwa]
      by_cases hwb : (classOf C.P b.op).tk = true
      · exact (X.2.1 ⟨hwa, hwb⟩).elim
      · exact (kb (nt hwb)).symm
    · rw [if_neg hwa]
      split
      · rfl
      · rename_i hwb; rw [kb (nt hwb), ka (nt hwa)]
  · rw [sb, sa]
end Ev
