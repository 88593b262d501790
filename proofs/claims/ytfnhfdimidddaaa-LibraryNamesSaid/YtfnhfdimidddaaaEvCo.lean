/- A function without arguments, told by what it once answered. -/
import Derived.Test.YtfnhfdimidddaaaEvF
set_option linter.unusedSimpArgs false
set_option linter.unusedVariables false
namespace Ev
open Go
variable {P : Program} {glob : Nat → Option (List D)}

def constE (v0 : AV) (b0 : List Box) (t0 : List Nat) : OddE where
  run := fun as bs ts k => match as with
    | [] => k (v0.ren (backIdx [] bs.length) (backIdx [] ts.length)) (merge bs [] (b0.map (Box.ren (backIdx [] bs.length) (backIdx [] ts.length))) ((v0.refs ++ (b0.take 0).flatMap Box.refs).any (0 ≤ ·))) (merge ts [] t0 ((v0.tks ++ (if (v0.refs ++ (b0.take 0).flatMap Box.refs).any (0 ≤ ·) then b0 else b0.take 0).flatMap Box.tks).any (0 ≤ ·)))
    | _ => none
  fair := by
    intro β as bs ts k r h
    cases as with
    | nil => exact ⟨_, _, _, rfl, h⟩
    | cons a as => cases h
theorem lentB_nil (bs : List Box) : lentB [] bs = [] := by
  unfold lentB
  simp only [refsL, addNew]
  unfold reach
  simp [addNew]
theorem constE_sound {C : Cfg} (hC : C.P = P ∧ C.glob = glob ∧ OddSound P glob C.odd) (hm : P.follows .mixedOrders = true) (hX : ExtSound P glob C.ext) {k : Nat} {f : FuncId} {v0 : AV} {b0 : List Box} {t0 : List Nat}
    (hv : evFn C k Unit noY f [] [] [] () = some (.ret v0, b0, t0, ())) : OddSound P glob (fun g => bif Nat.beq g f then some (constE v0 b0 t0) else C.odd g) := by
  intro g e hg args boxes toks v b' t' hrun
  dsimp only at hg
  cases hb : Nat.beq g f with
  | false =>
    rw [hb, cond_false] at hg
    exact hC.2.2 g e hg args boxes toks v b' t' hrun
  | true =>
    rw [hb, cond_true] at hg
    cases hg
    have hgf := Nat.eq_of_beq_eq_true hb
    subst hgf
    cases args with
    | cons a as => cases hrun
    | nil =>
      have q1 : lend (evFn C k) Unit noY g [] boxes toks () = some (v, b', t', ()) := by
        cases hrun
        have hlo : lendOk [] [] [] ([] : List Box) boxes toks = true := rfl
        unfold lend
        rw [lentB_nil]
        show (if lendOk [] [] [] ([] : List Box) boxes toks = true then _ else none) = _
        rw [if_pos hlo]
        have hv' : evFn C k Unit noY g (renL (fun x => indexOf x []) (fun x => indexOf x (lentT [] (List.map (fun i => boxes.getD i Box.gone) []))) []) (List.map (Box.ren (fun x => indexOf x []) fun x => indexOf x (lentT [] (List.map (fun i => boxes.getD i Box.gone) []))) (List.map (fun i => boxes.getD i Box.gone) [])) (List.map (fun t => toks.getD t 0) (lentT [] (List.map (fun i => boxes.getD i Box.gone) []))) () = some (.ret v0, b0, t0, ()) := hv
        rw [hv']
        rfl
      have hfs : HSound P glob (evFn C k) := fn_sound hC hm hX k
      obtain ⟨he, hp⟩ := lend_sound hfs Unit noY Held.none _ _ _ _ _ _ _ _ _ q1
      refine ⟨he, fun c w us hgl ht hW hA => ?_⟩
      refine Calls.mono (hp c w (fun _ => False) us ht ⟨hW, fun _ h => h, fun _ h => h.elim⟩ hA ⟨hgl, fun l hl => ?_⟩) ?_
      · intro ds s b s' e
        cases e
      rintro e' w' ⟨c', X', u, rfl, hG, hE, ht', hv⟩
      exact ⟨c', u, rfl, hG.ok, ⟨hE.le, hE.os, hE.tape, hE.output, hE.size, fun k hk ho => hE.keep k hk ho (fun h => h), hE.new, fun b o h0 h1 => (hE.ronew b o h0 h1).elim .inl (fun q => q.elim (fun q => q.elim) .inr), hE.dead⟩, ht', hv⟩

/-! ### .. of which some cells are forgotten -/
/-- The second knows less. -/
def lessA : AV → AV → Bool
  | _, .undef => true
  | _, _ => false
inductive Less : List AV → List AV → Prop where
  | nil : Less [] []
  | same {xs ys : List AV} (x : AV) : Less xs ys → Less (x :: xs) (x :: ys)
  | less {xs ys : List AV} (x : AV) : Less xs ys → Less (x :: xs) (.undef :: ys)
theorem Less.cells {c : Cx} {xs ys : List AV} (h : Less xs ys) : ∀ {us : List Value}, ACells c xs us → ACells c ys us := by
  induction h with
  | nil => intro us h; exact h
  | same x _ ih =>
    intro us h
    obtain ⟨u, us', e, h0, h1, h2⟩ := h
    exact ⟨u, us', e, h0, h1, ih h2⟩
  | less x _ ih =>
    intro us h
    obtain ⟨u, us', e, h0, h1, h2⟩ := h
    exact ⟨u, us', e, h0, by simp only [ARel], ih h2⟩
theorem Less.ren {b t : Nat → Nat} {xs ys : List AV} (h : Less xs ys) : Less (renL b t xs) (renL b t ys) := by
  induction h with
  | nil => exact .nil
  | same x _ ih => exact .same _ ih
  | less x _ ih => simp only [renL, AV.ren]; exact .less _ ih
/-- The cells that are kept. -/
def dropA : List Bool → List AV → List AV
  | k :: ks, x :: xs => (bif k then x else .undef) :: dropA ks xs
  | [], xs => xs
  | _ :: _, [] => []
theorem dropA_less : ∀ (ks : List Bool) (xs : List AV), Less xs (dropA ks xs)
  | [], [] => .nil
  | [], x :: xs => .same x (dropA_less [] xs)
  | _ :: _, [] => .nil
  | true :: ks, x :: xs => .same x (dropA_less ks xs)
  | false :: ks, x :: xs => .less x (dropA_less ks xs)
theorem dropA_ren {b t : Nat → Nat} : ∀ (ks : List Bool) (xs : List AV), renL b t (dropA ks xs) = dropA ks (renL b t xs)
  | [], _ => by simp [dropA]
  | _ :: _, [] => rfl
  | true :: ks, x :: xs => by simp only [dropA, renL, cond_true]; rw [dropA_ren ks xs]
  | false :: ks, x :: xs => by simp only [dropA, renL, cond_false, AV.ren]; rw [dropA_ren ks xs]
/-- A variable and what lies in it; what of it is kept. -/
def constW (v0 : AV) (cs1 : List AV) (t0 : List Nat) : OddE where
  run := fun as bs ts k => match as with
    | [] => k (v0.ren (backIdx [] bs.length) (backIdx [] ts.length)) (bs ++ [Box.ren (backIdx [] bs.length) (backIdx [] ts.length) (.cells none cs1)]) (ts ++ t0)
    | _ => none
  fair := by
    intro β as bs ts k r h
    cases as with
    | nil => exact ⟨_, _, _, rfl, h⟩
    | cons a as => cases h
theorem constW_sound {C : Cfg} (hC : C.P = P ∧ C.glob = glob ∧ OddSound P glob C.odd) (hm : P.follows .mixedOrders = true) (hX : ExtSound P glob C.ext) {k : Nat} {f : FuncId} {v0 : AV} {cs0 : List AV} {t0 : List Nat} (ks : List Bool)
    (hv : evFn C k Unit noY f [] [] [] () = some (.ret v0, [.cells none cs0], t0, ())) (hr : v0.refs.any (0 ≤ ·) = true) (ht0 : (tksL cs0).any (0 ≤ ·) = true) : OddSound P glob (fun g => bif Nat.beq g f then some (constW v0 (dropA ks cs0) t0) else C.odd g) := by
  intro g e hg args boxes toks v b' t' hrun
  dsimp only at hg
  cases hb : Nat.beq g f with
  | false =>
    rw [hb, cond_false] at hg
    exact hC.2.2 g e hg args boxes toks v b' t' hrun
  | true =>
    rw [hb, cond_true] at hg
    cases hg
    have hgf := Nat.eq_of_beq_eq_true hb
    subst hgf
    cases args with
    | cons a as => cases hrun
    | nil =>
      have hc : OddSound P glob (fun x => bif Nat.beq x g then some (constE v0 [.cells none cs0] t0) else C.odd x) := constE_sound hC hm hX hv
      have hke : ((v0.refs ++ ([Box.cells none cs0].take 0).flatMap Box.refs).any (0 ≤ ·)) = true := by simp only [List.any_append, hr, Bool.true_or]
      have hkt : ((v0.tks ++ (if (v0.refs ++ ([Box.cells none cs0].take 0).flatMap Box.refs).any (0 ≤ ·) then [Box.cells none cs0] else [Box.cells none cs0].take 0).flatMap Box.tks).any (0 ≤ ·)) = true := by
        rw [if_pos hke, List.any_append]
        have : (List.flatMap Box.tks [Box.cells none cs0]) = tksL cs0 := by simp [Box.tks]
        rw [this, ht0, Bool.or_true]
      obtain ⟨he, hp⟩ := hc g (constE v0 [.cells none cs0] t0) (by dsimp only; rw [hb, cond_true]) [] boxes toks _ _ _ rfl
      cases hrun
      refine ⟨he, fun c w us hgl ht hW hA => ?_⟩
      refine Calls.mono (hp c w us hgl ht hW hA) ?_
      rintro e' w' ⟨c', u, rfl, hW', hE', ht', hv'⟩
      rw [hkt] at ht'
      rw [hke] at hW'
      refine ⟨c', u, rfl, ?_, hE', by rw [ht']; simp [merge, putBack], hv'⟩
      have hm1 : merge boxes [] ([Box.cells none cs0].map (Box.ren (backIdx [] boxes.length) (backIdx [] toks.length))) true = boxes ++ [Box.ren (backIdx [] boxes.length) (backIdx [] toks.length) (.cells none cs0)] := by simp [merge, putBack]
      rw [hm1] at hW'
      refine ⟨hW'.ro, by rw [hW'.len]; simp, fun i bx k hi hk => ?_, hW'.nodup, hW'.lt, hW'.robox, hW'.tlen, hW'.tok, hW'.tdis, hW'.tbox, fun k hk => ?_⟩
      · by_cases hlt : i < boxes.length
        · rw [List.getElem?_append_left hlt] at hi
          exact hW'.box i bx k (by rw [List.getElem?_append_left hlt]; exact hi) hk
        · have hl : i = boxes.length := by
            have := (List.getElem?_eq_some_iff.1 hi).1
            simp at this; omega
          subst hl
          simp at hi
          subst hi
          have hb0 := hW'.box boxes.length (Box.ren (backIdx [] boxes.length) (backIdx [] toks.length) (.cells none cs0)) k (by rw [List.getElem?_append_right (Nat.le_refl _)]; simp) hk
          simp only [Box.ren, BoxRel] at hb0 ⊢
          obtain ⟨us, rest, el, q1, q2, q3⟩ := hb0
          exact ⟨us, rest, el, q1, (by rw [dropA_ren]; exact (dropA_less ks _).cells q2), q3⟩
      · obtain ⟨i, h1, h2⟩ := hW'.dead k hk
        have hlt : i < boxes.length := by
          rcases Nat.lt_or_ge i boxes.length with q | q
          · exact q
          · rw [List.getElem?_append_right q] at h2
            have : i - boxes.length = 0 := by
              have := (List.getElem?_eq_some_iff.1 h2).1
              simpa using this
            rw [this] at h2
            simp [Box.ren] at h2
        exact ⟨i, h1, by rw [List.getElem?_append_left hlt] at h2 ⊢; exact h2⟩

/-! ### a function of one text that hands out a row, told by a list of what it answers -/
/-- Two texts are one. -/
def eqL : List UInt8 → List UInt8 → Bool
  | [], [] => true
  | a :: x, b :: y => Nat.beq a.toNat b.toNat && eqL x y
  | _, _ => false
theorem eqL_eq : ∀ {x y : List UInt8}, eqL x y = true → x = y
  | [], [], _ => rfl
  | a :: x, b :: y, h => by
    simp only [eqL, Bool.and_eq_true] at h
    rw [eqL_eq h.2, UInt8.toNat_inj.1 (Nat.eq_of_beq_eq_true h.1)]
structure OpsR where
  name : List UInt8
  ops : List D
  code : Int
def findR (s : List UInt8) : List OpsR → Option OpsR
  | [] => none
  | r :: rs => bif eqL s r.name then some r else findR s rs
theorem findR_mem {s : List UInt8} : ∀ {rs : List OpsR} {r : OpsR}, findR s rs = some r → r ∈ rs ∧ s = r.name
  | q :: rs, r, h => by
    simp only [findR] at h
    cases hq : eqL s q.name with
    | true => rw [hq] at h; cases h; exact ⟨by simp, eqL_eq hq⟩
    | false => rw [hq] at h; obtain ⟨h1, h2⟩ := findR_mem h; exact ⟨List.mem_cons_of_mem _ h1, h2⟩
def OpsR.out (r : OpsR) (bs : List Box) : AV × List Box := match r.ops with
  | [] => (.tup [.nsl, .d (.val (.int .i64 r.code))], bs)
  | _ => (.tup [.msl bs.length r.ops.length 1, .d (.val (.int .i64 r.code))], bs ++ [.cells none (r.ops.map .d)])
def opsE (rs : List OpsR) : OddE where
  run := fun as bs ts k => match as with
    | [.d (.val (.string s))] => match findR s.data.toList rs with
      | some r => k (r.out bs).1 (r.out bs).2 ts
      | none => none
    | _ => none
  fair := by
    intro β as bs ts k r h
    split at h
    · split at h
      · rename_i q hq
        exact ⟨_, _, _, by simp only [hq], h⟩
      · cases h
    · cases h
theorem opsE_sound {C : Cfg} (hC : C.P = P ∧ C.glob = glob ∧ OddSound P glob C.odd) (hm : P.follows .mixedOrders = true) (hX : ExtSound P glob C.ext) {k : Nat} {f : FuncId} {rs : List OpsR}
    (hv : ∀ r ∈ rs, ∀ bs, thawCall (evFn C k) f [.val (.string ⟨⟨r.name⟩⟩)] bs = some (r.out bs)) : OddSound P glob (fun g => bif Nat.beq g f then some (opsE rs) else C.odd g) := by
  intro g e hg args boxes toks v b' t' hrun
  dsimp only at hg
  cases hb : Nat.beq g f with
  | false =>
    rw [hb, cond_false] at hg
    exact hC.2.2 g e hg args boxes toks v b' t' hrun
  | true =>
    rw [hb, cond_true] at hg
    cases hg
    have hgf := Nat.eq_of_beq_eq_true hb
    subst hgf
    simp only [opsE] at hrun
    split at hrun
    case h_2 => cases hrun
    rename_i s
    split at hrun
    case h_2 => cases hrun
    rename_i r hr
    obtain ⟨h1, h2⟩ := findR_mem hr
    have hs : s = ⟨⟨r.name⟩⟩ := by rw [← h2]
    cases hrun
    have hth := hv r h1 boxes
    have hfs : HSound P glob (evFn C k) := fn_sound hC hm hX k
    obtain ⟨he, hp⟩ := thaw_sound (σ := Unit) hfs (v := (r.out boxes).1) (b' := (r.out boxes).2) hth
    refine ⟨he, fun c w us hgl ht hW hA => ?_⟩
    refine Calls.mono (hp Held.none () c w (fun _ => False) us ⟨hW, fun _ h => h, fun _ h => h.elim⟩ hgl (DArgs.of hA (by rw [hs]; rfl))) ?_
    rintro e' w' ⟨c', u, rfl, hG, hE, ht', hv⟩
    exact ⟨c', u, rfl, hG.ok, ⟨hE.le, hE.os, hE.tape, hE.output, hE.size, fun k hk ho => hE.keep k hk ho (fun h => h), hE.new, fun b o h0 h1 => (hE.ronew b o h0 h1).elim .inl (fun q => q.elim (fun q => q.elim) .inr), hE.dead⟩, ht'.trans ht, hv⟩

/-! ### a function of one text that answers a row and a number, told by a list -/
def opsX (rs : List OpsR) (ds : List D) : Option PR := match ds with
  | [.val (.string s)] => match findR s.data.toList rs with
    | some r => some (.many [.slice r.ops, .val (.int .i64 r.code)])
    | none => none
  | _ => none
theorem opsX_sound {C : Cfg} (hC : C.P = P ∧ C.glob = glob ∧ OddSound P glob C.odd) (hm : P.follows .mixedOrders = true) (hX : ExtSound P glob C.ext) {k : Nat} {f : FuncId} {rs : List OpsR}
    (hv : ∀ r ∈ rs, pureCall (evFn C k) f [.val (.string ⟨⟨r.name⟩⟩)] = some (.many [.slice r.ops, .val (.int .i64 r.code)])) : ExtSound P glob (fun g => bif Nat.beq g f then some (opsX rs) else C.ext g) := by
  intro g e hg ds r hr
  dsimp only at hg
  cases hb : Nat.beq g f with
  | false =>
    rw [hb, cond_false] at hg
    exact hX g e hg ds r hr
  | true =>
    rw [hb, cond_true] at hg
    cases hg
    have hgf := Nat.eq_of_beq_eq_true hb
    subst hgf
    unfold opsX at hr
    split at hr
    case h_2 => cases hr
    rename_i s
    split at hr
    case h_2 => cases hr
    rename_i q hq
    obtain ⟨h1, h2⟩ := findR_mem hq
    have hs : s = ⟨⟨q.name⟩⟩ := by rw [← h2]
    cases hr
    rw [hs]
    exact pureCall_sound (fn_sound hC hm hX k) (hv q h1)
end Ev
