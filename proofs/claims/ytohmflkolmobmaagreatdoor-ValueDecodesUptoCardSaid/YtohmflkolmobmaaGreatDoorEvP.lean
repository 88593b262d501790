/- What functions of the program compute, as plain Lean functions, each with its proof by a proved reader; plain laws about them (EvP). -/
import Derived.Test.YtohmflkolmobmaaGreatDoorEvW
set_option linter.unusedSimpArgs false
set_option linter.unusedVariables false
namespace Ev
open Go Go.RowKit
theorem semPure_run {P : Program} {α : Type} : ∀ (p : Sem α) {a : α}, semPure P p = some a → ∀ w : World, p.run P w = .ok a w
  | .pure a, b, h, w => by simp only [semPure, Option.some.injEq] at h; subst h; rfl
  | .program k, b, h, w => by simp only [semPure] at h; exact semPure_run (k P) h w
  | .load .., _, h, _ | .store .., _, h, _ | .new .., _, h, _ | .shape .., _, h, _ | .freeze .., _, h, _ | .frozen .., _, h, _ | .getObj .., _, h, _ | .setObj .., _, h, _ | .choose .., _, h, _ | .sys .., _, h, _ | .mark .., _, h, _ | .halt _, _, h, _ => by simp [semPure] at h
theorem cells_one {u : Value} (h : u.oneCell' = true) : u.cells = #[u] := by cases u <;> simp_all [Value.oneCell', Value.cells]
theorem DRel.cells {r : RO} {x : D} {u : Value} (h : DRel r x u) : DRels r x.cells u.cells.toList := by
  cases x with
  | val v =>
    obtain ⟨rfl, ho⟩ := h
    rw [cells_one ho]
    exact ⟨u, [], rfl, ho, ⟨rfl, ho⟩, rfl⟩
  | bytes b =>
    have h' := h
    obtain ⟨A, c, rfl, _⟩ := h
    exact ⟨_, [], rfl, rfl, h', rfl⟩
  | slice es =>
    have h' := h
    simp only [DRel] at h
    obtain ⟨A, c, rfl, _⟩ := h
    exact ⟨_, [], rfl, rfl, h', rfl⟩
  | agg cs =>
    simp only [DRel] at h
    obtain ⟨us, rfl, h⟩ := h
    simpa [D.cells, Value.cells] using h
theorem ACells.of_d {c : Cx} : ∀ {cs : List D} {us : List Value}, DRels c.ro cs us → ACells c (cs.map .d) us
  | [], _, h => h
  | _ :: _, _, h => by
    obtain ⟨u, us', e, ho, h1, h2⟩ := h
    exact ⟨u, us', e, ho, h1, ACells.of_d h2⟩
theorem DRels.length {r : RO} : ∀ {cs : List D} {us : List Value}, DRels r cs us → cs.length = us.length
  | [], us, h => by
    have : us = [] := h
    subst this; rfl
  | _ :: _, _, h => by
    obtain ⟨u, us', rfl, _, _, h2⟩ := h
    simp [DRels.length h2]
theorem ACells.length {c : Cx} : ∀ {cs : List AV} {us : List Value}, ACells c cs us → cs.length = us.length
  | [], us, h => by
    have : us = [] := h
    subst this; rfl
  | _ :: _, _, h => by
    obtain ⟨u, us', rfl, _, _, h2⟩ := h
    simp [ACells.length h2]
theorem ARels.length {c : Cx} : ∀ {cs : List AV} {us : List Value}, ARels c cs us → cs.length = us.length
  | [], us, h => by
    have : us = [] := h
    subst this; rfl
  | _ :: _, _, h => by
    obtain ⟨u, us', rfl, _, h2⟩ := h
    simp [ARels.length h2]
theorem ARel.cells {c : Cx} {x : AV} {u : Value} {cs : List AV} (h : ARel c x u) (hc : x.cells = some cs) : ACells c cs u.cells.toList := by
  have single : ∀ y : AV, y.cells = some [y] → ARel c y u → u.oneCell' = true → y.cells = some cs → ACells c cs u.cells.toList := by
    intro y hy hr ho he
    rw [hy] at he; cases he
    rw [cells_one ho]
    exact ⟨u, [], rfl, ho, hr, rfl⟩
  cases x with
  | d x =>
    have hd : ∀ ds : List D, x.cells = ds → AV.cells (.d x) = some (ds.map .d) := by rintro ds rfl; cases x <;> rfl
    rw [hd _ rfl] at hc; cases hc
    exact ACells.of_d (DRel.cells h)
  | nsl => simp only [ARel] at h; subst h; exact single .nsl rfl rfl rfl hc
  | osl t es => have h' := h; simp only [ARel] at h; rcases h with ⟨b, cap, k, rfl, _⟩ | ⟨_, ⟨A, rfl⟩, _⟩ <;> exact single _ rfl h' rfl hc
  | obs t bs => have h' := h; simp only [ARel] at h; rcases h with ⟨b, cap, rfl, _⟩ | ⟨_, rfl, _⟩ <;> exact single _ rfl h' rfl hc
  | ptr i off => have h' := h; simp only [ARel] at h; obtain ⟨k, _, rfl⟩ := h; exact single _ rfl h' rfl hc
  | ept y off => have h' := h; simp only [ARel] at h; obtain ⟨b, o, v, _, rfl, _⟩ := h; exact single _ rfl h' rfl hc
  | func fn a b => have h' := h; simp only [ARel] at h; obtain ⟨us, vs, rfl, _⟩ := h; exact single _ rfl h' rfl hc
  | ifc t y => have h' := h; simp only [ARel] at h; obtain ⟨v, rfl, _⟩ := h; exact single _ rfl h' rfl hc
  | agg ds =>
    simp only [AV.cells, Option.some.injEq] at hc
    subst hc
    simp only [ARel] at h
    obtain ⟨us, rfl, h⟩ := h
    simpa [Value.cells] using h
  | tup vs => simp [AV.cells] at hc
  | gptr g off => have h' := h; simp only [ARel] at h; subst h; exact single _ rfl h' rfl hc
  | msl i n z => have h' := h; simp only [ARel] at h; obtain ⟨k, cap, _, _, rfl⟩ := h; exact single _ rfl h' rfl hc
  | msb i o n => have h' := h; simp only [ARel] at h; obtain ⟨k, cap, _, _, rfl⟩ := h; exact single _ rfl h' rfl hc
  | mpv i => have h' := h; simp only [ARel] at h; obtain ⟨k, _, rfl⟩ := h; exact single _ rfl h' rfl hc
  | rsb i z o n => have h' := h; simp only [ARel] at h; obtain ⟨k, cap, _, _, rfl⟩ := h; exact single _ rfl h' rfl hc
  | rsl i n z => have h' := h; simp only [ARel] at h; obtain ⟨k, cap, _, _, _, rfl⟩ := h; exact single _ rfl h' rfl hc
  | fsl i t z n => have h' := h; simp only [ARel] at h; obtain ⟨k, cap, rfl, _⟩ := h; exact single _ rfl h' rfl hc
  | rpt i z j off => have h' := h; simp only [ARel] at h; obtain ⟨k, _, rfl⟩ := h; exact single _ rfl h' rfl hc
  | iter i => have h' := h; simp only [ARel] at h; obtain ⟨k, _, rfl⟩ := h; exact single _ rfl h' rfl hc
  | yld => have h' := h; simp only [ARel] at h; obtain ⟨l, _, rfl⟩ := h; exact single _ rfl h' rfl hc
  | undef => simp [AV.cells] at hc
theorem allD_map : ∀ {cs : List AV} {ds : List D}, allD cs = some ds → cs = ds.map .d
  | [], _, h => by simp only [allD, Option.some.injEq] at h; subst h; rfl
  | .d x :: r, _, h => by
    simp only [allD] at h
    split at h
    · rename_i ds e
      cases h
      simp [allD_map e]
    · cases h
  | .nsl :: _, _, h | .osl .. :: _, _, h | .obs .. :: _, _, h | .ptr .. :: _, _, h | .ept .. :: _, _, h | .gptr .. :: _, _, h | .func .. :: _, _, h | .ifc .. :: _, _, h | .agg _ :: _, _, h | .tup _ :: _, _, h | .msl .. :: _, _, h | .rsb .. :: _, _, h | .rsl .. :: _, _, h | .fsl .. :: _, _, h | .rpt .. :: _, _, h | .msb .. :: _, _, h | .mpv .. :: _, _, h | .iter _ :: _, _, h | .yld :: _, _, h | .undef :: _, _, h => by simp [allD] at h
theorem DRels.of_cells {c : Cx} : ∀ {ds : List D} {us : List Value}, ACells c (ds.map .d) us → DRels c.ro ds us
  | [], _, h => h
  | _ :: _, _, h => by
    obtain ⟨u, us', e, ho, h1, h2⟩ := h
    exact ⟨u, us', e, ho, h1, DRels.of_cells h2⟩
theorem mkAgg_rel {c : Cx} {cs : List AV} {us : List Value} (h : ACells c cs us) : ARel c (mkAgg cs) (.agg us.toArray) := by
  unfold mkAgg
  split
  · rename_i ds e
    have := allD_map e
    subst this
    simp only [ARel, DRel]
    exact ⟨us, rfl, DRels.of_cells h⟩
  · simp only [ARel]; exact ⟨us, rfl, h⟩
mutual
theorem ARel.toD {c : Cx} : ∀ (x : AV) {u : Value} {y : D}, ARel c x u → x.toD = some y → DRel c.ro y u
  | .d x, u, y, h, e => by simp only [AV.toD, Option.some.injEq] at e; subst e; exact h
  | .nsl, u, y, h, e => by
    simp only [AV.toD, Option.some.injEq] at e; subst e
    simp only [ARel] at h; subst h
    simp only [DRel]
    exact ⟨none, 0, rfl, Nat.le_refl _, .inl trivial⟩
  | .osl t es, u, y, h, e => by
    simp only [AV.toD, Option.some.injEq] at e; subst e
    simp only [ARel] at h
    simp only [DRel]
    rcases h with ⟨b, cap, k, rfl, hc, ⟨_, hr⟩, _⟩ | ⟨rfl, ⟨A, rfl⟩, _⟩
    · exact ⟨_, cap, rfl, hc, .inr ⟨b, 0, k, rfl, hr⟩⟩
    · exact ⟨A, 0, rfl, Nat.le_refl _, .inl rfl⟩
  | .obs t bs, u, y, h, e => by
    simp only [AV.toD, Option.some.injEq] at e; subst e
    simp only [ARel] at h
    simp only [DRel]
    rcases h with ⟨b, cap, rfl, hc, hr, _⟩ | ⟨h0, rfl, _⟩
    · exact ⟨_, cap, rfl, hc, .inr ⟨b, 0, rfl, fun i x e => by rw [Nat.zero_add]; exact hr i x e⟩⟩
    · exact ⟨none, 0, by rw [h0], by omega, .inl h0⟩
  | .agg cs, u, y, h, e => by
    simp only [AV.toD] at e
    split at e
    · rename_i ds hd
      cases e
      simp only [ARel] at h
      obtain ⟨us, rfl, h⟩ := h
      simp only [DRel]
      exact ⟨us, rfl, ACells.toDs cs h hd⟩
    · cases e
  | .ptr .., _, _, _, e | .ept .., _, _, _, e | .gptr .., _, _, _, e | .func .., _, _, _, e | .ifc .., _, _, _, e | .tup _, _, _, _, e | .msl .., _, _, _, e | .msb .., _, _, _, e | .mpv .., _, _, _, e | .rsb .., _, _, _, e | .rsl .., _, _, _, e | .fsl .., _, _, _, e | .rpt .., _, _, _, e | .iter _, _, _, _, e | .yld, _, _, _, e | .undef, _, _, _, e => by simp [AV.toD] at e
theorem ACells.toDs {c : Cx} : ∀ (xs : List AV) {us : List Value} {ds : List D}, ACells c xs us → toDs xs = some ds → DRels c.ro ds us
  | [], us, ds, h, e => by simp only [Ev.toDs, Option.some.injEq] at e; subst e; exact h
  | x :: xs, us, ds, h, e => by
    simp only [Ev.toDs] at e
    split at e
    · rename_i y ys h1 h2
      cases e
      simp only [ACells] at h
      obtain ⟨u, us', rfl, ho, hx, hr⟩ := h
      exact ⟨u, us', rfl, ho, ARel.toD x hx h1, ACells.toDs xs hr h2⟩
    · cases e
end
theorem ARel.demote {c : Cx} {x : AV} {u : Value} (h : ARel c x u) : ARel c x.demote u := by
  unfold AV.demote
  split
  · rename_i y e; simp only [ARel]; exact ARel.toD x h e
  · exact h
theorem valsOf_rel {r : RO} : ∀ {ds : List D} {us vs : List Value}, DRels r ds us → valsOf ds = some vs → us = vs
  | [], us, vs, h, e => by simp only [valsOf, Option.some.injEq] at e; subst e; exact h
  | .val v :: r, us, vs, h, e => by
    simp only [valsOf] at e
    split at e
    · rename_i ws hw
      cases e
      simp only [DRels] at h
      obtain ⟨u, us', rfl, _, hx, hr⟩ := h
      rw [valsOf_rel hr hw]
      simp only [DRel] at hx
      rw [hx.1]
    · cases e
  | .bytes _ :: _, _, _, _, e | .slice _ :: _, _, _, _, e | .agg _ :: _, _, _, _, e => by simp [valsOf] at e
theorem ARel.toVal {c : Cx} {x : AV} {u v : Value} (h : ARel c x u) (e : x.toVal = some v) : u = v := by
  cases x with
  | d y =>
    simp only [AV.toVal] at e
    cases y with
    | val w => simp only [D.toVal, Option.some.injEq] at e; subst e; exact h.1
    | agg cs =>
      simp only [D.toVal] at e
      split at e
      · rename_i vs hv
        cases e
        simp only [ARel, DRel] at h
        obtain ⟨us, rfl, h⟩ := h
        rw [valsOf_rel h hv]
      · cases e
    | bytes b => simp [D.toVal] at e
    | slice es => simp [D.toVal] at e
  | _ => simp [AV.toVal] at e
theorem DRels.of_vals {r : RO} : ∀ {us : List Value}, us.all Value.oneCell' = true → DRels r (us.map .val) us
  | [], _ => rfl
  | u :: us, h => by
    simp only [List.all_cons, Bool.and_eq_true] at h
    exact ⟨u, us, rfl, h.1, ⟨rfl, h.1⟩, DRels.of_vals h.2⟩
theorem ofVal_rel (c : Cx) (v : Value) : ARel c (ofVal v) v := by
  unfold ofVal
  split
  · rename_i cs
    split
    · rename_i h
      simp only [ARel, DRel]
      exact ⟨cs.toList, by simp, DRels.of_vals h⟩
    · simp only [ARel]
  · simp only [ARel]
  · rename_i h1 h2
    simp only [ARel, DRel]
    cases v <;> simp_all [Value.oneCell']
theorem cellConst_rel (c : Cx) (v : Value) : ARel c (cellConst v) v := by
  cases v with
  | slice A n k =>
    simp only [cellConst]
    split
    · rename_i h
      obtain ⟨h1, rfl, rfl⟩ := h
      simp only [Option.isNone_iff_eq_none] at h1
      subst h1
      simp only [ARel]
    · simp only [ARel]
  | func fn x y =>
    simp only [cellConst]
    split
    · rename_i h
      simp only [Array.isEmpty_iff] at h
      obtain ⟨rfl, rfl⟩ := h
      simp only [ARel, ARels]; exact ⟨[], [], rfl, rfl, rfl⟩
    · simp only [ARel]
  | agg _ => simp only [cellConst, ARel]
  | tuple _ => simp only [cellConst, ARel]
  | _ => simp only [cellConst, ARel, DRel, Value.oneCell', and_self]
theorem ACells.of_consts (c : Cx) : ∀ {us : List Value}, us.all Value.oneCell' = true → ACells c (us.map cellConst) us
  | [], _ => rfl
  | u :: us, h => by
    simp only [List.all_cons, Bool.and_eq_true] at h
    exact ⟨u, us, rfl, h.1, cellConst_rel c u, ACells.of_consts c h.2⟩
theorem ofConst_rel (c : Cx) (v : Value) : ARel c (ofConst v) v := by
  cases v with
  | agg cs =>
    simp only [ofConst]
    split
    · rename_i h
      exact mkAgg_rel (ACells.of_consts c h)
    · simp only [ARel]
  | _ => simp only [ofConst]; exact cellConst_rel c _
theorem ARels.getD {c : Cx} : ∀ {xs : List AV} {us : List Value}, ARels c xs us → ∀ t : Nat, ARel c (xs.getD t .undef) (us.getD t undef)
  | [], _, _, t => by simp [ARel]
  | x :: xs, us, h, t => by
    obtain ⟨u, us', rfl, h1, h2⟩ := h
    cases t with
    | zero => exact h1
    | succ t => exact ARels.getD h2 t
theorem operand_rel {c : Cx} {env : List AV} {a : Act} (h : ARels c env a.tmps.toList) (x : Operand) : ARel c (operand env x) (a.eval x) := by
  cases x with
  | tmp t =>
    have := ARels.getD h t
    simpa [operand, Act.eval, Array.getD_eq_getD_getElem?, List.getD_eq_getElem?_getD] using this
  | const v => exact ofConst_rel c v
  | global g => simp only [operand, ARel]; rfl
  | func f => simp only [operand, ARel, ARels, Act.eval]; exact ⟨[], [], rfl, rfl, rfl⟩
theorem ARels.set {c : Cx} : ∀ {xs : List AV} {us : List Value}, ARels c xs us → ∀ (t : Nat) {x : AV} {u : Value}, ARel c x u → ARels c (xs.set t x) (us.set t u)
  | [], us, h, _, _, _, _ => by
    have : us = [] := h
    subst this; exact rfl
  | x :: xs, us, h, t, y, v, hy => by
    obtain ⟨u, us', rfl, h1, h2⟩ := h
    cases t with
    | zero => exact ⟨v, us', rfl, hy, h2⟩
    | succ t => exact ⟨u, us'.set t v, rfl, h1, ARels.set h2 t hy⟩
theorem putA_rel {c : Cx} {env : List AV} {a : Act} (h : ARels c env a.tmps.toList) (dst : Option Tmp) {x : AV} {u : Value} (hx : ARel c x u) : ARels c (putA env dst x) (a.put dst u).tmps.toList := by
  cases dst with
  | none => exact h
  | some t => simpa [putA, Act.put] using ARels.set h t hx
end Ev
