/- What functions of the program compute, as plain Lean functions, each with its proof by a proved reader; plain laws about them (EvEq). -/
import Derived.Test.YtohmflkolmobmaaGreatDoorEvB
import Derived.Laws.StructEq
namespace Ev
open Go
variable {P : Program}
def aggD : TypeDesc → Bool
  | .struct _ | .array .. => true
  | _ => false
def partV (P : Program) (t : TypeId) (cs : List Value) (off : Nat) : Option Value := match P.underlying t with
  | none => none
  | some d => if aggD d = true then (match P.info? t with | some i => some (.agg ((cs.drop off).take i.size).toArray) | none => none) else cs[off]?
def eqFs (P : Program) (g : TypeId → Value → Value → Option Bool) (xs ys : List Value) : List Field → Option Bool
  | [] => some true
  | f :: fs => if f.name = "_" then none else match partV P f.type xs f.offset, partV P f.type ys f.offset with
    | some a, some b => match g f.type a b, eqFs P g xs ys fs with
      | some p, some q => some (p && q)
      | _, _ => none
    | _, _ => none
def eqV (P : Program) : Nat → TypeId → Value → Value → Option Bool
  | 0, _, _, _ => none
  | n + 1, t, x, y => match P.underlying t, x, y with
    | some .bool, .bool a, .bool b => some (a == b)
    | some (.int _), .int k a, .int k' b => if k = k' then some (a == b) else none
    | some .string, .string a, .string b => some (a.toList == b.toList)
    | some (.struct fs), .agg xs, .agg ys => if P.stoodInHeld t = false then eqFs P (eqV P n) xs.toList ys.toList fs.toList else none
    | _, _, _ => none
theorem semPure_bind {α β : Type} : ∀ (m : Sem α) (f : α → Sem β), semPure P (m >>= f) = (semPure P m).bind fun a => semPure P (f a)
  | .pure a, f => rfl
  | .program k, f => by
    show semPure P ((k P).bind f) = _
    exact semPure_bind (k P) f
  | .load .., _ | .store .., _ | .new .., _ | .shape .., _ | .freeze .., _ | .frozen .., _ | .getObj .., _ | .setObj .., _ | .choose .., _ | .sys .., _ | .mark .., _ | .halt _, _ => rfl
theorem semPure_pure {α : Type} (a : α) : semPure P (pure a : Sem α) = some a := rfl
theorem semPure_und {t : TypeId} {d : TypeDesc} (h : P.underlying t = some d) : semPure P (underlying t) = some d := by
  show semPure P (match P.underlying t with | some d => pure d | none => stuck "no such type") = _
  rw [h]; rfl
theorem semPure_info {t : TypeId} {i : TypeInfo} (h : P.info? t = some i) : semPure P (typeInfo t) = some i := by
  show semPure P (match P.info? t with | some d => pure d | none => stuck "no such type") = _
  rw [h]; rfl
theorem semPure_part {t : TypeId} {cs : List Value} {off : Nat} {v : Value} (h : partV P t cs off = some v) : semPure P (part t cs.toArray off) = some v := by
  unfold partV at h
  split at h
  · cases h
  · rename_i d hd
    unfold part isAgg
    simp only [semPure_bind, semPure_und hd, Option.bind_some]
    split at h
    · rename_i ha
      split at h
      · rename_i i hi
        cases h
        cases d <;> first | (simp [aggD] at ha; done) | (simp only [semPure_pure, Option.bind_some, if_true, semPure_bind, Go.sizeOf, semPure_info hi]; simp [List.extract]; done)
      · cases h
    · rename_i ha
      have h2 : cs.toArray[off]? = some v := by simpa using h
      cases d <;> first | (simp [aggD] at ha; done) | (simp only [semPure_pure, Option.bind_some, Bool.false_eq_true, if_false, h2]; done)
theorem eqFs_sound {n : Nat} {g : TypeId → Value → Value → Option Bool} (hg : ∀ t x y b, g t x y = some b → semPure P (Op.equalIn n t x y) = some b) {xs ys : List Value} :
    ∀ {fs : List Field} {b : Bool}, eqFs P g xs ys fs = some b → semPure P (Op.eqFields n xs.toArray ys.toArray fs) = some b
  | [], b, h => by
    simp only [eqFs, Option.some.injEq] at h
    subst h
    rfl
  | f :: fs, b, h => by
    simp only [eqFs] at h
    split at h
    · cases h
    · rename_i hn
      split at h
      · rename_i a b' ha hb
        split at h
        · rename_i p q hp hq
          cases h
          simp only [Op.eqFields]
          rw [if_pos hn]
          simp only [semPure_bind, semPure_part ha, semPure_part hb, Option.bind_some, hg _ _ _ _ hp]
          cases p with
          | false => rfl
          | true => simpa using eqFs_sound hg hq
        · cases h
      · cases h
theorem semPure_loop {n : Nat} {xs ys : Array Value} : ∀ {fs : List Field},
    semPure P (do
      let r ← forIn fs (⟨none, ()⟩ : Option Bool × Unit) fun f _ =>
        (if f.name ≠ "_" then do
          let a ← part f.type xs f.offset
          let b ← part f.type ys f.offset
          let r ← Op.equalIn n f.type a b
          if (!r) = true then pure (ForInStep.done ⟨some false, ()⟩) else pure (ForInStep.yield ⟨none, ()⟩)
        else pure (ForInStep.yield ⟨none, ()⟩) : Sem (ForInStep (Option Bool × Unit)))
      match r.fst with | some a => pure a | none => pure true) = semPure P (Op.eqFields n xs ys fs)
  | [] => rfl
  | f :: fs => by
    simp only [List.forIn_cons, Op.eqFields]
    split
    · simp only [semPure_bind, Option.bind_assoc]
      congr 1; funext a
      congr 1; funext b
      congr 1; funext r
      cases r
      · simp [semPure_pure, semPure_bind]
      · simpa [semPure_pure, semPure_bind] using semPure_loop (fs := fs)
    · simpa [semPure_pure, semPure_bind] using semPure_loop (fs := fs)
theorem semPure_struct {n : Nat} {t : TypeId} {fs : Array Field} {xs ys : Array Value} (ht : P.underlying t = some (.struct fs)) (hp : P.stoodInHeld t = false) :
    semPure P (Op.equalIn (n + 1) t (.agg xs) (.agg ys)) = semPure P (Op.eqFields n xs ys fs.toList) := by
  rw [← semPure_loop]
  simp only [Op.equalIn, semPure_bind, semPure_und ht, Option.bind_some]
  have : semPure P program = some P := rfl
  simp only [this, Option.bind_some, hp, Bool.false_eq_true, if_false]
  rw [← Array.forIn_toList]
  simp only [semPure_bind]
  congr 1
  funext a
  cases a.fst <;> rfl
theorem eqV_sound : ∀ {n : Nat} {t : TypeId} {x y : Value} {b : Bool}, eqV P n t x y = some b → semPure P (Op.equalIn n t x y) = some b
  | 0, _, _, _, _, h => by cases h
  | n + 1, t, x, y, b, h => by
    simp only [eqV] at h
    split at h <;> first | (cases h; done) | skip
    · rename_i ht
      cases h
      simp only [Op.equalIn, semPure_bind, semPure_und ht, Option.bind_some, semPure_pure]
    · rename_i ht
      split at h
      · rename_i hk
        cases h
        simp only [Op.equalIn, semPure_bind, semPure_und ht, Option.bind_some, hk, if_true, semPure_pure]
      · cases h
    · rename_i ht
      cases h
      simp only [Op.equalIn, semPure_bind, semPure_und ht, Option.bind_some, semPure_pure, beq_toListBytes]
    · rename_i fs xs ys ht
      split at h
      · rename_i hp
        rw [semPure_struct ht hp]
        exact eqFs_sound (fun t x y b h => eqV_sound h) h
      · cases h
end Ev
