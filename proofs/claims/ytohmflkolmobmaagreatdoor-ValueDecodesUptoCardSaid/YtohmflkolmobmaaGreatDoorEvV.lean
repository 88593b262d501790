/- What functions of the program compute, as plain Lean functions, each with its proof by a proved reader; plain laws about them (EvV). -/
import Derived.Test.YtohmflkolmobmaaGreatDoorEvU
set_option linter.unusedSimpArgs false
set_option linter.unusedVariables false
namespace Ev
open Go Go.RowKit
variable {σ : Type} {P : Program}
theorem resB_to {b b2 : List Box} {k k2 : List Nat} {x : Option AV} {v : AV} {b' : List Box} {k' : List Nat} (h : resB b k x = some (v, b', k')) : b' = b ∧ k' = k ∧ resB b2 k2 x = some (v, b2, k2) := by
  cases x with
  | none => simp [resB] at h
  | some y => cases h; exact ⟨rfl, rfl, rfl⟩
theorem fillA_congr {place : Nat → Option (Nat × Nat)} {ρ ρ' : Operand → AV} : ∀ {parts : List (Nat × Operand)} {cs : List AV}, (∀ p ∈ parts, ρ' p.2 = ρ p.2) → fillA place ρ' cs parts = fillA place ρ cs parts
  | [], _, _ => rfl
  | (i, x) :: r, cs, h => by
    have hx : ρ' x = ρ x := h (i, x) (by simp)
    simp only [fillA, hx]
    cases place i with
    | none => rfl
    | some p =>
      cases (ρ x).cells with
      | none => rfl
      | some vs =>
        simp only
        split
        · exact fillA_congr (fun p hp => h p (List.mem_cons_of_mem _ hp))
        · rfl
theorem listD_congr {size : Nat} {ρ ρ' : Operand → AV} : ∀ {parts : List (Nat × Operand)} {n : Nat}, (∀ p ∈ parts, ρ' p.2 = ρ p.2) → listD ρ' size n parts = listD ρ size n parts
  | [], _, _ => rfl
  | (i, x) :: r, n, h => by
    have hx : ρ' x = ρ x := h (i, x) (by simp)
    simp only [listD, hx]
    rw [listD_congr (fun p hp => h p (List.mem_cons_of_mem _ hp))]
theorem optIdx_congr {ρ ρ' : Operand → AV} {d : Int} {x : Option Operand} (h : ∀ y, x = some y → ρ' y = ρ y) : optIdx ρ' d x = optIdx ρ d x := by
  cases x with
  | none => rfl
  | some y => simp only [optIdx]; rw [h y rfl]
theorem map_congr' {ρ ρ' : Operand → AV} : ∀ {l : List Operand}, (∀ x ∈ l, ρ' x = ρ x) → l.map ρ' = l.map ρ
  | [], _ => rfl
  | x :: r, h => by simp only [List.map_cons]; rw [h x (by simp), map_congr' (fun y hy => h y (List.mem_cons_of_mem _ hy))]
theorem convert_to {src dst : TypeId} {x : AV} {b b2 b' : List Box} {k k2 k' : List Nat} {v : AV} (h : evConvert P src dst x b k = some (v, b', k')) : b' = b ∧ k' = k ∧ evConvert P src dst x b2 k2 = some (v, b2, k2) := by
  unfold evConvert at h ⊢
  split at h
  · split at h
    · split at h
      · cases h; simp [*]
      · cases h
    · cases h
  · split at h
    · split at h
      · rename_i hb; cases h; simp [*]
      · cases h
    · cases h
  · split at h
    · rename_i h1 h2 vx hv
      exact resB_to h
    · cases h
theorem plain_to {o : Oper} {env env2 : List AV} {b b' b2 : List Box} {k k' k2 : List Nat} {v : AV} (e : evPlain P o env b k = some (v, b', k')) (hx : ∀ x ∈ o.op.operands, operand env2 x = operand env x)
    (hr : ∀ t x r, o.op = .load t x → evLoad P t b (operand env x) = some r → evLoad P t b2 (operand env x) = some r) (hw : classOf P o.op = .writes → b2 = b) (hk : classOf P o.op = .toks → k2 = k) :
    (classOf P o.op ≠ .writes → b' = b) ∧ (classOf P o.op ≠ .toks → k' = k) ∧
    evPlain P o env2 b2 k2 = some (v, if classOf P o.op = .writes then b' else b2, if classOf P o.op = .toks then k' else k2) := by
  cases ho : o.op <;> simp only [evPlain, ho] at e ⊢ <;> try (cases e; done)
  all_goals simp only [ho, Op.operands] at hx
  case move x => cases e; simp [classOf, hx x (by simp)]
  case assign x =>
    have hcl : ∀ b, nilOwn P o.type x = some b → classOf P (.assign x) = .toks := fun b hb => by
      unfold nilOwn at hb
      split at hb
      · rfl
      · cases hb
    split at e
    · rename_i hb
      have := hk (by rw [ho]; exact hcl _ hb)
      subst this
      cases e; simp [hcl _ hb]
    · rename_i hb
      have := hk (by rw [ho]; exact hcl _ hb)
      subst this
      cases e; simp [hcl _ hb]
    · cases e
      have hv : operand env2 x = operand env x := hx x (by simp)
      rw [hv]
      have hnw : classOf P (.assign x) ≠ .writes := by unfold classOf; split <;> simp_all
      by_cases ht : classOf P (.assign x) = .toks
      · have := hk (by rw [ho]; exact ht)
        subst this
        simp [ht]
      · simp [ht, hnw]
  case pick x y z => obtain ⟨q1, q2, q3⟩ := resB_to (b2 := b2) (k2 := k2) e; simp [classOf, q1, q2, q3, hx x (by simp), hx y (by simp), hx z (by simp)]
  case alloc t =>
    have hb := hw (by rw [ho]; rfl)
    subst hb
    unfold evAlloc at e ⊢
    split at e <;> cases e
    simp [classOf, *]
  case box t x =>
    have hb := hw (by rw [ho]; rfl)
    subst hb
    rw [hx x (by simp)]
    unfold evBox at e ⊢
    split at e <;> cases e
    simp [classOf, *]
  case build t ps =>
    obtain ⟨q1, q2, q3⟩ := resB_to (b2 := b2) (k2 := k2) e
    have : evBuild P t (operand env2) ps.toList = evBuild P t (operand env) ps.toList := by
      unfold evBuild
      split
      · rw [fillA_congr (fun p hp => hx p.2 (by simpa using ⟨p.1, by simpa using hp⟩))]
      · rfl
    simp [classOf, q1, q2, q3, this]
  case buildSlice t len ps =>
    have hk' := hk (by rw [ho]; rfl)
    subst hk'
    unfold evBuildSlice at e ⊢
    split at e
    · rename_i el ht
      rw [listD_congr (ρ' := operand env2) (ρ := operand env) (fun p hp => hx p.2 (by simpa using ⟨p.1, by simpa using hp⟩))]
      split at e
      · split at e
        · rename_i es he hc
          unfold newRowA at e ⊢
          split at e
          · split at e
            · split at e <;> cases e
              rename_i hc1
              have h24 := hc.2.1
              rw [hc1, Nat.mul_one] at h24
              simp [classOf, *]
              all_goals exact h24
            · cases e
          · cases e; simp [classOf, *]
        · cases e
      · cases e
    · cases e
  case load t x =>
    rw [hx x (by simp)]
    cases hl : evLoad P t b (operand env x) with
    | none => rw [hl] at e; simp [resB] at e
    | some q =>
      rw [hr t x q ho hl]
      rw [hl] at e
      obtain ⟨q1, q2, q3⟩ := resB_to (b2 := b2) (k2 := k2) e; simp [classOf, q1, q2, q3]
  case store t x y =>
    have hb := hw (by rw [ho]; rfl)
    subst hb
    rw [hx x (by simp), hx y (by simp)]
    unfold evStore at e ⊢
    split at e
    · split at e
      · split at e <;> cases e
        rename_i hh
        have hh1 := hh.1
        have hh2 := hh.2.1
        simp [classOf, *]
        omega
      · cases e
    · split at e
      · split at e
        · split at e <;> cases e
          rename_i hh
          have h1 := hh.2.2.2.1
          have h2 := hh.2.2.2.2.1
          simp [classOf, *]
          omega
        · cases e
      · cases e
    · cases e
  case nilCheck x => obtain ⟨q1, q2, q3⟩ := resB_to (b2 := b2) (k2 := k2) e; simp [classOf, q1, q2, q3, hx x (by simp)]
  case binOp op t x y q => obtain ⟨q1, q2, q3⟩ := resB_to (b2 := b2) (k2 := k2) e; simp [classOf, q1, q2, q3, hx x (by simp), hx y (by simp)]
  case unOp op t x => obtain ⟨q1, q2, q3⟩ := resB_to (b2 := b2) (k2 := k2) e; simp [classOf, q1, q2, q3, hx x (by simp)]
  case makeInterface t x => obtain ⟨q1, q2, q3⟩ := resB_to (b2 := b2) (k2 := k2) e; simp [classOf, q1, q2, q3, hx x (by simp)]
  case convert s d x => obtain ⟨q1, q2, q3⟩ := convert_to (b2 := b2) (k2 := k2) e; simp [classOf, q1, q2, q3, hx x (by simp)]
  case makeFunc fn first caps =>
    cases e
    simp only [classOf]
    rw [map_congr' (fun x hx' => hx x (by simp at hx'; simp [hx'])), map_congr' (fun x hx' => hx x (by simp at hx'; simp [hx']))]
    simp
  case slice t x lo hi mx =>
    obtain ⟨q1, q2, q3⟩ := resB_to (b2 := b2) (k2 := k2) e
    have h1 : ∀ y, lo = some y → operand env2 y = operand env y := fun y h => hx y (by simp [h])
    have h2 : ∀ y, hi = some y → operand env2 y = operand env y := fun y h => hx y (by simp [h])
    have h3 : ∀ y, mx = some y → operand env2 y = operand env y := fun y h => hx y (by simp [h])
    have : evSlice P t (operand env2) x lo hi mx = evSlice P t (operand env) x lo hi mx := by
      unfold evSlice
      rw [hx x (by simp)]
      simp only [optIdx_congr h1, optIdx_congr h2, optIdx_congr h3]
    simp [classOf, q1, q2, q3, this]
  case fieldAddr s x f => obtain ⟨q1, q2, q3⟩ := resB_to (b2 := b2) (k2 := k2) e; simp [classOf, q1, q2, q3, hx x (by simp)]
  case field s x f => obtain ⟨q1, q2, q3⟩ := resB_to (b2 := b2) (k2 := k2) e; simp [classOf, q1, q2, q3, hx x (by simp)]
  case indexAddr t x i => obtain ⟨q1, q2, q3⟩ := resB_to (b2 := b2) (k2 := k2) e; simp [classOf, q1, q2, q3, hx x (by simp), hx i (by simp)]
  case index t x i => obtain ⟨q1, q2, q3⟩ := resB_to (b2 := b2) (k2 := k2) e; simp [classOf, q1, q2, q3, hx x (by simp), hx i (by simp)]
  case range t x =>
    have hb := hw (by rw [ho]; rfl)
    subst hb
    rw [hx x (by simp)]
    unfold evRange at e ⊢
    split at e <;> cases e
    simp [classOf, *]
  case next it q =>
    have hb := hw (by rw [ho]; rfl)
    subst hb
    cases q with
    | false => cases e
    | true =>
      simp only at e ⊢
      rw [hx it (by simp)]
      unfold evNext at e ⊢
      split at e
      · split at e
        · split at e <;> cases e <;> simp [classOf, *]
        · cases e
      · cases e
  case extract x i => obtain ⟨q1, q2, q3⟩ := resB_to (b2 := b2) (k2 := k2) e; simp [classOf, q1, q2, q3, hx x (by simp)]
  case call cl =>
    have hargs : ∀ x ∈ cl.args.toList, operand env2 x = operand env x := fun x hm => hx x (by simp [Call.operands]; simp at hm; cases cl.callee <;> simp [hm])
    have hin : ∀ {i : Nat} {x : Operand}, cl.args[i]? = some x → operand env2 x = operand env x := fun h => hargs _ (by rw [← Array.getElem?_toList] at h; exact List.mem_of_getElem? h)
    split at e
    · rename_i hc h0 h1
      have hcl : classOf P (.call cl) = .pure := by obtain ⟨a1, a2, a3⟩ := cl; simp only at hc; subst hc; rfl
      obtain ⟨q1, q2, q3⟩ := resB_to (b2 := b2) (k2 := k2) e
      simp only [hcl, hc, h0, h1]
      simp [q1, q2, q3, hin h1]
    · rename_i hc
      have hcl : classOf P (.call cl) = .pure := by obtain ⟨a1, a2, a3⟩ := cl; simp only at hc; subst hc; rfl
      obtain ⟨q1, q2, q3⟩ := resB_to (b2 := b2) (k2 := k2) e
      simp only [hcl, hc, map_congr' hargs]
      simp [q1, q2, q3]
    · rename_i hc
      have hcl : classOf P (.call cl) = .pure := by obtain ⟨a1, a2, a3⟩ := cl; simp only at hc; subst hc; rfl
      obtain ⟨q1, q2, q3⟩ := resB_to (b2 := b2) (k2 := k2) e
      simp only [hcl, hc, map_congr' hargs]
      simp [q1, q2, q3]
    · rename_i hc h0 h1 h2
      have hcl : classOf P (.call cl) = .toks := by obtain ⟨a1, a2, a3⟩ := cl; simp only at hc; subst hc; rfl
      have hk' := hk (by rw [ho, hcl])
      subst hk'
      simp only [hcl, hc, h0, h1, h2]
      rw [hin h1, hin h2]
      cases hcond : intArg P cl.argTypes[1]? with
      | true => simp [hcond] at e
      | false =>
        simp only [hcond, Bool.false_eq_true, if_false] at e ⊢
        unfold evAppend at e ⊢
        repeat' split at e
        all_goals first
          | (cases e; done)
          | (cases e; simp [*]; done)
          | (cases e; simp [*]; simp_all; done)
          | (cases e; simp_all; done)
    · cases e
end Ev
