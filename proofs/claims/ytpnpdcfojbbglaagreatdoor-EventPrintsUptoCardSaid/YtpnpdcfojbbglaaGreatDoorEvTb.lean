/- What functions of the program compute, as plain Lean functions, each with its proof by a proved reader; plain laws about them (EvTb). -/
import Derived.Test.YtpnpdcfojbbglaaGreatDoorEvTh
set_option linter.unusedSimpArgs false
set_option linter.unusedVariables false
namespace Ev
open Go
variable {σ : Type} {P : Program} {glob : Nat → Option (List D)}
def nilAt (i : Nat) (as : List AV) : Bool := match as[i]? with
  | some .nsl => true
  | _ => false
def nilE (i : Nat) (e1 e2 : OddE) : OddE where
  run := fun as bs ts k => bif nilAt i as then e1.run as bs ts k else e2.run as bs ts k
  fair := by
    intro β as bs ts k r h
    cases hb : nilAt i as with
    | true => simp only [hb, cond_true] at h ⊢; exact e1.fair β as bs ts k r h
    | false => simp only [hb, cond_false] at h ⊢; exact e2.fair β as bs ts k r h
theorem OddSound.nil {o : FuncId → Option OddE} {f : FuncId} {e1 e2 : OddE} {i : Nat} (h1 : OddSound P glob (fun g => bif Nat.beq g f then some e1 else o g)) (h2 : o f = some e2) (hO : OddSound P glob o) : OddSound P glob (fun g => bif Nat.beq g f then some (nilE i e1 e2) else o g) := by
  intro g e hg as boxes toks v b' t' hrun
  dsimp only at hg
  cases hb : Nat.beq g f with
  | false =>
    rw [hb, cond_false] at hg
    exact hO g e hg as boxes toks v b' t' hrun
  | true =>
    rw [hb, cond_true] at hg
    cases hg
    have hgf := Nat.eq_of_beq_eq_true hb
    subst hgf
    have hrun' : (bif nilAt i as then e1.run as boxes toks (fun v b t => some (v, b, t)) else e2.run as boxes toks (fun v b t => some (v, b, t))) = some (v, b', t') := hrun
    cases hn : nilAt i as with
    | true =>
      rw [hn, cond_true] at hrun'
      exact h1 g e1 (by dsimp only; rw [hb, cond_true]) as boxes toks v b' t' hrun'
    | false =>
      rw [hn, cond_false] at hrun'
      exact hO g e2 h2 as boxes toks v b' t' hrun'
def demAt : List Bool → List AV → List AV
  | true :: m, x :: r => x.demote :: demAt m r
  | false :: m, x :: r => x :: demAt m r
  | _, l => l
theorem demAt_rel {c : Cx} : ∀ (m : List Bool) {as : List AV} {us : List Value}, ARels c as us → ARels c (demAt m as) us
  | [], as, us, h => by cases as <;> exact h
  | b :: m, [], us, h => by cases b <;> exact h
  | true :: m, x :: r, us, h => by
    obtain ⟨u, us', rfl, h1, h2⟩ := h
    exact ⟨u, us', rfl, ARel.demote h1, demAt_rel m h2⟩
  | false :: m, x :: r, us, h => by
    obtain ⟨u, us', rfl, h1, h2⟩ := h
    exact ⟨u, us', rfl, h1, demAt_rel m h2⟩
def demE (m : List Bool) (e : OddE) : OddE where
  run := fun as bs ts k => e.run (demAt m as) bs ts k
  fair := fun β as bs ts k r h => e.fair β (demAt m as) bs ts k r h
theorem OddSound.dem {o : FuncId → Option OddE} {f : FuncId} {e : OddE} {m : List Bool} (h : OddSound P glob (fun g => bif Nat.beq g f then some e else o g)) (hO : OddSound P glob o) : OddSound P glob (fun g => bif Nat.beq g f then some (demE m e) else o g) := by
  intro g e' hg as boxes toks v b' t' hrun
  dsimp only at hg
  cases hb : Nat.beq g f with
  | false =>
    rw [hb, cond_false] at hg
    exact hO g e' hg as boxes toks v b' t' hrun
  | true =>
    rw [hb, cond_true] at hg
    cases hg
    obtain ⟨h1, h2⟩ := h g e (by dsimp only; rw [hb, cond_true]) (demAt m as) boxes toks v b' t' hrun
    exact ⟨h1, fun c w us hgl ht hW hA => h2 c w us hgl ht hW (demAt_rel m hA)⟩
end Ev
