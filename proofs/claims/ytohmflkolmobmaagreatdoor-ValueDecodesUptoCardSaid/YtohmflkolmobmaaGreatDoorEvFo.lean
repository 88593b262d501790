/- What functions of the program compute, as plain Lean functions, each with its proof by a proved reader; plain laws about them (EvFo). -/
import Derived.Test.YtohmflkolmobmaaGreatDoorEvB
namespace Ev
open Go
section
variable {R : Type}
noncomputable def fSp {α : Type} (xs : List α) : (List α → R) → R := List.rec (motive := fun _ => (List α → R) → R) (fun k => k []) (fun x _ ih k => ih fun ys => k (x :: ys)) xs
def fV (v : Value) (k : Value → R) : R := match v with
  | .int q n => k (.int q n)
  | .bool b => k (.bool b)
  | .string s => k (.string s)
  | v => k v
noncomputable def fA (x : AV) (k : AV → R) : R := match x with
  | .d (.val v) => fV v fun v => k (.d (.val v))
  | .d (.agg cs) => fSp cs fun cs => k (.d (.agg cs))
  | .agg cs => fSp cs fun cs => k (.agg cs)
  | .tup cs => fSp cs fun cs => k (.tup cs)
  | x => k x
noncomputable def fB (b : Box) (k : Box → R) : R := match b with
  | .cells ty cs => fSp cs fun cs => k (.cells ty cs)
  | b => k b
noncomputable def fBs (xs : List Box) : (List Box → R) → R := List.rec (motive := fun _ => (List Box → R) → R) (fun k => k []) (fun x _ ih k => fB x fun y => ih fun ys => k (y :: ys)) xs
noncomputable def fSt {σ : Type} (st : St σ) (k : St σ → R) : R := fSp st.env fun e => fBs st.boxes fun b => fSp st.toks fun t => k { env := e, boxes := b, toks := t, s := st.s }
noncomputable def setK {α : Type} (v : α) (xs : List α) : Nat → (List α → R) → R := List.rec (motive := fun _ => Nat → (List α → R) → R) (fun _ k => k []) (fun x xs ih t k => Nat.casesOn t (k (v :: xs)) fun t => ih t fun ys => k (x :: ys)) xs
end
section
variable {R : Type} {σ : Type}
theorem fSp_eq {α : Type} (xs : List α) : ∀ (k : List α → R), fSp xs k = k xs := by
  induction xs with
  | nil => intro k; rfl
  | cons x xs ih => intro k; exact ih fun ys => k (x :: ys)
theorem fV_eq (v : Value) (k : Value → R) : fV v k = k v := by cases v <;> rfl
theorem fA_eq (x : AV) (k : AV → R) : fA x k = k x := by
  unfold fA
  split
  · rw [fV_eq]
  · rw [fSp_eq]
  · rw [fSp_eq]
  · rw [fSp_eq]
  · rfl
theorem fB_eq (x : Box) (k : Box → R) : fB x k = k x := by
  unfold fB
  split
  · rw [fSp_eq]
  · rfl
theorem fBs_eq (xs : List Box) : ∀ (k : List Box → R), fBs xs k = k xs := by
  induction xs with
  | nil => intro k; rfl
  | cons x xs ih =>
    intro k
    show fB x (fun y => fBs xs fun ys => k (y :: ys)) = _
    rw [fB_eq, ih]
theorem fSt_eq (st : St σ) (k : St σ → R) : fSt st k = k st := by rw [fSt, fSp_eq, fBs_eq, fSp_eq]
theorem setK_eq {α : Type} (v : α) (xs : List α) : ∀ (t : Nat) (k : List α → R), setK v xs t k = k (xs.set t v) := by
  induction xs with
  | nil => intro t k; rfl
  | cons x xs ih =>
    intro t k
    cases t with
    | zero => rfl
    | succ t => exact ih t fun ys => k (x :: ys)
end
end Ev
