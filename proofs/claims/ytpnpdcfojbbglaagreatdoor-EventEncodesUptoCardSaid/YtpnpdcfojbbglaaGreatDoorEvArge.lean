/- What functions of the program compute, as plain Lean functions, each with its proof by a proved reader; plain laws about them (EvArge). -/
import Derived.Test.YtpnpdcfojbbglaaGreatDoorEvRow
import Derived.Test.YtpnpdcfojbbglaaGreatDoorRows
import Derived.WideKeyArgs
import Derived.ChangeArms
import Derived.ChangeMaps5
set_option linter.unusedVariables false
set_option linter.unusedSimpArgs false
namespace Ev
open Go Go.ChangeShapes Go.WideShapes Go.ChangeAt Go.RowKit Go.Proofs.YtpnpdcfojbbglaaGreatDoor
variable {P : Program} {H : Type} {enc : TypeId × Value → H} {w : World}
inductive LK where
  | int (k : IntKind)
  | str
  | bool
def LeafOk : LK → Value → Prop
  | .int k, v => ∃ n, v = .int k n ∧ (Lit.int k n).wf = true
  | .str, v => ∃ s, v = .string s
  | .bool, v => ∃ b, v = .bool b
def LeavesOk : List LK → List Value → Prop
  | [], vs => vs = []
  | k :: ks, vs => ∃ v vs', vs = v :: vs' ∧ LeafOk k v ∧ LeavesOk ks vs'
theorem LeavesOk.length : ∀ {a : List LK} {us : List Value}, LeavesOk a us → us.length = a.length
  | [], us, h => by
    have : us = [] := h
    subst this; rfl
  | x :: a, us, h => by
    obtain ⟨v, us', rfl, h1, h2⟩ := h
    simp [LeavesOk.length h2]
theorem LeavesOk.one : ∀ {a : List LK} {us : List Value}, LeavesOk a us → us.all Value.oneCell' = true
  | [], us, h => by
    have : us = [] := h
    subst this; rfl
  | x :: a, us, h => by
    obtain ⟨v, us', rfl, h1, h2⟩ := h
    rw [List.all_cons, LeavesOk.one h2, Bool.and_true]
    cases x with
    | int k => obtain ⟨n, rfl, _⟩ := h1; rfl
    | str => obtain ⟨s, rfl⟩ := h1; rfl
    | bool => obtain ⟨b, rfl⟩ := h1; rfl
def allRO (w : World) (p : Pin) : RO := ⟨fun b o => w.cell? ⟨b, o, none⟩, p, fun b => match w.heap[b]? with | some (.cells cs _ _) => some cs.size | _ => none⟩
theorem allRO_le {w : World} {ro : RO} (h : ro.holds w) : RO.le ro (allRO w ro.pin) := ⟨fun b o v e => h b o v e, rfl, fun b n e => by
  obtain ⟨cs, t, fz, q1, q2⟩ := h.big b n e
  simp only [allRO, q1, q2]⟩
theorem allRO_holds {w : World} {ro : RO} (h : ro.holds w) : (allRO w ro.pin).holds w :=
  ⟨fun b o v e => e, fun b n e => h.whole b n e, fun b n e => ⟨(h.known b n e).1, fun o ho hz => by
    cases hc : ro b o with
    | none => exact (h.known b n e).2 o ho hc
    | some v => rw [show (allRO w ro.pin) b o = some v from h b o v hc] at hz; cases hz⟩, fun b n e => by
    simp only [allRO] at e
    split at e
    · rename_i cs t fz hq; cases e; exact ⟨cs, t, fz, hq, rfl⟩
    · cases e⟩
theorem args_stay (hl : laidOutB P = true) {W W' : World} (hk : ∀ k, k < W.heap.size → W'.heap[k]? = W.heap[k]?) {sp : Nat → Bool} : ∀ {ts : List TypeId} {vs : List Value} {ds : List (DataW H)} {ps : List MemPlace}, (∀ t ∈ ts, P.readableRec t = true ∧ t < P.types.size) → (∀ p ∈ ps, p.block < W.heap.size) → (∀ p ∈ ps, sp p.block = true) →
    DataW.TrodAll enc P W 0 (fun _ => true) true ts vs ds ps → DataW.TrodAll enc P W' 0 sp true ts vs ds ps
  | [], [], [], ps, _, _, _, h => h
  | t :: ts, v :: vs, d :: ds, ps, ht, hb, hs, ⟨p, q, h1, h2, e⟩ => by
    subst e
    obtain ⟨r1, r2⟩ := ht t (by simp)
    refine ⟨p, q, WideElems.Trod_stays hl r1 r2 h1 (fun x hx => ?_) (fun x hx => hs x (by simp [hx])), args_stay hl hk (fun u hu => ht u (by simp [hu])) (fun x hx => hb x (by simp [hx])) (fun x hx => hs x (by simp [hx])) h2, rfl⟩
    have hlt := hb x (by simp [hx])
    cases x with
    | cell b o => exact cell_of_block (hk b hlt) o
    | map b => exact hk b hlt
  | [], _ :: _, _, _, _, _, _, h => by simp [DataW.TrodAll] at h
  | [], [], _ :: _, _, _, _, _, h => by simp [DataW.TrodAll] at h
  | _ :: _, [], _, _, _, _, _, h => by simp [DataW.TrodAll] at h
  | _ :: _, _ :: _, [], _, _, _, _, h => by simp [DataW.TrodAll] at h
end Ev
