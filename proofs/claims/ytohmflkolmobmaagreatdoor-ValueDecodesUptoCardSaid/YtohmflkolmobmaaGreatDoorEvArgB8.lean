/- What functions of the program compute, as plain Lean functions, each with its proof by a proved reader; plain laws about them (EvArgB8). -/
import Derived.Test.YtohmflkolmobmaaGreatDoorEvRow
import Derived.Test.YtohmflkolmobmaaGreatDoorRows
import Derived.WideKeyArgs
import Derived.ChangeArms
import Derived.ChangeMaps5
set_option linter.unusedVariables false
set_option linter.unusedSimpArgs false
namespace Ev
open Go Go.ChangeShapes Go.WideShapes Go.ChangeAt Go.RowKit Go.Proofs.YtohmflkolmobmaaGreatDoor
variable {P : Program} {H : Type} {enc : TypeId × Value → H} {w : World}
inductive LK where
  | int (k : IntKind)
  | str
  | bool
def LeafOk : LK → Value → Prop
  | .int k, v => ∃ n, v = .int k n ∧ (Lit.int k n).wf = true
  | .str, v => ∃ s, v = .string s
  | .bool, v => ∃ b, v = .bool b
def LeavesOk : List LK → List Value → Prop
  | [], vs => vs = []
  | k :: ks, vs => ∃ v vs', vs = v :: vs' ∧ LeafOk k v ∧ LeavesOk ks vs'
theorem LeavesOk.length : ∀ {a : List LK} {us : List Value}, LeavesOk a us → us.length = a.length
  | [], us, h => by
    have : us = [] := h
    subst this; rfl
  | x :: a, us, h => by
    obtain ⟨v, us', rfl, h1, h2⟩ := h
    simp [LeavesOk.length h2]
theorem LeavesOk.one : ∀ {a : List LK} {us : List Value}, LeavesOk a us → us.all Value.oneCell' = true
  | [], us, h => by
    have : us = [] := h
    subst this; rfl
  | x :: a, us, h => by
    obtain ⟨v, us', rfl, h1, h2⟩ := h
    rw [List.all_cons, LeavesOk.one h2, Bool.and_true]
    cases x with
    | int k => obtain ⟨n, rfl, _⟩ := h1; rfl
    | str => obtain ⟨s, rfl⟩ := h1; rfl
    | bool => obtain ⟨b, rfl⟩ := h1; rfl
theorem bulk_pos : ∀ d : DataW H, 1 ≤ Rows.uptoBulk d := by
  intro d
  cases d with
  | lit l => cases l <;> simp [Rows.uptoBulk]
  | _ => simp [Rows.uptoBulk]
def allRO (w : World) (p : Pin) : RO := ⟨fun b o => w.cell? ⟨b, o, none⟩, p, fun b => match w.heap[b]? with | some (.cells cs _ _) => some cs.size | _ => none⟩
theorem allRO_le {w : World} {ro : RO} (h : ro.holds w) : RO.le ro (allRO w ro.pin) := ⟨fun b o v e => h b o v e, rfl, fun b n e => by
  obtain ⟨cs, t, fz, q1, q2⟩ := h.big b n e
  simp only [allRO, q1, q2]⟩
theorem allRO_holds {w : World} {ro : RO} (h : ro.holds w) : (allRO w ro.pin).holds w :=
  ⟨fun b o v e => e, fun b n e => h.whole b n e, fun b n e => ⟨(h.known b n e).1, fun o ho hz => by
    cases hc : ro b o with
    | none => exact (h.known b n e).2 o ho hc
    | some v => rw [show (allRO w ro.pin) b o = some v from h b o v hc] at hz; cases hz⟩, fun b n e => by
    simp only [allRO] at e
    split at e
    · rename_i cs t fz hq; cases e; exact ⟨cs, t, fz, hq, rfl⟩
    · cases e⟩
theorem args_stay (hl : laidOutB P = true) {W W' : World} (hk : ∀ k, k < W.heap.size → W'.heap[k]? = W.heap[k]?) {sp : Nat → Bool} : ∀ {ts : List TypeId} {vs : List Value} {ds : List (DataW H)} {ps : List MemPlace}, (∀ t ∈ ts, P.readableRec t = true ∧ t < P.types.size) → (∀ p ∈ ps, p.block < W.heap.size) → (∀ p ∈ ps, sp p.block = true) →
    DataW.TrodAll enc P W 0 (fun _ => true) true ts vs ds ps → DataW.TrodAll enc P W' 0 sp true ts vs ds ps
  | [], [], [], ps, _, _, _, h => h
  | t :: ts, v :: vs, d :: ds, ps, ht, hb, hs, ⟨p, q, h1, h2, e⟩ => by
    subst e
    obtain ⟨r1, r2⟩ := ht t (by simp)
    refine ⟨p, q, WideElems.Trod_stays hl r1 r2 h1 (fun x hx => ?_) (fun x hx => hs x (by simp [hx])), args_stay hl hk (fun u hu => ht u (by simp [hu])) (fun x hx => hb x (by simp [hx])) (fun x hx => hs x (by simp [hx])) h2, rfl⟩
    have hlt := hb x (by simp [hx])
    cases x with
    | cell b o => exact cell_of_block (hk b hlt) o
    | map b => exact hk b hlt
  | [], _ :: _, _, _, _, _, _, h => by simp [DataW.TrodAll] at h
  | [], [], _ :: _, _, _, _, _, h => by simp [DataW.TrodAll] at h
  | _ :: _, [], _, _, _, _, _, h => by simp [DataW.TrodAll] at h
  | _ :: _, _ :: _, [], _, _, _, _, h => by simp [DataW.TrodAll] at h
end Ev

set_option linter.unusedVariables false
set_option linter.unusedSimpArgs false
set_option maxRecDepth 100000
namespace Ev
open Go Go.ChangeShapes Go.WideShapes Go.ChangeAt Go.RowKit Go.Proofs Go.Proofs.YtohmflkolmobmaaGreatDoor
variable {P : Program} {H : Type} {enc : TypeId × Value → H} {w : World}
theorem open_bytes {sT eT : TypeId} (hu : P.underlying sT = some (.slice eT)) (he : P.underlying eT = some (.int .u8)) (hc : P.cellsOf eT = 1) {base : Nat} {sp : Nat → Bool} {held : Bool} (p : Pin) {v : Value} {d : DataW H} {ps : List MemPlace} (hv : v.cells.toList = [v]) (hd : DataW.Trod enc P w base sp held sT v d ps) :
    ∃ b : ByteArray, DRel (allRO w p) (.bytes b) v ∧ v.oneCell' = true ∧ b.size ≤ Rows.uptoBulk d := by
  obtain ⟨n, hn⟩ := hd
  rw [hv] at hn
  rcases DataW.trod_slice hu hn with ⟨h1, h2⟩ | ⟨a, len', cap', elems, rest, n'', e, h1, h2, hb, hle, hm, hlen, hel, _, _⟩
  · simp at h1
    subst h1
    refine ⟨ByteArray.empty, ?_, rfl, Nat.zero_le _⟩
    simp only [DRel]
    exact ⟨none, 0, rfl, Nat.le_refl _, .inl rfl⟩
  · simp at h1
    subst h1
    subst e
    rw [hc] at hel
    have each : ∀ i, i < len' → ∃ x : UInt8, w.cell? ((a.add (i * 1)).add 0) = some (.int .u8 x.toNat) := by
      intro i hi
      have h := hel i hi
      obtain ⟨x, hx⟩ : ∃ x, elems[i]? = some x := ⟨_, List.getElem?_eq_getElem (by omega)⟩
      rw [hx, Option.bind_eq_some_iff] at h
      obtain ⟨us, q1, q2⟩ := h
      obtain ⟨_, q4, q5⟩ := World.cells?_some q1
      obtain ⟨k, e0, _, w0⟩ := DataW.trod_int he q2
      subst e0
      have hk : 0 ≤ k ∧ k < 256 := by
        simp [Lit.wf, IntKind.min, IntKind.max, IntKind.signed, IntKind.bits] at w0
        omega
      refine ⟨k.toNat.toUInt8, ?_⟩
      have h5 := q5 0 (by omega)
      rw [h5]
      have : (k.toNat.toUInt8).toNat = k.toNat := by
        rw [Nat.toUInt8, UInt8.toNat_ofNat']
        omega
      rw [this, Int.toNat_of_nonneg hk.1]
      rfl
    have build : ∀ (k i : Nat), i + k = len' → ∃ l : List UInt8, l.length = k ∧ ∀ (j : Nat) (x : UInt8), l[j]? = some x → w.cell? ((a.add ((i + j) * 1)).add 0) = some (.int .u8 x.toNat) := by
      intro k
      induction k with
      | zero => intro i hi; exact ⟨[], rfl, by simp⟩
      | succ k ih =>
        intro i hi
        obtain ⟨x, hx⟩ := each i (by omega)
        obtain ⟨l, s1, s2⟩ := ih (i + 1) (by omega)
        refine ⟨x :: l, by simp [s1], fun j y hj => ?_⟩
        cases j with
        | zero => simp at hj; subst hj; exact hx
        | succ j =>
          have := s2 j y (by simpa using hj)
          rw [show i + (j + 1) = i + 1 + j by omega]
          exact this
    obtain ⟨l, s1, s2⟩ := build len' 0 (by omega)
    refine ⟨⟨l.toArray⟩, ?_, rfl, ?_⟩
    · simp only [DRel]
      have hsz : (⟨l.toArray⟩ : ByteArray).size = len' := by rw [← s1]; rfl
      refine ⟨some a, cap', by rw [hsz], by rw [hsz]; exact hle, ?_⟩
      by_cases h0 : len' = 0
      · exact .inl (by rw [hsz]; exact h0)
      right
      have hspot : a.spot = none := by
        obtain ⟨x, h⟩ := each 0 (by omega)
        simp only [Nat.zero_mul, Addr.add, if_true] at h
        unfold World.cell? at h
        cases hsp : a.spot with
        | none => rfl
        | some q =>
          rw [hsp] at h
          split at h <;> simp at h
      obtain ⟨bk, off, sp'⟩ := a
      simp only at hspot
      subst hspot
      refine ⟨bk, off, rfl, fun i x hx => ?_⟩
      have hl : l[i]? = some x := by
        have hi : i < (⟨l.toArray⟩ : ByteArray).size := by
          rcases Nat.lt_or_ge i (⟨l.toArray⟩ : ByteArray).size with h | h
          · exact h
          · rw [getElem?_neg (⟨l.toArray⟩ : ByteArray) i (by omega)] at hx; cases hx
        rw [getElem?_pos (⟨l.toArray⟩ : ByteArray) i hi] at hx
        have hx' := Option.some.inj hx
        have : i < l.length := by rw [s1]; omega
        rw [List.getElem?_eq_getElem this, ← hx']
        rfl
      have := s2 i x hl
      rw [add_eq, add_eq] at this
      simp only [Nat.zero_add, Nat.mul_one, Nat.add_zero] at this
      exact this
    · have hlb : ∀ (q : List (DataW H × List MemPlace)), q.length ≤ Rows.uptoBulkAll (q.map (·.1)) := by
        intro q
        induction q with
        | nil => exact Nat.zero_le _
        | cons y r ih =>
          rw [List.map_cons, Rows.uptoBulkAll, List.length_cons]
          have := bulk_pos y.1
          omega
      have hsz : (⟨l.toArray⟩ : ByteArray).size = len' := by rw [← s1]; rfl
      rw [hsz]
      have hq := hlb elems
      simp only [Prod.mk.injEq] at h2
      rw [h2.1]
      simp only [Rows.uptoBulk]
      omega
end Ev
