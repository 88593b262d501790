/- What functions of the program compute, as plain Lean functions, each with its proof by the reader (EvArg); printed by a tool of this work. -/
import Derived.Test.YtedbcbncdfjocaaDoorEvRow
import Derived.Test.YtedbcbncdfjocaaDoorRows
import Derived.WideKeyArgs
import Derived.ChangeArms
import Derived.ChangeMaps5
set_option linter.unusedVariables false
set_option linter.unusedSimpArgs false
namespace Ev
open Go Go.ChangeShapes Go.WideShapes Go.ChangeAt Go.RowKit Go.Proofs.YtedbcbncdfjocaaDoor
variable {P : Program} {H : Type} {enc : TypeId × Value → H} {w : World}
inductive LK where
  | int (k : IntKind)
  | str
  | bool
def flatFs (P : Program) (g : TypeId → Option (List LK)) : List Field → Nat → Option (List LK)
  | [], _ => some []
  | f :: fs, off => match g f.type, flatFs P g fs (off + P.cellsOf f.type) with
    | some a, some b => if f.offset = off ∧ a.length = P.cellsOf f.type then some (a ++ b) else none
    | _, _ => none
def flatK (P : Program) : Nat → TypeId → Option (List LK)
  | 0, _ => none
  | n + 1, t => match P.underlying t with
    | some (.int k) => some [.int k]
    | some .string => some [.str]
    | some .bool => some [.bool]
    | some (.struct fs) => match flatFs P (flatK P n) fs.toList 0 with
      | some ks => if ks.length = P.cellsOf t then some ks else none
      | none => none
    | _ => none
def LeafOk : LK → Value → Prop
  | .int k, v => ∃ n, v = .int k n ∧ (Lit.int k n).wf = true
  | .str, v => ∃ s, v = .string s
  | .bool, v => ∃ b, v = .bool b
def LeavesOk : List LK → List Value → Prop
  | [], vs => vs = []
  | k :: ks, vs => ∃ v vs', vs = v :: vs' ∧ LeafOk k v ∧ LeavesOk ks vs'
def strSz : Value → Nat
  | .string s => s.size
  | _ => 0
def strSum (vs : List Value) : Nat := (vs.map strSz).sum
theorem strSum_app (a b : List Value) : strSum (a ++ b) = strSum a + strSum b := by simp [strSum]
theorem LeavesOk.append : ∀ {a b : List LK} {us vs : List Value}, LeavesOk a us → LeavesOk b vs → LeavesOk (a ++ b) (us ++ vs)
  | [], b, us, vs, h, k => by
    have : us = [] := h
    subst this; exact k
  | x :: a, b, us, vs, h, k => by
    obtain ⟨v, us', rfl, h1, h2⟩ := h
    exact ⟨v, _, rfl, h1, LeavesOk.append h2 k⟩
theorem LeavesOk.length : ∀ {a : List LK} {us : List Value}, LeavesOk a us → us.length = a.length
  | [], us, h => by
    have : us = [] := h
    subst this; rfl
  | x :: a, us, h => by
    obtain ⟨v, us', rfl, h1, h2⟩ := h
    simp [LeavesOk.length h2]
theorem LeavesOk.one : ∀ {a : List LK} {us : List Value}, LeavesOk a us → us.all Value.oneCell' = true
  | [], us, h => by
    have : us = [] := h
    subst this; rfl
  | x :: a, us, h => by
    obtain ⟨v, us', rfl, h1, h2⟩ := h
    rw [List.all_cons, LeavesOk.one h2, Bool.and_true]
    cases x with
    | int k => obtain ⟨n, rfl, _⟩ := h1; rfl
    | str => obtain ⟨s, rfl⟩ := h1; rfl
    | bool => obtain ⟨b, rfl⟩ := h1; rfl
theorem bulk_pos : ∀ d : DataW H, 1 ≤ Rows.uptoBulk d := by
  intro d
  cases d with
  | lit l => cases l <;> simp [Rows.uptoBulk]
  | _ => simp [Rows.uptoBulk]
theorem flat_trod {base : Nat} {sp : Nat → Bool} {held : Bool} : ∀ (m : Nat) {n : Nat} {t : TypeId} {cs : List Value} {x : DataW H × List MemPlace} {ks : List LK}, DataW.trod enc P w base sp held n t cs = some x → flatK P m t = some ks → LeavesOk ks cs ∧ strSum cs + 1 ≤ Rows.uptoBulk x.1 := by
  intro m
  induction m with
  | zero => intro n t cs x ks h hk; cases hk
  | succ m ih =>
    intro n t cs x ks h hk
    simp only [flatK] at hk
    split at hk
    · rename_i k ht
      cases hk
      obtain ⟨n', rfl, rfl, hw⟩ := DataW.trod_int ht h
      exact ⟨⟨_, [], rfl, ⟨n', rfl, hw⟩, rfl⟩, by simp [strSum, strSz, Rows.uptoBulk]⟩
    · rename_i ht
      cases hk
      obtain ⟨s, rfl, rfl, hw⟩ := DataW.trod_string ht h
      exact ⟨⟨_, [], rfl, ⟨s, rfl⟩, rfl⟩, by simp [strSum, strSz, Rows.uptoBulk]⟩
    · rename_i ht
      cases hk
      obtain ⟨b, rfl, rfl⟩ := DataW.trod_bool ht h
      exact ⟨⟨_, [], rfl, ⟨b, rfl⟩, rfl⟩, by simp [strSum, strSz, Rows.uptoBulk]⟩
    · rename_i fs ht
      split at hk
      case h_2 => cases hk
      rename_i ks' hk'
      split at hk
      case isFalse => cases hk
      rename_i hcell
      cases hk
      have hk := hk'
      obtain ⟨xs, n', rfl, rfl, hl, hxl, hf⟩ := DataW.trod_struct ht h
      have key : ∀ (l : List Field) (ys : List (DataW H × List MemPlace)) (off : Nat) (ks : List LK), flatFs P (flatK P m) l off = some ks → ys.length = l.length →
          (∀ (i : Nat) (f : Field), l[i]? = some f → DataW.trod enc P w base sp held n' f.type ((cs.drop f.offset).take (P.cellsOf f.type)) = ys[i]?) → LeavesOk ks ((cs.drop off).take ks.length) ∧ strSum ((cs.drop off).take ks.length) ≤ Rows.uptoBulkAll (ys.map (·.1)) := by
        intro l
        induction l with
        | nil =>
          intro ys off ks hks hy hg
          cases hks
          exact ⟨by simp [LeavesOk], by simp [strSum]⟩
        | cons f l ihl =>
          intro ys off ks hks hy hg
          cases ys with
          | nil => simp at hy
          | cons y ys =>
            simp only [flatFs] at hks
            split at hks
            · rename_i a b ha hb
              split at hks
              · rename_i hc
                cases hks
                obtain ⟨rfl, hal⟩ := hc
                have h0 := hg 0 f rfl
                simp only [List.getElem?_cons_zero] at h0
                obtain ⟨q1, q2⟩ := ih h0 ha
                obtain ⟨q3, q4⟩ := ihl ys _ b hb (by simpa using hy) (fun i g hi => by
                  have := hg (i + 1) g (by simpa using hi)
                  simpa using this)
                have hcut : (cs.drop f.offset).take (a ++ b).length = (cs.drop f.offset).take (P.cellsOf f.type) ++ (cs.drop (f.offset + P.cellsOf f.type)).take b.length := by
                  rw [List.length_append, hal, List.take_add, List.drop_drop]
                rw [hcut]
                refine ⟨LeavesOk.append q1 q3, ?_⟩
                rw [strSum_app, List.map_cons]
                show _ ≤ Rows.uptoBulk y.1 + Rows.uptoBulkAll (ys.map (·.1))
                omega
              · cases hks
            · cases hks
      have hfl := key fs.toList xs 0 ks hk (by simpa using hxl) (fun i f hi => hf i f (by simpa using hi))
      obtain ⟨q1, q2⟩ := hfl
      have hle : ks.length = cs.length := by rw [hcell, hl]
      rw [List.drop_zero, hle, List.take_length] at q1 q2
      exact ⟨q1, by show _ ≤ Rows.uptoBulkAll _ + 1; omega⟩
    · cases hk
def allRO (w : World) (p : Pin) : RO := ⟨fun b o => w.cell? ⟨b, o, none⟩, p⟩
theorem allRO_le {w : World} {ro : RO} (h : ro.holds w) : RO.le ro (allRO w ro.pin) := ⟨fun b o v e => h b o v e, rfl⟩
theorem allRO_holds {w : World} {ro : RO} (h : ro.holds w) : (allRO w ro.pin).holds w :=
  ⟨fun b o v e => e, fun b n e => h.whole b n e, fun b n e => ⟨(h.known b n e).1, fun o ho hz => by
    cases hc : ro b o with
    | none => exact (h.known b n e).2 o ho hc
    | some v => rw [show (allRO w ro.pin) b o = some v from h b o v hc] at hz; cases hz⟩⟩
def elemD : List Value → D
  | [u] => .val u
  | us => .agg (us.map .val)
theorem elemD_rel {r : RO} {us : List Value} (h : us.all Value.oneCell' = true) (hne : us ≠ []) : ∃ u, DRel r (elemD us) u ∧ u.cells.toList = us := by
  match us, h, hne with
  | [], _, hne => exact (hne rfl).elim
  | [u], h, _ =>
    have h1 : u.oneCell' = true := by simpa using h
    exact ⟨u, ⟨rfl, h1⟩, by rw [cells_one h1]⟩
  | a :: b :: us, h, _ => exact ⟨.agg (a :: b :: us).toArray, by simp only [elemD, DRel]; exact ⟨_, rfl, DRels.of_vals h⟩, by simp [Value.cells]⟩
theorem open_flats {m : Nat} {t e : TypeId} {ks : List LK} (ht : P.underlying t = some (.slice e)) (hk : flatK P m e = some ks) (hc : ks.length = P.cellsOf e) (hpos : 0 < ks.length) {base b0 : Nat} {sp : Nat → Bool} {held : Bool} {r0 : Reach} {v : Value} {d : DataW H} {ps : List MemPlace} (hval : Value.okWide P w r0 b0 t v) (hd : DataW.Trod enc P w base sp held t v d ps) (p : Pin) :
    ∃ rows : List (List Value), (∀ us ∈ rows, LeavesOk ks us) ∧ DRel (allRO w p) (.slice (rows.map elemD)) v ∧ (rows.map strSum).sum + rows.length + 1 ≤ Rows.uptoBulk d := by
  obtain ⟨A, len, cap, rfl⟩ := okWide_slice ht hval
  obtain ⟨n, hn⟩ := hd
  rcases DataW.trod_slice ht hn with ⟨h1, h2⟩ | ⟨a, len', cap', elems, rest, n', rfl, h1, h2, hb, hl, hm, hlen, hel, _, _⟩
  · simp [Value.cells] at h1
    obtain ⟨rfl, rfl, rfl⟩ := h1
    refine ⟨[], by simp, ?_, by simp; exact bulk_pos d⟩
    simp only [List.map_nil, DRel]
    exact ⟨none, 0, rfl, Nat.le_refl _, .inl (by first | trivial | rfl)⟩
  · simp [Value.cells] at h1
    obtain ⟨rfl, rfl, rfl⟩ := h1
    have each : ∀ i, i < len → ∃ (us : List Value) (x : DataW H × List MemPlace), elems[i]? = some x ∧ LeavesOk ks us ∧ strSum us + 1 ≤ Rows.uptoBulk x.1 ∧ ∀ (j : Nat) (y : Value), us[j]? = some y → w.cell? ((a.add (i * P.cellsOf e)).add j) = some y := by
      intro i hi
      have h := hel i hi
      obtain ⟨x, hx⟩ : ∃ x, elems[i]? = some x := ⟨_, List.getElem?_eq_getElem (by omega)⟩
      rw [hx, Option.bind_eq_some_iff] at h
      obtain ⟨cs, q1, q2⟩ := h
      obtain ⟨r1, r2⟩ := flat_trod m q2 hk
      obtain ⟨_, q4, q5⟩ := World.cells?_some q1
      refine ⟨cs, x, hx, r1, r2, fun j y hj => ?_⟩
      have hjl := (List.getElem?_eq_some_iff.1 hj).1
      rw [q5 j (by omega)]; exact hj
    have build : ∀ (k i : Nat), i + k = len → ∃ rows : List (List Value), rows.length = k ∧ (∀ us ∈ rows, LeavesOk ks us) ∧ (rows.map strSum).sum + k ≤ Rows.uptoBulkAll ((elems.drop i).map (·.1)) ∧ ∀ (j : Nat) (us : List Value), rows[j]? = some us → ∀ (q : Nat) (y : Value), us[q]? = some y → w.cell? ((a.add ((i + j) * P.cellsOf e)).add q) = some y := by
      intro k
      induction k with
      | zero => intro i hi; exact ⟨[], rfl, by simp, by simp, by simp⟩
      | succ k ih =>
        intro i hi
        obtain ⟨us, x, hx, r1, r2, r3⟩ := each i (by omega)
        obtain ⟨rows, s1, s2, s3, s4⟩ := ih (i + 1) (by omega)
        have hil : i < elems.length := by omega
        have hxe : elems[i] = x := by
          rw [List.getElem?_eq_getElem hil] at hx
          exact Option.some.inj hx
        refine ⟨us :: rows, by simp [s1], fun u hu => (List.mem_cons.1 hu).elim (fun q => q ▸ r1) (s2 u), ?_, fun j u hj q y hq => ?_⟩
        · rw [List.drop_eq_getElem_cons hil, List.map_cons, List.map_cons, List.sum_cons, hxe]
          show _ ≤ Rows.uptoBulk x.1 + Rows.uptoBulkAll ((elems.drop (i + 1)).map (·.1))
          omega
        · cases j with
          | zero =>
            simp at hj
            subst hj
            exact r3 q y hq
          | succ j =>
            have := s4 j u (by simpa using hj) q y hq
            rw [show i + (j + 1) = i + 1 + j by omega]
            exact this
    obtain ⟨rows, s1, s2, s3, s4⟩ := build len 0 (by omega)
    refine ⟨rows, s2, ?_, ?_⟩
    · simp only [DRel, List.length_map, s1]
      refine ⟨some a, cap, rfl, hl, ?_⟩
      by_cases h0 : rows = []
      · exact .inl (by rw [h0]; rfl)
      right
      have hspot : a.spot = none := by
        match rows, h0 with
        | us :: rows', _ =>
          have hu := s2 us (by simp)
          have hul := LeavesOk.length hu
          have h := s4 0 us rfl 0 us[0] (List.getElem?_eq_getElem (by omega))
          simp only [Nat.zero_add, Nat.zero_mul, Addr.add, if_true] at h
          unfold World.cell? at h
          cases hsp : a.spot with
          | none => rfl
          | some q =>
            rw [hsp] at h
            split at h <;> simp at h
      have hadd : ∀ x y, (a.add x).add y = ⟨a.block, a.off + x + y, none⟩ := by
        intro x y
        obtain ⟨b, o, q⟩ := a
        simp only at hspot
        subst hspot
        rw [add_eq, add_eq]
      refine ⟨a.block, a.off, P.cellsOf e, by obtain ⟨b, o, q⟩ := a; simp only at hspot; subst hspot; rfl, ?_⟩
      have rowsD : ∀ (l : List (List Value)) (i : Nat), (∀ us ∈ l, LeavesOk ks us) → (∀ (j : Nat) (us : List Value), l[j]? = some us → ∀ (q : Nat) (y : Value), us[q]? = some y → w.cell? ((a.add ((i + j) * P.cellsOf e)).add q) = some y) → DRows (allRO w p) a.block (P.cellsOf e) (a.off + i * P.cellsOf e) (l.map elemD) := by
        intro l
        induction l with
        | nil => intro i _ _; trivial
        | cons us l ih =>
          intro i hl' hc'
          have hu := hl' us (by simp)
          have hul := LeavesOk.length hu
          obtain ⟨u, q1, q2⟩ := elemD_rel (r := allRO w p) hu.one (fun h => by rw [h] at hul; simp at hul; omega)
          simp only [List.map_cons, DRows]
          refine ⟨⟨u, q1, ?_, fun j y hj => ?_⟩, ?_⟩
          · have := congrArg List.length q2
            simp only [Array.length_toList] at this
            omega
          · have := hc' 0 us rfl j y (by rw [← q2]; simpa using hj)
            rw [hadd] at this
            simpa [allRO] using this
          · have := ih (i + 1) (fun x hx => hl' x (by simp [hx])) (fun j x hx q y hq => by
              have := hc' (j + 1) x (by simpa using hx) q y hq
              rw [show i + 1 + j = i + (j + 1) by omega]; exact this)
            rw [Nat.succ_mul, ← Nat.add_assoc] at this
            exact this
      have := rowsD rows 0 s2 s4
      simpa using this
    · simp only [Prod.mk.injEq] at h2
      rw [h2.1]
      simp only [Rows.uptoBulk]
      rw [List.drop_zero] at s3
      omega
theorem args_stay (hl : laidOutB P = true) {W W' : World} (hk : ∀ k, k < W.heap.size → W'.heap[k]? = W.heap[k]?) {sp : Nat → Bool} : ∀ {ts : List TypeId} {vs : List Value} {ds : List (DataW H)} {ps : List MemPlace}, (∀ t ∈ ts, P.readableRec t = true ∧ t < P.types.size) → (∀ p ∈ ps, p.block < W.heap.size) → (∀ p ∈ ps, sp p.block = true) →
    DataW.TrodAll enc P W 0 (fun _ => true) true ts vs ds ps → DataW.TrodAll enc P W' 0 sp true ts vs ds ps
  | [], [], [], ps, _, _, _, h => h
  | t :: ts, v :: vs, d :: ds, ps, ht, hb, hs, ⟨p, q, h1, h2, e⟩ => by
    subst e
    obtain ⟨r1, r2⟩ := ht t (by simp)
    refine ⟨p, q, WideElems.Trod_stays hl r1 r2 h1 (fun x hx => ?_) (fun x hx => hs x (by simp [hx])), args_stay hl hk (fun u hu => ht u (by simp [hu])) (fun x hx => hb x (by simp [hx])) (fun x hx => hs x (by simp [hx])) h2, rfl⟩
    have hlt := hb x (by simp [hx])
    cases x with
    | cell b o => exact cell_of_block (hk b hlt) o
    | map b => exact hk b hlt
  | [], _ :: _, _, _, _, _, _, h => by simp [DataW.TrodAll] at h
  | [], [], _ :: _, _, _, _, _, h => by simp [DataW.TrodAll] at h
  | _ :: _, [], _, _, _, _, _, h => by simp [DataW.TrodAll] at h
  | _ :: _, _ :: _, [], _, _, _, _, h => by simp [DataW.TrodAll] at h
end Ev
