/- What functions of the program compute, as plain Lean functions, each with its proof by a proved reader; plain laws about them (EvY). -/
import Derived.Test.YtohmflkolmobmaaGreatDoorEvX
import Derived.Lib.AppendStr
set_option linter.unusedSimpArgs false
set_option linter.unusedVariables false
namespace Ev
open Go Go.RowKit
variable {P : Program} {c : Cx}
theorem spliceV_below : ∀ (ws us : List Value) (off o : Nat), o < off → (spliceV us off ws)[o]? = us[o]?
  | [], _, _, _, _ => rfl
  | w :: ws, us, off, o, h => by
    simp only [spliceV]
    rw [spliceV_below ws _ _ _ (by omega), List.getElem?_set_ne (by omega)]
theorem spliceV_at : ∀ (ws us : List Value) (off j : Nat), off + ws.length ≤ us.length → j < ws.length → (spliceV us off ws)[off + j]? = ws[j]?
  | [], _, _, _, _, h => by simp at h
  | w :: ws, us, off, j, hl, h => by
    simp only [spliceV]
    simp only [List.length_cons] at hl h
    cases j with
    | zero =>
      rw [spliceV_below ws _ _ _ (by omega)]
      simp only [Nat.add_zero, List.getElem?_cons_zero]
      rw [List.getElem?_set]
      simp; omega
    | succ j =>
      have := spliceV_at ws (us.set off w) (off + 1) j (by simp; omega) (by omega)
      rw [show off + (j + 1) = off + 1 + j by omega, this]
      simp
theorem DRows.append {r : RO} {b k : Nat} : ∀ {xs ys : List D} {off : Nat}, DRows r b k off xs → DRows r b k (off + xs.length * k) ys → DRows r b k off (xs ++ ys)
  | [], ys, off, _, h => by simpa using h
  | x :: xs, ys, off, h, h' => by
    simp only [DRows] at h
    simp only [List.cons_append, DRows]
    refine ⟨h.1, DRows.append h.2 ?_⟩
    rw [show off + k + xs.length * k = off + (x :: xs).length * k by simp only [List.length_cons, Nat.succ_mul]; omega]
    exact h'
theorem rows_at {r r' : RO} {b k g off0 : Nat} {es : List D} (h : DRows r b k off0 es) (hle : RO.le r r') {base : Nat} {us : List Value} (hu : us.length = es.length) (h2 : ∀ (i : Nat) (d : D) (u : Value), es[i]? = some d → us[i]? = some u → DRel r d u ∧ u.cells.size = k)
    (hm : ∀ (j : Nat) (v : Value), (us.flatMap (·.cells.toList))[j]? = some v → r' g (base + j) = some v) : DRows r' g k base es :=
  DRows.of_list hu.symm (fun i d u e e' => ⟨DRel.mono hle _ (h2 i d u e e').1, (h2 i d u e e').2⟩) hm
theorem more_elems {w : World} (hro : c.ro.holds w) {y : AV} {v : Value} {es : List D} (hy : ARel c y v) (e : elemsOf y = some es) (hne : es ≠ []) {size : Nat} (hs : hasSize size es = true) :
    ∃ (us : List Value) (b k off : Nat), More P c w size es.length v (us.flatMap (·.cells.toList)).toArray ∧ us.length = es.length ∧ DRows c.ro b size off es ∧ (∀ (i : Nat) (d : D) (u : Value), es[i]? = some d → us[i]? = some u → DRel c.ro d u ∧ u.cells.size = size) := by
  have hd : DRel c.ro (.slice es) v := by
    unfold elemsOf at e
    split at e <;> first | (cases e; done) | skip
    · cases e; exact hy
    · cases e; exact ARel.toD _ hy rfl
    · cases e; exact (hne rfl).elim
  simp only [DRel] at hd
  obtain ⟨A, k, rfl, hk, hc⟩ := hd
  rcases hc with h0 | ⟨b, off, z, rfl, hr⟩
  · exact (hne h0).elim
  · have hz := rows_size hr hs hne
    subst hz
    obtain ⟨us, q1, q2, q3, q4⟩ := rows_cells hr
    refine ⟨us, b, k, off, ⟨fun w' => rfl, fun w' hw => ?_, by simpa using q3, fun x hx => ?_⟩, q1, hr, q2⟩
    · have := run_firstCells_some (P := P) w' z es.length ⟨b, off, none⟩ es.length k (us.flatMap (·.cells.toList)) q3 (fun j x e => by
        rw [add_eq]
        have := hro _ _ _ (q4 j x e).1
        simpa only [World.cell?, hw] using this)
      simpa using this
    · simp only [] at hx
      obtain ⟨j, hj⟩ := List.getElem?_of_mem hx
      exact (q4 j x hj).2
theorem strCells_get (b : ByteArray) (j : Nat) : (Lib.strCells b)[j]? = (b[j]?).map fun x => Value.int .u8 x.toNat := by
  unfold Lib.strCells
  rw [List.getElem?_map]
  by_cases h : j < b.size
  · rw [getElem?_pos b j h]
    have : j < b.data.toList.length := by rw [Array.length_toList]; exact h
    rw [List.getElem?_eq_getElem this]; rfl
  · rw [getElem?_neg b j h]
    have : b.data.toList.length ≤ j := by rw [Array.length_toList]; exact Nat.le_of_not_lt h
    rw [List.getElem?_eq_none this]
theorem more_bytes {w : World} (hro : c.ro.holds w) {y : AV} {v : Value} {b : ByteArray} (hy : ARel c y v) (e : moreBytes y = some b) (hne : b.size ≠ 0) : More P c w 1 b.size v (Lib.strCells b).toArray := by
  unfold moreBytes at e
  split at e
  · rename_i s
    cases e
    simp only [ARel, DRel] at hy
    obtain ⟨rfl, _⟩ := hy
    exact ⟨fun w' => rfl, fun w' _ => Lib.run_firstCells_string w' 1 b, by simp [Lib.strCells_length], fun x hx => Lib.strCells_oneCell b x (by simpa using hx)⟩
  · have hd := bytesOf_rel hy e
    simp only [DRel] at hd
    obtain ⟨A, k, rfl, hk, hc⟩ := hd
    rcases hc with h0 | ⟨g, off, rfl, hm⟩
    · exact (hne h0).elim
    · refine ⟨fun w' => rfl, fun w' hw => ?_, by simp [Lib.strCells_length], fun x hx => Lib.strCells_oneCell b x (by simpa using hx)⟩
      have := run_firstCells_some (P := P) w' 1 b.size ⟨g, off, none⟩ b.size k (Lib.strCells b) (by simp [Lib.strCells_length]) (fun j x e => by
        rw [add_eq]
        rw [strCells_get] at e
        cases hb : b[j]? with
        | none => simp [hb] at e
        | some y =>
          simp [hb] at e
          subst e
          have := hro _ _ _ (hm j y hb)
          simpa only [World.cell?, hw] using this)
      exact this
theorem cells_fresh {i : TypeInfo} {z : Value} (hzs : z.cells.size = i.size) {n : Nat} {news : Array Value} {m cap : Nat} (hs : news.size = m * i.size) (hc : m ≤ cap) : (news ++ Builtin.zeroCells z.cells (cap - m)).size = cap * i.size := by
  rw [Array.size_append, hs, zeroCells_size, hzs, ← Nat.add_mul]
  congr 1; omega
theorem append_none {boxes : List Box} {w : World} (hW : WOk c boxes w) {ats : Array TypeId} {t u ty e : TypeId} (h0 : ats[0]? = some t) (h1 : ats[1]? = some u) (ht : P.underlying t = some (.slice e)) (hu : ∃ d, P.underlying u = some d ∧ ∀ k, d ≠ .int k) (hi : ∃ i, P.info? e = some i)
    {x : AV} {v y : Value} {n : Nat} (hx : ARel c x v) (hn : slen x = some n) (hly : ∀ w : World, (Builtin.lenOf y).run P w = .ok 0 w) (hfy : ∀ size, (Builtin.firstCells size 0 y).run P w = .ok #[] w) : (Builtin.append_ ats ty #[v, y]).run P w = .ok v w := by
  obtain ⟨A, k, rfl, hk⟩ := slen_rel hx hn
  obtain ⟨i, hi⟩ := hi
  obtain ⟨d, hd, hdk⟩ := hu
  have hm : (match d with | .int _ => true | _ => false) = false := by
    cases d with
    | int k => exact (hdk k rfl).elim
    | _ => rfl
  cases A with
  | none => simp [Builtin.append_, h0, h1, run_underlying ht, run_underlying hd, hm, Go.sizeOf, typeInfo, hi, hly, hk, hfy]
  | some a => simp [Builtin.append_, h0, h1, run_underlying ht, run_underlying hd, hm, Go.sizeOf, typeInfo, hi, hly, hk, hfy, storeCells]
theorem growTok {boxes : List Box} {w : World} (hW : WOk c boxes w) {ats : Array TypeId} {t u ty e : TypeId} (h0 : ats[0]? = some t) (h1 : ats[1]? = some u) (ht : P.underlying t = some (.slice e)) (hu : ∃ d, P.underlying u = some d ∧ ∀ k, d ≠ .int k)
    {i : TypeInfo} {z : Value} (hi : P.info? e = some i) (hz : i.zero = some z) (hzs : z.cells.size = i.size) (hib : 0 < i.bytes) {k g cap n m : Nat} {q : Bool} (hq : q = true → c.ro.pin.bt e = true) (hk : c.toks[k]? = some n) (hτ : c.τ[k]? = some (some (g, cap, i.size, q))) {y : Value} {news : Array Value} (hm : More P c w i.size m y news) (hm0 : 0 < m)
    (hb : (n + m) * i.bytes ≤ maxBytes) (holds : ∀ j, j < n * i.size → ∃ v, c.ro g j = some v) :
    ∃ c' w' g' cap', (Builtin.append_ ats ty #[.slice (some ⟨g, 0, none⟩) n cap, y]).run P w = .ok (.slice (some ⟨g', 0, none⟩) (n + m) cap') w' ∧ WOk c' boxes w' ∧ Evo c w c' w' ∧ c'.toks = c.toks.set k (n + m) ∧ c'.τ[k]? = some (some (g', cap', i.size, q)) ∧ n + m ≤ cap' ∧
      (∀ j v, c.ro g j = some v → c'.ro g' j = some v) ∧ ∀ (j : Nat) (v : Value), news[j]? = some v → c'.ro g' (n * i.size + j) = some v := by
  obtain ⟨hnc, cur, e', hg, hcs, hfree, hqe⟩ := hW.tok k n g cap (i.size, q) hk hτ
  have hcell : ∀ j v, c.ro g j = some v → cur[j]? = some v := fun j v e => by
    have := hW.ro g j v e
    simpa [World.cell?, hg] using this
  have hlow : ∀ j v, c.ro g j = some v → j < n * i.size := fun j v e => by
    rcases Nat.lt_or_ge j (n * i.size) with h | h
    · exact h
    · rw [hfree j h] at e; cases e
  have h63 : n + m ≤ 9223372036854775807 := by
    have : n + m ≤ (n + m) * i.bytes := Nat.le_mul_of_pos_right _ hib
    unfold maxBytes at hb; omega
  by_cases hroom : n + m ≤ cap
  · have hfit : n * i.size + news.size ≤ cur.size := by rw [hm.size, hcs, ← Nat.add_mul]; exact Nat.mul_le_mul_right _ hroom
    have hrun := append_room_run h0 h1 ht hu hi hz hm.len hg hm.cells hm.one hroom hfit (ty := ty)
    have hrow := setRow_heap w g cur (spliceV cur.toList (n * i.size) news.toList).toArray e' (0, 0) hg
    have hpin : c.ro.pin g = none := by
      cases hp : c.ro.pin g with
      | none => rfl
      | some s =>
        obtain ⟨cs, te, fz, q1, q2⟩ := hW.ro.whole g s hp
        obtain ⟨q3, q4⟩ := hW.ro.known g s hp
        rw [hg] at q1
        cases q1
        refine (q4 (n * i.size) ?_ (hfree _ (Nat.le_refl _))).elim
        rw [← q2, hcs]
        refine Nat.mul_lt_mul_of_pos_right (by omega) (Nat.pos_of_ne_zero fun h0 => ?_)
        rw [← q2, hcs, h0] at q3
        simp at q3
    refine ⟨c.setTok k g cap (i.size, q) (n * i.size) (n + m) (fun o => (spliceV cur.toList (n * i.size) news.toList).toArray[o]?), _, g, cap, hrun,
      hW.setTok hk (by omega) hτ (.inl ⟨_, rfl, rfl⟩) hfree (fun o v e => ?_) hrow (fun j hj hne => setRow_other w g j _ hne) (by simp) (by simp; exact (Array.getElem?_eq_some_iff.1 hg).1) (by simp [length_spliceV, hcs]) hroom (Nat.mul_le_mul_right _ (by omega)) hpin hqe (fun q e => by
        obtain ⟨cs', te, fz, q1, q2⟩ := hW.ro.big g q e
        rw [hg] at q1; cases q1
        simp [length_spliceV, q2]),
      Evo.setTok hk (by omega) hτ (.inl ⟨_, rfl, rfl⟩) hfree (fun j hj hne => setRow_other w g j _ hne) (by simp) rfl rfl rfl, rfl, ?_, hroom, fun j v e => ?_, fun j v e => ?_⟩
    · simp only [List.getElem?_toArray]
      rw [spliceV_below _ _ _ _ (hlow o v e)]
      simpa using hcell o v e
    · simp only [Cx.setTok]
      have : k < c.τ.length := (List.getElem?_eq_some_iff.1 hτ).1
      simp [this]
    · exact (Cx.le_setTok hk (by omega) hfree).ro _ _ _ e
    · have hj : j < news.size := (Array.getElem?_eq_some_iff.1 e).1
      simp only [Cx.setTok]
      rw [if_pos ⟨trivial, by omega, by rw [hm.size] at hj; rw [Nat.add_mul]; omega⟩]
      simp only [List.getElem?_toArray]
      rw [spliceV_at _ _ _ _ (by simpa using hfit) (by simpa using hj)]
      simpa using e
  · have holds' : (cur.toList.take (n * i.size)).length = n * i.size := by
      rw [List.length_take, Array.length_toList, hcs]
      exact Nat.min_eq_left (Nat.mul_le_mul_right _ hnc)
    have hrun := append_grow_run h0 h1 ht hu hi hz hm.len (w := w) (b := ⟨g, 0, none⟩) (sLen := n) (sCap := cap) (olds := cur.toList.take (n * i.size)) holds' (fun j v e => by
      rw [add_eq]
      have hj : j < n * i.size := by
        have := (List.getElem?_eq_some_iff.1 e).1
        rw [holds'] at this; exact this
      rw [List.getElem?_take_of_lt hj] at e
      simpa [World.cell?, hg] using e) hm.cells (by omega) h63 (growslice_fits (by omega) (by unfold maxBytes at hb; exact hb)) (ty := ty)
    obtain ⟨cap', hcap⟩ : ∃ x, x = grownCap w (n + m) cap e := ⟨_, rfl⟩
    have hge : n + m ≤ cap' := by rw [hcap]; exact grownCap_ge w _ _ _
    rw [← hcap] at hrun
    obtain ⟨cells, hcells⟩ : ∃ x, x = (cur.toList.take (n * i.size)).toArray ++ news ++ Builtin.zeroCells z.cells (cap' - (n + m)) := ⟨_, rfl⟩
    rw [← hcells] at hrun
    have hcsize : cells.size = cap' * i.size := by
      rw [hcells, Array.size_append, Array.size_append, List.size_toArray, holds', hm.size, zeroCells_size, hzs, ← Nat.add_mul, ← Nat.add_mul]
      congr 1; omega
    have hc1 : ∀ j, j < n * i.size → cells[j]? = cur[j]? := fun j hj => by
      rw [hcells, Array.append_assoc, Array.getElem?_append_left (by simp [holds']; omega)]
      simp only [List.getElem?_toArray]
      rw [List.getElem?_take_of_lt hj]; simp
    have hc2 : ∀ j, j < news.size → cells[n * i.size + j]? = news[j]? := fun j hj => by
      rw [hcells, Array.append_assoc, Array.getElem?_append_right (by simp [holds'])]
      have : n * i.size + j - (cur.toList.take (n * i.size)).toArray.size = j := by simp [holds']
      rw [this, Array.getElem?_append_left hj]
    have hnew : (w.drew.alloc (.cells cells e)).heap[w.heap.size]? = some (.cells cells e (0, 0)) := heap_alloc_new w.drew _
    have hfree' : ∀ o, 0 ≤ o → c.ro w.heap.size o = none := fun o _ => ro_new hW _ _ (Nat.le_refl _)
    refine ⟨c.setTok k w.heap.size cap' (i.size, q) 0 (n + m) (fun o => cells[o]?), _, w.heap.size, cap', hrun,
      hW.setTok hk (by omega) hτ (.inr (Nat.le_refl _)) hfree' (fun o v e => by rw [hfree' o (Nat.zero_le _)] at e; cases e) hnew (fun j hj hne => heap_alloc_ne w.drew _ j hj) (by simp) (by simp) hcsize hge (Nat.zero_le _) (hW.ro.newpin (Nat.le_refl _)) hq (fun q e => absurd (hW.ro.big _ q e).lt (Nat.lt_irrefl _)),
      Evo.setTok hk (by omega) hτ (.inr (Nat.le_refl _)) hfree' (fun j hj hne => heap_alloc_ne w.drew _ j hj) (by simp) rfl rfl rfl, rfl, ?_, hge, fun j v e => ?_, fun j v e => ?_⟩
    · simp only [Cx.setTok]
      have : k < c.τ.length := (List.getElem?_eq_some_iff.1 hτ).1
      simp [this]
    · have hj := hlow j v e
      simp only [Cx.setTok]
      rw [if_pos ⟨trivial, Nat.zero_le _, by rw [Nat.add_mul]; omega⟩, hc1 j hj]
      exact hcell j v e
    · have hj : j < news.size := (Array.getElem?_eq_some_iff.1 e).1
      simp only [Cx.setTok]
      rw [if_pos ⟨trivial, Nat.zero_le _, by rw [hm.size] at hj; rw [Nat.add_mul]; omega⟩, hc2 j hj]
      exact e
theorem newTok {boxes : List Box} {w : World} (hW : WOk c boxes w) {ats : Array TypeId} {t u ty e : TypeId} (h0 : ats[0]? = some t) (h1 : ats[1]? = some u) (ht : P.underlying t = some (.slice e)) (hu : ∃ d, P.underlying u = some d ∧ ∀ k, d ≠ .int k)
    {i : TypeInfo} {z : Value} (hi : P.info? e = some i) (hz : i.zero = some z) (hzs : z.cells.size = i.size) (hib : 0 < i.bytes) {m : Nat} {q : Bool} (hq : q = true → c.ro.pin.bt e = true) {y : Value} {news : Array Value} (hm : More P c w i.size m y news) (hm0 : 0 < m) (hb : m * i.bytes ≤ maxBytes) :
    ∃ c' w' g' cap', (Builtin.append_ ats ty #[.slice none 0 0, y]).run P w = .ok (.slice (some ⟨g', 0, none⟩) m cap') w' ∧ WOk c' boxes w' ∧ Evo c w c' w' ∧ c'.toks = c.toks ++ [m] ∧ c'.τ[c.toks.length]? = some (some (g', cap', i.size, q)) ∧ m ≤ cap' ∧
      ∀ (j : Nat) (v : Value), news[j]? = some v → c'.ro g' j = some v := by
  have h63 : m ≤ 9223372036854775807 := by
    have : m ≤ m * i.bytes := Nat.le_mul_of_pos_right _ hib
    unfold maxBytes at hb; omega
  have hrun := append_nil_run h0 h1 ht hu hi hz hm.len (w := w) hm.cells hm0 h63 (by unfold maxBytes at hb; omega) (ty := ty)
  obtain ⟨cap', hcap⟩ : ∃ x, x = grownCap w m 0 e := ⟨_, rfl⟩
  have hge : m ≤ cap' := by rw [hcap]; exact grownCap_ge w _ _ _
  rw [← hcap] at hrun
  obtain ⟨cells, hcells⟩ : ∃ x, x = news ++ Builtin.zeroCells z.cells (cap' - m) := ⟨_, rfl⟩
  rw [← hcells] at hrun
  have hcs : cells.size = cap' * i.size := by rw [hcells]; exact cells_fresh hzs (n := 0) hm.size hge
  refine ⟨c.addTok w.heap.size cap' (i.size, q) m (fun o => cells[o]?), _, w.heap.size, cap', hrun, hW.addTok rfl hcs hge hq, Evo.addTok hW rfl rfl rfl rfl, rfl, ?_, hge, fun j v e => ?_⟩
  · simp only [Cx.addTok]; rw [← hW.tlen]; simp
  · have hj : j < news.size := (Array.getElem?_eq_some_iff.1 e).1
    simp only [Cx.addTok]
    rw [if_pos ⟨trivial, by rw [← hm.size]; exact hj⟩, hcells, Array.getElem?_append_left hj]
    exact e
theorem append_bare_run {ats : Array TypeId} {t u ty e : TypeId} {i : TypeInfo} {z : Value} (h0 : ats[0]? = some t) (h1 : ats[1]? = some u) (ht : P.underlying t = some (.slice e)) (hu : ∃ d, P.underlying u = some d ∧ ∀ k, d ≠ .int k)
    (hi : P.info? e = some i) (hz : i.zero = some z) {x : Value} {n : Nat} {news : Array Value} (hlen : ∀ w : World, (Builtin.lenOf x).run P w = .ok n w) {w : World} (hf : ∀ w' : World, w'.heap = w.heap → (Builtin.firstCells i.size n x).run P w' = .ok news w') (hn : 0 < n) (h63 : n ≤ 9223372036854775807) (h48 : n * i.bytes ≤ 140737488355328) (A : Option Addr) :
    (Builtin.append_ ats ty #[.slice A 0 0, x]).run P w = .ok (.slice (some ⟨w.heap.size, 0, none⟩) n (grownCap w n 0 e)) (w.drew.alloc (.cells (news ++ Builtin.zeroCells z.cells (grownCap w n 0 e - n)) e)) := by
  cases A with
  | none => exact append_nil_run h0 h1 ht hu hi hz hlen hf hn h63 (by omega)
  | some b =>
    have := append_grow_run h0 h1 ht hu hi hz hlen (w := w) (b := b) (sLen := 0) (sCap := 0) (olds := []) (by simp) (by simp) hf (by omega) (by omega) (growslice_fits (by omega) (by simpa using h48)) (ty := ty)
    simpa using this
theorem bindTok {boxes : List Box} {w : World} (hW : WOk c boxes w) {ats : Array TypeId} {t u ty e : TypeId} (h0 : ats[0]? = some t) (h1 : ats[1]? = some u) (ht : P.underlying t = some (.slice e)) (hu : ∃ d, P.underlying u = some d ∧ ∀ k, d ≠ .int k)
    {i : TypeInfo} {z : Value} (hi : P.info? e = some i) (hz : i.zero = some z) (hzs : z.cells.size = i.size) (hib : 0 < i.bytes) {k : Nat} {q : Bool} (hq : q = true → c.ro.pin.bt e = true) (hk : c.toks[k]? = some 0) (hτ : c.τ[k]? = some none) {m : Nat} {y : Value} {news : Array Value} (hm : More P c w i.size m y news) (hm0 : 0 < m) (hb : m * i.bytes ≤ maxBytes) (A : Option Addr) :
    ∃ c' w' g' cap', (Builtin.append_ ats ty #[.slice A 0 0, y]).run P w = .ok (.slice (some ⟨g', 0, none⟩) m cap') w' ∧ WOk c' boxes w' ∧ Evo c w c' w' ∧ c'.toks = c.toks.set k m ∧ c'.τ[k]? = some (some (g', cap', i.size, q)) ∧ m ≤ cap' ∧
      ∀ (j : Nat) (v : Value), news[j]? = some v → c'.ro g' j = some v := by
  have h63 : m ≤ 9223372036854775807 := by
    have : m ≤ m * i.bytes := Nat.le_mul_of_pos_right _ hib
    unfold maxBytes at hb; omega
  have hrun := append_bare_run h0 h1 ht hu hi hz hm.len (w := w) hm.cells hm0 h63 (by unfold maxBytes at hb; omega) A (ty := ty)
  obtain ⟨cap', hcap⟩ : ∃ x, x = grownCap w m 0 e := ⟨_, rfl⟩
  have hge : m ≤ cap' := by rw [hcap]; exact grownCap_ge w _ _ _
  rw [← hcap] at hrun
  obtain ⟨cells, hcells⟩ : ∃ x, x = news ++ Builtin.zeroCells z.cells (cap' - m) := ⟨_, rfl⟩
  rw [← hcells] at hrun
  have hcs : cells.size = cap' * i.size := by rw [hcells]; exact cells_fresh hzs (n := 0) hm.size hge
  have hnew : (w.drew.alloc (.cells cells e)).heap[w.heap.size]? = some (.cells cells e (0, 0)) := heap_alloc_new w.drew _
  have hfree' : ∀ o, 0 ≤ o → c.ro w.heap.size o = none := fun o _ => ro_new hW _ _ (Nat.le_refl _)
  refine ⟨c.setTok k w.heap.size cap' (i.size, q) 0 m (fun o => cells[o]?), _, w.heap.size, cap', hrun,
    hW.setTok hk hm0 hτ (.inr (Nat.le_refl _)) hfree' (fun o v e => by rw [hfree' o (Nat.zero_le _)] at e; cases e) hnew (fun j hj hne => heap_alloc_ne w.drew _ j hj) (by simp) (by simp) hcs hge (Nat.zero_le _) (hW.ro.newpin (Nat.le_refl _)) hq (fun q e => absurd (hW.ro.big _ q e).lt (Nat.lt_irrefl _)),
    Evo.setTok hk hm0 hτ (.inr (Nat.le_refl _)) hfree' (fun j hj hne => heap_alloc_ne w.drew _ j hj) (by simp) rfl rfl rfl, rfl, ?_, hge, fun j v e => ?_⟩
  · simp only [Cx.setTok]
    have : k < c.τ.length := (List.getElem?_eq_some_iff.1 hτ).1
    simp [this]
  · have hj : j < news.size := (Array.getElem?_eq_some_iff.1 e).1
    simp only [Cx.setTok]
    rw [if_pos ⟨trivial, Nat.zero_le _, by rw [← hm.size]; exact hj⟩, hcells, Array.getElem?_append_left hj]
    exact e
theorem growBox {boxes : List Box} {w : World} (hW : WOk c boxes w) {ats : Array TypeId} {t u ty e : TypeId} (h0 : ats[0]? = some t) (h1 : ats[1]? = some u) (ht : P.underlying t = some (.slice e)) (hu : ∃ d, P.underlying u = some d ∧ ∀ k, d ≠ .int k)
    {i : TypeInfo} {z : Value} (hi : P.info? e = some i) (hz : i.zero = some z) (hzs : z.cells.size = i.size) (hib : 0 < i.bytes) {ib k g cap n m z' : Nat} {es : List D} (hb' : boxes[ib]? = some (.row z' es)) (hg' : c.β[ib]? = some g) (hsz : c.ro.siz g = some (cap * i.size)) (hnc : n ≤ cap) (hk : c.toks[k]? = some n) (hτ : c.τ[k]? = some none) {y : Value} {news : Array Value} (hm : More P c w i.size m y news) (hm0 : 0 < m)
    (hb : (n + m) * i.bytes ≤ maxBytes) :
    ∃ c' w' g' cap', (Builtin.append_ ats ty #[.slice (some ⟨g, 0, none⟩) n cap, y]).run P w = .ok (.slice (some ⟨g', 0, none⟩) (n + m) cap') w' ∧ WOk c' (boxes.set ib (.row i.size [])) w' ∧ Evo c w c' w' ∧ c'.toks = c.toks.set k (n + m) ∧ n + m ≤ cap' ∧
      ((c'.β[ib]? = some g' ∧ c'.τ[k]? = some none ∧ c'.ro.siz g' = some (cap' * i.size)) ∨ (c'.τ[k]? = some (some (g', cap', i.size, false)) ∧ ∀ j, j < (n + m) * i.size → ∃ v, c'.ro g' j = some v)) := by
  obtain ⟨cur, e', hg, _⟩ := hW.box ib _ g hb' hg'
  have hcs : cur.size = cap * i.size := by
    obtain ⟨cs', te, fz, q1, q2⟩ := hW.ro.big g _ hsz
    rw [hg] at q1; cases q1; exact q2
  have hlive := hW.live hb' (by simp) hg'
  have h63 : n + m ≤ 9223372036854775807 := by
    have : n + m ≤ (n + m) * i.bytes := Nat.le_mul_of_pos_right _ hib
    unfold maxBytes at hb; omega
  by_cases hroom : n + m ≤ cap
  · have hfit : n * i.size + news.size ≤ cur.size := by rw [hm.size, hcs, ← Nat.add_mul]; exact Nat.mul_le_mul_right _ hroom
    have hrun := append_room_run h0 h1 ht hu hi hz hm.len hg hm.cells hm.one hroom hfit (ty := ty)
    have hrow := setRow_heap w g cur (spliceV cur.toList (n * i.size) news.toList).toArray e' (0, 0) hg
    have hW2 := hW.setBox hg' hlive (by simp) (fun j hj => setRow_other w g j (spliceV cur.toList (n * i.size) news.toList).toArray hj) (.row i.size []) ⟨_, e', hrow, by simp⟩ (sized_set hg hrow (by simp [length_spliceV]))
    have hE2 := Evo.setBox (c := c) (List.mem_of_getElem? hg') hlive (by simp) (fun j hj => setRow_other w g j (spliceV cur.toList (n * i.size) news.toList).toArray hj) rfl rfl rfl
    exact ⟨c.putTok k (n + m), _, g, cap, hrun, hW2.putTok hk (by omega) hτ, hE2.trans (Evo.putTok hk (by omega)), rfl, hroom, .inl ⟨hg', hτ, hsz⟩⟩
  · have holds' : (cur.toList.take (n * i.size)).length = n * i.size := by
      rw [List.length_take, Array.length_toList, hcs]
      exact Nat.min_eq_left (Nat.mul_le_mul_right _ hnc)
    have hrun := append_grow_run h0 h1 ht hu hi hz hm.len (w := w) (b := ⟨g, 0, none⟩) (sLen := n) (sCap := cap) (olds := cur.toList.take (n * i.size)) holds' (fun j v e => by
      rw [add_eq]
      have hj : j < n * i.size := by
        have := (List.getElem?_eq_some_iff.1 e).1
        rw [holds'] at this; exact this
      rw [List.getElem?_take_of_lt hj] at e
      simpa [World.cell?, hg] using e) hm.cells (by omega) h63 (growslice_fits (by omega) (by unfold maxBytes at hb; exact hb)) (ty := ty)
    obtain ⟨cap', hcap⟩ : ∃ x, x = grownCap w (n + m) cap e := ⟨_, rfl⟩
    have hge : n + m ≤ cap' := by rw [hcap]; exact grownCap_ge w _ _ _
    rw [← hcap] at hrun
    obtain ⟨cells, hcells⟩ : ∃ x, x = (cur.toList.take (n * i.size)).toArray ++ news ++ Builtin.zeroCells z.cells (cap' - (n + m)) := ⟨_, rfl⟩
    rw [← hcells] at hrun
    have hcsize : cells.size = cap' * i.size := by
      rw [hcells, Array.size_append, Array.size_append, List.size_toArray, holds', hm.size, zeroCells_size, hzs, ← Nat.add_mul, ← Nat.add_mul]
      congr 1; omega
    have hnew : (w.drew.alloc (.cells cells e)).heap[w.heap.size]? = some (.cells cells e (0, 0)) := heap_alloc_new w.drew _
    have hfree' : ∀ o, 0 ≤ o → c.ro w.heap.size o = none := fun o _ => ro_new hW _ _ (Nat.le_refl _)
    have hW2 := hW.setTok hk (by omega : n < n + m) hτ (.inr (Nat.le_refl _)) hfree' (fun o v e => by rw [hfree' o (Nat.zero_le _)] at e; cases e) hnew (fun j hj hne => heap_alloc_ne w.drew _ j hj) (by simp) (by simp) hcsize hge (Nat.zero_le _) (hW.ro.newpin (Nat.le_refl _)) (z := (i.size, false)) (fun h => by cases h) (fun q e => absurd (hW.ro.big _ q e).lt (Nat.lt_irrefl _))
    have hE2 := Evo.setTok (cap := cap') (z := (i.size, false)) (n := 0) (cells := cells) (w' := w.drew.alloc (.cells cells e)) hk (by omega : n < n + m) hτ (.inr (Nat.le_refl w.heap.size)) hfree' (fun j hj hne => heap_alloc_ne w.drew _ j hj) (by simp) rfl rfl rfl
    have hg2 : (w.drew.alloc (.cells cells e)).heap[g]? = some (.cells cur e' (0, 0)) := (heap_alloc_ne w.drew _ g (Array.getElem?_eq_some_iff.1 hg).1).trans hg
    refine ⟨_, _, w.heap.size, cap', hrun, hW2.setBox hg' hlive rfl (fun _ _ => rfl) (.row i.size []) ⟨cur, e', hg2, by simp⟩ (fun _ q => q), hE2, rfl, hge, .inr ⟨?_, fun j hj => ?_⟩⟩
    · simp only [Cx.setTok]
      have : k < c.τ.length := (List.getElem?_eq_some_iff.1 hτ).1
      simp [this]
    · simp only [Cx.setTok]
      rw [if_pos ⟨trivial, Nat.zero_le _, hj⟩]
      have : j < cells.size := by rw [hcsize]; exact Nat.lt_of_lt_of_le hj (Nat.mul_le_mul_right _ hge)
      exact ⟨_, Array.getElem?_eq_getElem this⟩
theorem growFog {boxes : List Box} {w : World} (hW : WOk c boxes w) {ats : Array TypeId} {t u ty e : TypeId} (h0 : ats[0]? = some t) (h1 : ats[1]? = some u) (ht : P.underlying t = some (.slice e)) (hu : ∃ d, P.underlying u = some d ∧ ∀ k, d ≠ .int k)
    {i : TypeInfo} {z : Value} (hi : P.info? e = some i) (hz : i.zero = some z) (hzs : z.cells.size = i.size) (hib : 0 < i.bytes) {ib k n m z' : Nat} {es : List D} (hb' : boxes[ib]? = some (.row z' es)) (hk : c.toks[k]? = some n) {v : Value} (hx : ARel c (.fsl ib k i.size n) v) {y : Value} {news : Array Value} (hm : More P c w i.size m y news) (hm0 : 0 < m)
    (hb : (n + m) * i.bytes ≤ maxBytes) :
    ∃ c' w' v', (Builtin.append_ ats ty #[v, y]).run P w = .ok v' w' ∧ WOk c' (boxes.set ib (.row i.size [])) w' ∧ Evo c w c' w' ∧ c'.toks = c.toks.set k (n + m) ∧ ARel c' (.fsl ib k i.size (n + m)) v' := by
  simp only [ARel] at hx
  obtain ⟨g, cap, rfl, hnc, n', hn', hle, hx⟩ := hx
  rw [hk] at hn'; cases hn'
  have hkl : k < c.toks.length := (List.getElem?_eq_some_iff.1 hk).1
  rcases hx rfl with ⟨hg', hτ, hsz⟩ | ⟨hτ, hro⟩
  · obtain ⟨c', w', g', cap', q1, q2, q3, q4, q5, q6⟩ := growBox hW h0 h1 ht hu hi hz hzs hib hb' hg' hsz hnc hk hτ hm hm0 hb (ty := ty)
    refine ⟨c', w', _, q1, q2, q3, q4, ?_⟩
    simp only [ARel]
    exact ⟨g', cap', rfl, q5, n + m, by rw [q4]; simp [hkl], Nat.le_refl _, fun _ => q6⟩
  · obtain ⟨c', w', g', cap', q1, q2, q3, q4, q5, q6, q7, q8⟩ := growTok hW h0 h1 ht hu hi hz hzs hib (fun h => by cases h) hk (q := false) hτ hm hm0 hb hro (ty := ty)
    have hbl : ib < boxes.length := (List.getElem?_eq_some_iff.1 hb').1
    obtain ⟨g0, hg0⟩ : ∃ g0, c'.β[ib]? = some g0 := ⟨_, List.getElem?_eq_getElem (by rw [q2.len]; exact hbl)⟩
    obtain ⟨cur, e', hcur, _⟩ := q2.box ib _ g0 hb' hg0
    refine ⟨c', w', _, q1, q2.setBox hg0 (q2.live hb' (by simp) hg0) rfl (fun _ _ => rfl) (.row i.size []) ⟨cur, e', hcur, by simp⟩ (fun _ q => q), q3, q4, ?_⟩
    simp only [ARel]
    refine ⟨g', cap', rfl, q6, n + m, by rw [q4]; simp [hkl], Nat.le_refl _, fun _ => .inr ⟨q5, fun j hj => ?_⟩⟩
    by_cases hjn : j < n * i.size
    · obtain ⟨v, hv⟩ := hro j hjn
      exact ⟨v, q7 j v hv⟩
    · rw [Nat.add_mul] at hj
      have hjl : j - n * i.size < news.size := by rw [hm.size]; omega
      have := q8 (j - n * i.size) _ (Array.getElem?_eq_getElem hjl)
      rw [show n * i.size + (j - n * i.size) = j by omega] at this
      exact ⟨_, this⟩
theorem append_step {boxes : List Box} {w : World} (hbt : ∀ t, byteT P t = true → c.ro.pin.bt t = true) (hW : WOk c boxes w) {ats : Array TypeId} {t u ty : TypeId} (h0 : ats[0]? = some t) (h1 : ats[1]? = some u) (hu : ∃ d, P.underlying u = some d ∧ ∀ k, d ≠ .int k) {x y : AV} {v v' : Value} (hx : ARel c x v) (hy : ARel c y v') {r : Res}
    (e : evAppend P t x y boxes c.toks = some r) : Stepped P c w (do pure (.value (← Builtin.append_ ats ty #[v, v']))) r.1 r.2.1 r.2.2 := by
  unfold evAppend at e
  split at e
  · rename_i el ht
    split at e
    · rename_i hby
      have helU := isByte_iff hby
      split at e
      · rename_i b hmb
        split at e
        · rename_i hb0
          split at e
          · rename_i n hn
            cases e
            have hl : ∀ w : World, (Builtin.lenOf v').run P w = .ok 0 w ∧ ∀ size, (Builtin.firstCells size 0 v').run P w = .ok #[] w := by
              intro w
              unfold moreBytes at hmb
              split at hmb
              · rename_i s
                cases hmb
                simp only [ARel, DRel] at hy
                obtain ⟨rfl, _⟩ := hy
                refine ⟨by simp [Builtin.lenOf, hb0], fun size => ?_⟩
                simp [Builtin.firstCells]
              · have hd := bytesOf_rel hy hmb
                simp only [DRel] at hd
                obtain ⟨A, k, rfl, hk, _⟩ := hd
                refine ⟨by simp [Builtin.lenOf, hb0], fun size => ?_⟩
                cases A <;> simp [Builtin.firstCells, loadCells, loadCellsFrom]
            exact Stepped.quiet hW ⟨v, append_none hW h0 h1 ht hu (info_of_underlying helU) hx hn (fun w => (hl w).1) (fun size => (hl w).2 size), hx⟩
          · cases e
        · rename_i hb0
          split at e
          · split at e
            · rename_i hc
              cases e
              obtain ⟨i, z, hi, hz, hzs, hi0, hib⟩ := okElem_info hc.2.1
              simp only [ARel] at hx
              subst hx
              have hs1 : i.size = 1 := by rw [← cellsOf_info hi]; exact hc.2.2
              have hm := more_bytes (P := P) (w := w) hW.ro hy hmb hb0
              rw [← hs1] at hm
              have hbb : b.size * i.bytes ≤ maxBytes := by
                have := hc.1; simp only [Program.bytesOf, hi] at this; exact this
              obtain ⟨c', w', g', cap', q1, q2, q3, q4, q5, q6, q7⟩ := newTok hW h0 h1 ht hu hi hz hzs hib (fun _ => hbt _ (by simp [byteT, hby, hc.2.2])) hm (by omega) hbb (q := true) (ty := ty)
              refine ⟨c', w', .value (.slice (some ⟨g', 0, none⟩) b.size cap'), by simp only [Sem.run_bind, q1, Result.andThen, Sem.run_pure], q2, q3, q4, .inl ⟨_, rfl, ?_⟩⟩
              simp only [ARel]
              refine .inl ⟨g', cap', rfl, q6, fun j y hj => q7 j _ ?_, b.size, by rw [q4]; simp, Nat.le_refl _, fun _ => by rw [q5, hs1]⟩
              simp only [List.getElem?_toArray]
              rw [strCells_get, hj]; rfl
            · cases e
          · rename_i t' a
            split at e
            · rename_i hc
              cases e
              obtain ⟨i, z, hi, hz, hzs, hi0, hib⟩ := okElem_info hc.2.2.1
              have hs1 : i.size = 1 := by rw [← cellsOf_info hi]; exact hc.2.2.2
              have hm := more_bytes (P := P) (w := w) hW.ro hy hmb hb0
              rw [← hs1] at hm
              have hbb : (a.size + b.size) * i.bytes ≤ maxBytes := by
                have := hc.2.1; simp only [Program.bytesOf, hi] at this; exact this
              simp only [ARel] at hx
              rcases hx with ⟨g, cap, rfl, hcap, hro, n, hn, hle, hτ⟩ | ⟨ha0, rfl, _, n, hn, hτ⟩
              case inr =>
                rw [hc.1] at hn
                cases hn
                have hae : a = .empty := ByteArray.size_eq_zero_iff.1 ha0
                subst hae
                obtain ⟨c', w', g', cap', q1, q2, q3, q4, q5, q6, q7⟩ := bindTok hW h0 h1 ht hu hi hz hzs hib (fun _ => hbt _ (by simp [byteT, hby, hc.2.2.2])) hc.1 (hτ rfl) hm (by omega) (by simpa using hbb) none (q := true) (ty := ty)
                have hsz : (ByteArray.empty ++ b).size = b.size := by rw [ByteArray.size_append]; simp
                refine ⟨c', w', .value (.slice (some ⟨g', 0, none⟩) b.size cap'), by simp only [Sem.run_bind, q1, Result.andThen, Sem.run_pure], q2, q3, by simpa using q4, .inl ⟨_, rfl, ?_⟩⟩
                simp only [ARel]
                refine .inl ⟨g', cap', by rw [hsz], by rw [hsz]; exact q6, fun j y hj => q7 j _ ?_, b.size, ?_, by rw [hsz]; exact Nat.le_refl _, fun _ => by rw [q5, hs1]⟩
                · simp only [List.getElem?_toArray]
                  have hbe : ByteArray.empty ++ b = b := by simp
                  rw [hbe] at hj
                  rw [strCells_get, hj]; rfl
                · rw [q4]
                  have : t' < c.toks.length := (List.getElem?_eq_some_iff.1 hc.1).1
                  simp [this]
              rw [hc.1] at hn
              cases hn
              obtain ⟨c', w', g', cap', q1, q2, q3, q4, q5, q6, q7, q8⟩ := growTok hW h0 h1 ht hu hi hz hzs hib (fun _ => hbt _ (by simp [byteT, hby, hc.2.2.2])) hc.1 (q := true) (by rw [hs1]; exact hτ rfl) hm (by omega) hbb (fun j hj => ⟨_, hro j _ (getElem?_pos a j (by rw [hs1] at hj; omega))⟩) (ty := ty)
              refine ⟨c', w', .value (.slice (some ⟨g', 0, none⟩) (a.size + b.size) cap'), by simp only [Sem.run_bind, q1, Result.andThen, Sem.run_pure], q2, q3, q4, .inl ⟨_, rfl, ?_⟩⟩
              simp only [ARel]
              have hsz : (a ++ b).size = a.size + b.size := ByteArray.size_append
              refine .inl ⟨g', cap', by rw [hsz], by rw [hsz]; exact q6, fun j y hj => ?_, a.size + b.size, ?_, by rw [hsz]; exact Nat.le_refl _, fun _ => by rw [q5, hs1]⟩
              · have hj' : j < (a ++ b).size := by
                  rcases Nat.lt_or_ge j (a ++ b).size with h' | h'
                  · exact h'
                  · rw [getElem?_neg _ j (by omega)] at hj; cases hj
                rw [getElem?_pos _ j hj'] at hj
                by_cases hja : j < a.size
                · rw [ByteArray.getElem_append_left hja] at hj
                  exact q7 j _ (hro j y (by rw [getElem?_pos a j hja]; exact hj))
                · rw [ByteArray.getElem_append_right (by omega)] at hj
                  have := q8 (j - a.size) (.int .u8 y.toNat) (by
                    simp only [List.getElem?_toArray]
                    rw [strCells_get, getElem?_pos b (j - a.size) (by omega), hj]; rfl)
                  rw [hs1, Nat.mul_one, show a.size + (j - a.size) = j by omega] at this
                  exact this
              · rw [q4]
                have : t' < c.toks.length := (List.getElem?_eq_some_iff.1 hc.1).1
                simp [this]
            · cases e
          · cases e
      · cases e
    · split at e
      · rename_i b hmb
        split at e
        · rename_i hb0
          split at e
          · rename_i n hn
            split at e
            rotate_left
            · cases e
            rename_i hinf
            cases e
            have hbn : b = [] := by simpa using hb0
            subst hbn
            have hd : DRel c.ro (.slice []) v' := by
              unfold elemsOf at hmb
              split at hmb <;> first | (cases hmb; done) | skip
              · cases hmb; exact hy
              · cases hmb; exact ARel.toD _ hy rfl
              · cases hmb; exact ARel.toD _ hy rfl
            simp only [DRel] at hd
            obtain ⟨A, k, rfl, hk, _⟩ := hd
            exact Stepped.quiet hW ⟨v, append_none hW h0 h1 ht hu (Option.isSome_iff_exists.1 hinf) hx hn (fun w => rfl) (fun size => by cases A <;> simp [Builtin.firstCells, loadCells, loadCellsFrom]), hx⟩
          · cases e
        · rename_i hb0
          have hbne : b ≠ [] := fun h => hb0 (by simp [h])
          split at e
          · rename_i hsz
            obtain ⟨us, gb, kb, off, hm, hul, hrows, hrel⟩ := more_elems (P := P) (w := w) hW.ro hy hmb hbne hsz.1
            split at e
            · split at e
              · rename_i hc
                cases e
                obtain ⟨i, z, hi, hz, hzs, hi0, hib⟩ := okElem_info hc.2
                simp only [ARel] at hx
                subst hx
                have hs1 := cellsOf_info hi
                rw [hs1] at hm hrel hrows
                have hbb : b.length * i.bytes ≤ maxBytes := by
                  have := hc.1; simp only [Program.bytesOf, hi] at this; exact this
                obtain ⟨c', w', g', cap', q1, q2, q3, q4, q5, q6, q7⟩ := newTok hW h0 h1 ht hu hi hz hzs hib (fun h => by cases h) hm (List.length_pos_iff.2 hbne) hbb (q := false) (ty := ty)
                refine ⟨c', w', .value (.slice (some ⟨g', 0, none⟩) b.length cap'), by simp only [Sem.run_bind, q1, Result.andThen, Sem.run_pure], q2, q3, q4, .inl ⟨_, rfl, ?_⟩⟩
                simp only [ARel]
                refine .inl ⟨g', cap', i.size, rfl, q6, ⟨hbne, rows_at hrows q3.le.ro hul hrel (fun j x e => by rw [Nat.zero_add]; exact q7 j x (by simpa using e))⟩, b.length, by rw [q4]; simp, Nat.le_refl _, fun _ => q5⟩
              · cases e
            · rename_i t' a
              split at e
              · rename_i hc
                cases e
                obtain ⟨i, z, hi, hz, hzs, hi0, hib⟩ := okElem_info hc.2.2.1
                simp only [ARel] at hx
                rcases hx with ⟨g, cap, k, rfl, hcap, ⟨hane, hro⟩, n, hn, hle, hτ⟩ | ⟨rfl, ⟨A, rfl⟩, n, hn, hτ⟩
                case inr =>
                  rw [hc.1] at hn
                  cases hn
                  have hs1 := cellsOf_info hi
                  rw [hs1] at hm hrel hrows
                  have hbb : b.length * i.bytes ≤ maxBytes := by
                    have := hc.2.1; simp only [Program.bytesOf, hi] at this; simpa using this
                  obtain ⟨c', w', g', cap', q1, q2, q3, q4, q5, q6, q7⟩ := bindTok hW h0 h1 ht hu hi hz hzs hib (fun h => by cases h) hc.1 (hτ rfl) hm (List.length_pos_iff.2 hbne) hbb A (q := false) (ty := ty)
                  refine ⟨c', w', .value (.slice (some ⟨g', 0, none⟩) b.length cap'), by simp only [Sem.run_bind, q1, Result.andThen, Sem.run_pure], q2, q3, by simpa using q4, .inl ⟨_, rfl, ?_⟩⟩
                  simp only [ARel, List.nil_append]
                  refine .inl ⟨g', cap', i.size, rfl, q6, ⟨hbne, rows_at hrows q3.le.ro hul hrel (fun j x e => by rw [Nat.zero_add]; exact q7 j x (by simpa using e))⟩, b.length, ?_, Nat.le_refl _, fun _ => q5⟩
                  rw [q4]
                  have : t' < c.toks.length := (List.getElem?_eq_some_iff.1 hc.1).1
                  simp [this]
                rw [hc.1] at hn
                cases hn
                have hs1 := cellsOf_info hi
                have hk := rows_size hro (by simpa [fitsA] using hsz.2) hane
                rw [hs1] at hm hrel hrows hk
                subst hk
                have hbb : (a.length + b.length) * i.bytes ≤ maxBytes := by
                  have := hc.2.1; simp only [Program.bytesOf, hi] at this; exact this
                obtain ⟨vs, w1, w2, w3, w4⟩ := rows_cells hro
                obtain ⟨c', w', g', cap', q1, q2, q3, q4, q5, q6, q7, q8⟩ := growTok hW h0 h1 ht hu hi hz hzs hib (fun h => by cases h) hc.1 (q := false) (hτ rfl) hm (List.length_pos_iff.2 hbne) hbb (fun j hj => by
                  have hjl : j < (vs.flatMap (·.cells.toList)).length := by rw [w3]; exact hj
                  have := (w4 j _ (List.getElem?_eq_getElem hjl)).1
                  rw [Nat.zero_add] at this
                  exact ⟨_, this⟩) (ty := ty)
                refine ⟨c', w', .value (.slice (some ⟨g', 0, none⟩) (a.length + b.length) cap'), by simp only [Sem.run_bind, q1, Result.andThen, Sem.run_pure], q2, q3, q4, .inl ⟨_, rfl, ?_⟩⟩
                simp only [ARel]
                have hsz' : (a ++ b).length = a.length + b.length := List.length_append
                refine .inl ⟨g', cap', i.size, by rw [hsz'], by rw [hsz']; exact q6, ⟨by simp [hane], DRows.append ?_ ?_⟩, a.length + b.length, ?_, by rw [hsz']; exact Nat.le_refl _, fun _ => q5⟩
                · refine rows_at hro q3.le.ro w1 w2 (fun j x e => ?_)
                  have := (w4 j x e).1
                  rw [Nat.zero_add] at this ⊢
                  exact q7 j x this
                · refine rows_at hrows q3.le.ro hul hrel (fun j x e => ?_)
                  rw [Nat.zero_add]
                  exact q8 j x (by simpa using e)
                · rw [q4]
                  have : t' < c.toks.length := (List.getElem?_eq_some_iff.1 hc.1).1
                  simp [this]
              · cases e
            · cases e
          · cases e
      · cases e
  · cases e
theorem fogB_step {boxes : List Box} {w : World} (hW : WOk c boxes w) {ats : Array TypeId} {t u ty el : TypeId} (h0 : ats[0]? = some t) (h1 : ats[1]? = some u) (ht : P.underlying t = some (.slice el)) (hu : ∃ d, P.underlying u = some d ∧ ∀ k, d ≠ .int k) {x y : AV} {v v' : Value} (hx : ARel c x v) (hy : ARel c y v') {r : Res}
    (e : evFogB P el x y boxes c.toks = some r) : Stepped P c w (do pure (.value (← Builtin.append_ ats ty #[v, v']))) r.1 r.2.1 r.2.2 := by
  unfold evFogB at e
  split at e
  case h_2 => cases e
  rename_i b hmb
  split at e
  · cases e
  rename_i hb0
  split at e
  case isFalse => cases e
  rename_i hone
  have hm := more_bytes (P := P) (w := w) hW.ro hy hmb hb0
  split at e
  · rename_i ib zz n
    split at e
    · rename_i z' es hbx
      split at e
      · rename_i hc
        cases e
        obtain ⟨rfl, hcb, hok⟩ := hc
        obtain ⟨i, z, hi, hz, hzs, hi0, hib⟩ := okElem_info hok
        have hs1 := (cellsOf_info hi).symm.trans hone
        have hbb : (n + b.size) * i.bytes ≤ maxBytes := by
          have := hcb; simp only [Program.bytesOf, hi] at this; exact this
        simp only [ARel] at hx
        obtain ⟨g, cap, hg', hnc, hsiz, rfl⟩ := hx
        have hx2 : ARel (c.addFog n) (.fsl ib c.toks.length i.size n) (.slice (some ⟨g, 0, none⟩) n cap) := by
          simp only [ARel]
          exact ⟨g, cap, rfl, hnc, n, by simp [Cx.addFog], Nat.le_refl _, fun _ => .inl ⟨hg', by simp only [Cx.addFog]; rw [← hW.tlen]; simp, by rw [hs1]; exact hsiz⟩⟩
        have hm2 : More P (c.addFog n) w i.size b.size v' (Lib.strCells b).toArray := by rw [hs1]; exact ⟨hm.len, hm.cells, hm.size, hm.one⟩
        obtain ⟨c', w', v2, q1, q2, q3, q4, q5⟩ := growFog (hW.addFog (n := n)) h0 h1 ht hu hi hz hzs hib hbx (k := c.toks.length) (by simp [Cx.addFog]) hx2 hm2 (Nat.pos_of_ne_zero hb0) hbb (ty := ty)
        rw [hs1] at q2 q5
        exact ⟨c', w', .value v2, by simp only [Sem.run_bind, q1, Result.andThen, Sem.run_pure], q2, (Evo.addFog hW.tlen).trans q3, by rw [q4]; simp [Cx.addFog], .inl ⟨_, rfl, q5⟩⟩
      · cases e
    · cases e
  · rename_i ib t' zz n
    split at e
    · rename_i z' es hbx
      split at e
      · rename_i hc
        cases e
        obtain ⟨rfl, htk, hcb, hok⟩ := hc
        obtain ⟨i, z, hi, hz, hzs, hi0, hib⟩ := okElem_info hok
        have hs1 := (cellsOf_info hi).symm.trans hone
        have hbb : (n + b.size) * i.bytes ≤ maxBytes := by
          have := hcb; simp only [Program.bytesOf, hi] at this; exact this
        have hx2 : ARel c (.fsl ib t' i.size n) v := by rw [hs1]; exact hx
        have hm2 : More P c w i.size b.size v' (Lib.strCells b).toArray := by rw [hs1]; exact hm
        obtain ⟨c', w', v2, q1, q2, q3, q4, q5⟩ := growFog hW h0 h1 ht hu hi hz hzs hib hbx htk hx2 hm2 (Nat.pos_of_ne_zero hb0) hbb (ty := ty)
        rw [hs1] at q2 q5
        exact ⟨c', w', .value v2, by simp only [Sem.run_bind, q1, Result.andThen, Sem.run_pure], q2, q3, q4, .inl ⟨_, rfl, q5⟩⟩
      · cases e
    · cases e
  · cases e
theorem fog_step {boxes : List Box} {w : World} (hW : WOk c boxes w) {ats : Array TypeId} {t u ty : TypeId} (h0 : ats[0]? = some t) (h1 : ats[1]? = some u) (hu : ∃ d, P.underlying u = some d ∧ ∀ k, d ≠ .int k) {x y : AV} {v v' : Value} (hx : ARel c x v) (hy : ARel c y v') {r : Res}
    (e : evFogA P t x y boxes c.toks = some r) : Stepped P c w (do pure (.value (← Builtin.append_ ats ty #[v, v']))) r.1 r.2.1 r.2.2 := by
  unfold evFogA at e
  split at e
  · rename_i el ht
    split at e
    · exact fogB_step hW h0 h1 ht hu hx hy e
    · split at e
      · rename_i b hmb
        split at e
        · cases e
        · rename_i hb0
          have hbne : b ≠ [] := fun h => hb0 (by simp [h])
          split at e
          · rename_i hsz
            obtain ⟨us, gb, kb, off, hm, hul, hrows, hrel⟩ := more_elems (P := P) (w := w) hW.ro hy hmb hbne hsz.1
            split at e
            · rename_i ib zz n
              split at e
              · rename_i z' es hbx
                split at e
                · rename_i hc
                  cases e
                  obtain ⟨i, z, hi, hz, hzs, hi0, hib⟩ := okElem_info hc.2
                  have hs1 := cellsOf_info hi
                  have hzz : zz = P.cellsOf el := by simpa [fitsA] using hsz.2
                  rw [hs1] at hm hzz
                  subst hzz
                  have hbb : (n + b.length) * i.bytes ≤ maxBytes := by
                    have := hc.1; simp only [Program.bytesOf, hi] at this; exact this
                  simp only [ARel] at hx
                  obtain ⟨g, cap, hg', hnc, hsiz, rfl⟩ := hx
                  have hx2 : ARel (c.addFog n) (.fsl ib c.toks.length i.size n) (.slice (some ⟨g, 0, none⟩) n cap) := by
                    simp only [ARel]
                    exact ⟨g, cap, rfl, hnc, n, by simp [Cx.addFog], Nat.le_refl _, fun _ => .inl ⟨hg', by simp only [Cx.addFog]; rw [← hW.tlen]; simp, hsiz⟩⟩
                  have hm2 : More P (c.addFog n) w i.size b.length v' (us.flatMap (·.cells.toList)).toArray := ⟨hm.len, hm.cells, hm.size, hm.one⟩
                  obtain ⟨c', w', v2, q1, q2, q3, q4, q5⟩ := growFog (hW.addFog (n := n)) h0 h1 ht hu hi hz hzs hib hbx (k := c.toks.length) (by simp [Cx.addFog]) hx2 hm2 (List.length_pos_iff.2 hbne) hbb (ty := ty)
                  exact ⟨c', w', .value v2, by simp only [Sem.run_bind, q1, Result.andThen, Sem.run_pure], q2, (Evo.addFog hW.tlen).trans q3, by rw [q4]; simp [Cx.addFog], .inl ⟨_, rfl, q5⟩⟩
                · cases e
              · cases e
            · rename_i ib t' zz n
              split at e
              · rename_i z' es hbx
                split at e
                · rename_i hc
                  cases e
                  obtain ⟨i, z, hi, hz, hzs, hi0, hib⟩ := okElem_info hc.2.2
                  have hs1 := cellsOf_info hi
                  have hzz : zz = P.cellsOf el := by simpa [fitsA] using hsz.2
                  rw [hs1] at hm hzz
                  subst hzz
                  have hbb : (n + b.length) * i.bytes ≤ maxBytes := by
                    have := hc.2.1; simp only [Program.bytesOf, hi] at this; exact this
                  obtain ⟨c', w', v2, q1, q2, q3, q4, q5⟩ := growFog hW h0 h1 ht hu hi hz hzs hib hbx hc.1 hx hm (List.length_pos_iff.2 hbne) hbb (ty := ty)
                  exact ⟨c', w', .value v2, by simp only [Sem.run_bind, q1, Result.andThen, Sem.run_pure], q2, q3, q4, .inl ⟨_, rfl, q5⟩⟩
                · cases e
              · cases e
            · cases e
          · cases e
      · cases e
  · cases e
theorem listD_rel {ρ : Operand → AV} {ρ' : Operand → Value} (hρ : ∀ x, ARel c (ρ x) (ρ' x)) {size : Nat} : ∀ {parts : List (Nat × Operand)} {n : Nat} {es : List D}, listD ρ size n parts = some es →
    ∃ us : List Value, us = parts.map (fun p => ρ' p.2) ∧ us.length = es.length ∧ (∀ (i : Nat) (d : D) (u : Value), es[i]? = some d → us[i]? = some u → DRel c.ro d u ∧ u.cells.size = size) ∧ (∀ (i : Nat) (p : Nat × Operand), parts[i]? = some p → p.1 = n + i)
  | [], n, es, h => by simp only [listD, Option.some.injEq] at h; subst h; exact ⟨[], rfl, rfl, by simp, by simp⟩
  | (i, x) :: parts, n, es, h => by
    simp only [listD] at h
    split at h
    · rename_i d ds h1 h2
      split at h
      · rename_i hc
        cases h
        obtain ⟨us, q1, q2, q3, q4⟩ := listD_rel hρ h2
        have hd := ARel.toD _ (hρ x) h1
        refine ⟨ρ' x :: us, by simp [q1], by simp [q2], fun j d' u' e e' => ?_, fun j p e => ?_⟩
        · cases j with
          | zero =>
            simp at e e'; subst e; subst e'
            refine ⟨hd, ?_⟩
            rw [← hc.2, DRels.length (DRel.cells hd)]; simp
          | succ j => exact q3 j d' u' (by simpa using e) (by simpa using e')
        · cases j with
          | zero => simp at e; subst e; simpa using hc.1
          | succ j =>
            have := q4 j p (by simpa using e)
            omega
      · cases h
    · cases h
def numbered : Nat → List Value → List (Nat × Value)
  | _, [] => []
  | n, u :: us => (n, u) :: numbered (n + 1) us
theorem numbered_of {α : Type} (f : α → Value) (g : α → Nat) : ∀ (l : List α) (n : Nat), (∀ (i : Nat) (p : α), l[i]? = some p → g p = n + i) → l.map (fun p => (g p, f p)) = numbered n (l.map f)
  | [], _, _ => rfl
  | p :: l, n, h => by
    simp only [List.map_cons, numbered]
    rw [h 0 p rfl, Nat.add_zero, numbered_of f g l (n + 1) (fun i q e => by have := h (i + 1) q (by simpa using e); omega)]
theorem fill_rows {size : Nat} : ∀ (us : List Value) (n : Nat) (cs : Array Value), (∀ u ∈ us, u.cells.size = size) → (n + us.length) * size ≤ cs.size →
    ∃ rs : Array Value, Instr.fill (fun i => some (i * size, size)) cs (numbered n us) = some rs ∧ rs.size = cs.size ∧ (∀ o, o < n * size → rs[o]? = cs[o]?) ∧ ∀ j, j < us.length * size → rs[n * size + j]? = (us.flatMap (·.cells.toList))[j]?
  | [], n, cs, _, _ => ⟨cs, rfl, rfl, fun _ _ => rfl, fun j hj => by simp at hj⟩
  | u :: us, n, cs, h, hl => by
    have hu := h u (by simp)
    simp only [List.length_cons] at hl
    have hl1 : n * size + size ≤ cs.size := by
      have : (n + 1) * size ≤ (n + (us.length + 1)) * size := Nat.mul_le_mul_right _ (by omega)
      rw [Nat.succ_mul] at this; omega
    have hz : (u.cells.zipIdx.foldl (fun cs (c, j) => cs.setIfInBounds (n * size + j) c) cs).toList = spliceV cs.toList (n * size) u.cells.toList := by
      have := foldl_splice u.cells.toList 0 (n * size) cs
      rw [Nat.add_zero] at this
      rw [← this]
      congr 1
      rw [← Array.foldl_toList]
      simp
    have hsz : (u.cells.zipIdx.foldl (fun cs (c, j) => cs.setIfInBounds (n * size + j) c) cs).size = cs.size := by
      rw [← Array.length_toList, hz, length_spliceV, Array.length_toList]
    obtain ⟨rs, q1, q2, q3, q4⟩ := fill_rows us (n + 1) (u.cells.zipIdx.foldl (fun cs (c, j) => cs.setIfInBounds (n * size + j) c) cs) (fun v hv => h v (by simp [hv])) (by rw [hsz]; rw [show n + 1 + us.length = n + (us.length + 1) by omega]; exact hl)
    have hget : ∀ o, (u.cells.zipIdx.foldl (fun cs (c, j) => cs.setIfInBounds (n * size + j) c) cs)[o]? = (spliceV cs.toList (n * size) u.cells.toList)[o]? := fun o => by rw [← hz, Array.getElem?_toList]
    refine ⟨rs, ?_, by rw [q2, hsz], fun o ho => ?_, fun j hj => ?_⟩
    · simp only [numbered, Instr.fill]
      rw [if_neg (by simp [hu]; omega)]
      exact q1
    · rw [q3 o (by rw [Nat.succ_mul]; omega), hget, spliceV_below _ _ _ _ ho]; simp
    · simp only [List.flatMap_cons]
      by_cases hjs : j < size
      · rw [q3 _ (by rw [Nat.succ_mul]; omega), hget, spliceV_at _ _ _ _ (by simp [hu]; omega) (by simp [hu]; omega), List.getElem?_append_left (by simp [hu]; omega)]
      · rw [List.getElem?_append_right (by simp [hu]; omega)]
        have := q4 (j - size) (by simp only [List.length_cons, Nat.succ_mul] at hj; omega)
        rw [show (n + 1) * size + (j - size) = n * size + j by rw [Nat.succ_mul]; omega] at this
        rw [this]
        simp [hu]
theorem toBytes_get : ∀ {es : List D} {b : ByteArray}, toBytes es = some b → b.size = es.length ∧ ∀ (i : Nat) (x : UInt8), b[i]? = some x → es[i]? = some (.val (.int .u8 x.toNat))
  | [], b, h => by simp only [toBytes, Option.some.injEq] at h; subst h; exact ⟨rfl, fun i x e => by rw [getElem?_neg _ i (by simp)] at e; cases e⟩
  | .val (.int .u8 n) :: r, b, h => by
    simp only [toBytes] at h
    split at h
    · rename_i b' hb
      split at h
      · rename_i hn
        cases h
        obtain ⟨q1, q2⟩ := toBytes_get hb
        have h1s : (⟨#[n.toNat.toUInt8]⟩ : ByteArray).size = 1 := rfl
        have hs : ((⟨#[n.toNat.toUInt8]⟩ : ByteArray) ++ b').size = b'.size + 1 := by rw [ByteArray.size_append, h1s]; omega
        refine ⟨by rw [hs, q1]; rfl, fun i x e => ?_⟩
        have hi : i < ((⟨#[n.toNat.toUInt8]⟩ : ByteArray) ++ b').size := by
          rcases Nat.lt_or_ge i ((⟨#[n.toNat.toUInt8]⟩ : ByteArray) ++ b').size with h' | h'
          · exact h'
          · rw [getElem?_neg _ i (by omega)] at e; cases e
        rw [getElem?_pos _ i hi] at e
        cases i with
        | zero =>
          rw [ByteArray.getElem_append_left (by rw [h1s]; omega)] at e
          have e' : some n.toNat.toUInt8 = some x := e
          cases e'
          simp only [List.getElem?_cons_zero, Option.some.injEq, D.val.injEq, Value.int.injEq, true_and]
          have : n.toNat < 256 := by omega
          simp [Nat.toUInt8, UInt8.toNat_ofNat, Nat.mod_eq_of_lt this]
          omega
        | succ i =>
          rw [ByteArray.getElem_append_right (by rw [h1s]; omega)] at e
          simp only [List.getElem?_cons_succ]
          refine q2 i x ?_
          have hi' : i < b'.size := by omega
          rw [getElem?_pos _ i hi']
          exact e
      · cases h
    · cases h
  | .val (.int .i8 _) :: _, _, h | .val (.int .i16 _) :: _, _, h | .val (.int .i32 _) :: _, _, h | .val (.int .i64 _) :: _, _, h | .val (.int .u16 _) :: _, _, h | .val (.int .u32 _) :: _, _, h | .val (.int .u64 _) :: _, _, h | .val (.bool _) :: _, _, h | .val (.float _ _) :: _, _, h | .val (.complex _ _ _) :: _, _, h | .val (.string _) :: _, _, h | .val (.pointer _) :: _, _, h | .val (.slice _ _ _) :: _, _, h | .val (.map _) :: _, _, h | .val (.chan _) :: _, _, h | .val (.func _ _ _) :: _, _, h | .val .nilFunc :: _, _, h | .val (.iface _ _) :: _, _, h | .val .nilIface :: _, _, h | .val (.agg _) :: _, _, h | .val (.tuple _) :: _, _, h | .bytes _ :: _, _, h | .slice _ :: _, _, h | .agg _ :: _, _, h => by simp [toBytes] at h
theorem buildSlice_step {boxes : List Box} {w : World} (hbt : ∀ t, byteT P t = true → c.ro.pin.bt t = true) (hW : WOk c boxes w) {t : TypeId} {ρ : Operand → AV} {ρ' : Operand → Value} (hρ : ∀ x, ARel c (ρ x) (ρ' x)) {len : Nat} {parts : Array (Nat × Operand)} {r : Res} (e : evBuildSlice P t len ρ parts.toList boxes c.toks = some r) :
    Stepped P c w (do pure (.value (← Instr.buildSlice t len (parts.map fun (i, x) => (i, ρ' x))))) r.1 r.2.1 r.2.2 := by
  unfold evBuildSlice at e
  split at e
  · rename_i el ht
    split at e
    · rename_i es hes
      split at e
      · rename_i hc
        obtain ⟨i, z, hi, hz, hzs, hi0, hib⟩ := okElem_info hc.2.2
        have hs1 := cellsOf_info hi
        obtain ⟨us, q1, q2, q3, q4⟩ := listD_rel hρ hes
        rw [hs1] at q3
        have hul : us.length = len := by rw [q2, hc.1]
        have hsize : ∀ u ∈ us, u.cells.size = i.size := fun u hu => by
          obtain ⟨j, hj⟩ := List.getElem?_of_mem hu
          have hjl := (List.getElem?_eq_some_iff.1 hj).1
          exact (q3 j _ u (List.getElem?_eq_getElem (by omega)) hj).2
        obtain ⟨zs, hzs'⟩ : ∃ zs : Array Value, zs = (if len * i.size = 0 then #[] else z.cells) := ⟨_, rfl⟩
        obtain ⟨rs, f1, f2, f3, f4⟩ := fill_rows (size := i.size) us 0 ((Array.range (len * i.size)).map (zs[· % zs.size]!)) hsize (by rw [Nat.zero_add, hul]; simp)
        have hrs : rs.size = len * i.size := by rw [f2]; simp
        have hnum : (parts.map fun (p : Nat × Operand) => (p.1, ρ' p.2)).toList = numbered 0 us := by
          rw [Array.toList_map, numbered_of (fun p : Nat × Operand => ρ' p.2) (fun p => p.1) parts.toList 0 q4, ← q1]
        have hrun : (Instr.buildSlice t len (parts.map fun (i, x) => (i, ρ' x))).run P w = .ok (.slice (some ⟨w.heap.size, 0, none⟩) len len) (w.alloc (.cells rs el)) := by
          have h24 : ¬ (len * i.size > 2 ^ 24) := by have := hc.2.1; rw [hs1] at this; omega
          have hf1 : Instr.fill (fun j => some (j * i.size, i.size)) ((Array.range (len * i.size)).map (zs[· % zs.size]!)) (parts.map fun (i, x) => (i, ρ' x)).toList = some rs := by
            rw [← f1, ← hnum]
          simp only [Instr.buildSlice, Sem.run_bind, run_underlying ht, Result.andThen, sizeOf_run w hi, h24, if_false]
          split
          · rename_i hz0
            rw [if_pos hz0] at hzs'
            subst hzs'
            simp only [Sem.run_bind, Sem.run_pure, Result.andThen, hf1, newRow, run_newObj]
            rfl
          · rename_i hz0
            rw [if_neg hz0] at hzs'
            subst hzs'
            have hzv : (zeroValue el).run P w = .ok z w := by simp [zeroValue, typeInfo, hi, hz]
            simp only [Sem.run_bind, Sem.run_pure, Result.andThen, hzv, hf1, newRow, run_newObj]
            rfl
        have hcells : ∀ (j : Nat) (v : Value), (us.flatMap (·.cells.toList))[j]? = some v → rs[j]? = some v := fun j v e => by
          have hj : j < us.length * i.size := by
            have h1 := (List.getElem?_eq_some_iff.1 e).1
            have h2 : (us.flatMap (·.cells.toList)).length = us.length * i.size := by
              clear f1 f4 q1 q2 q3 hnum e h1 hul
              induction us with
              | nil => simp
              | cons u us ih => simp only [List.flatMap_cons, List.length_append, Array.length_toList, List.length_cons, Nat.succ_mul, ih (fun v hv => hsize v (by simp [hv])), hsize u (by simp)]; omega
            omega
          have := f4 j hj
          rw [Nat.zero_mul, Nat.zero_add] at this
          rw [this]; exact e
        have hW' := hW.addTok (w' := w.alloc (.cells rs el)) (cells := rs) (e := el) (cap := len) (z := (i.size, byteT P el)) (n := len) rfl hrs (Nat.le_refl _) (hbt el)
        have hE' : Evo c w (c.addTok w.heap.size len (i.size, byteT P el) len (fun o => rs[o]?)) (w.alloc (.cells rs el)) := Evo.addTok hW (e := el) rfl rfl rfl rfl
        have hro' : ∀ (j : Nat) (v : Value), j < len * i.size → rs[j]? = some v → (c.addTok w.heap.size len (i.size, byteT P el) len (fun o => rs[o]?)).ro w.heap.size j = some v := fun j v hj e => by
          simp only [Cx.addTok]
          rw [if_pos ⟨trivial, hj⟩]; exact e
        have hrows : DRows (c.addTok w.heap.size len (i.size, byteT P el) len (fun o => rs[o]?)).ro w.heap.size i.size 0 es := DRows.of_list (us := us) q2.symm (fun j d u e1 e2 => ⟨DRel.mono hE'.le.ro _ (q3 j d u e1 e2).1, (q3 j d u e1 e2).2⟩) (fun j v e => by
          rw [Nat.zero_add]
          have h1 := hcells j v e
          exact hro' j v (by rw [← hrs]; exact (Array.getElem?_eq_some_iff.1 h1).1) h1)
        have hτ : (c.addTok w.heap.size len (i.size, byteT P el) len (fun o => rs[o]?)).τ[c.toks.length]? = some (some (w.heap.size, len, i.size, byteT P el)) := by simp only [Cx.addTok]; rw [← hW.tlen]; simp
        have hrun' : (do pure (Next.value (← Instr.buildSlice t len (parts.map fun (i, x) => (i, ρ' x)))) : Sem Next).run P w = .ok (.value (.slice (some ⟨w.heap.size, 0, none⟩) len len)) (w.alloc (.cells rs el)) := by
          simp only [Sem.run_bind, hrun, Result.andThen, Sem.run_pure]
        unfold newRowA at e
        split at e
        · rename_i hby
          split at e
          · rename_i b hb
            split at e
            · rename_i h1c
              cases e
              obtain ⟨g1, g2⟩ := toBytes_get hb
              have hi1 : i.size = 1 := by rw [← hs1]; exact h1c
              refine ⟨_, _, _, hrun', hW', hE', by simp [Cx.addTok, g1, hc.1], .inl ⟨_, rfl, ?_⟩⟩
              simp only [ARel]
              refine .inl ⟨w.heap.size, len, by rw [g1, hc.1], by rw [g1, hc.1]; exact Nat.le_refl _, fun j x hx => ?_, len, by simp [Cx.addTok], by rw [g1, hc.1]; exact Nat.le_refl _, fun _ => by rw [hτ, hi1]; simp [byteT, hby, h1c]⟩
              obtain ⟨u, h1, h2, h3⟩ := DRows.get hrows (g2 j x hx)
              simp only [DRel] at h1
              obtain ⟨rfl, _⟩ := h1
              have := h3 0 (.int .u8 x.toNat) (by simp [Value.cells])
              simpa [hi1] using this
            · cases e
          · cases e
        · rename_i hnb
          have hnb : byteT P el = false := by simp only [byteT, Bool.and_eq_false_iff]; exact .inl (by simpa using hnb)
          cases e
          by_cases hes0 : es = []
          · have hlen0 : len = 0 := by rw [← hc.1, hes0]; rfl
            refine ⟨_, _, _, hrun', (hW.alloc (.cells rs el)).addNil, (Evo.alloc c w (.cells rs el)).trans (Evo.addNil hW.tlen), by simp [Cx.addNil, hes0], .inl ⟨_, rfl, ?_⟩⟩
            simp only [ARel]
            refine .inr ⟨hes0, ?_⟩
            rw [hlen0]; exact NilTok.new hW.tlen _
          refine ⟨_, _, _, hrun', hW', hE', by simp [Cx.addTok, hc.1], .inl ⟨_, rfl, ?_⟩⟩
          simp only [ARel]
          exact .inl ⟨w.heap.size, len, i.size, by rw [hc.1], by rw [hc.1]; exact Nat.le_refl _, ⟨hes0, hrows⟩, len, by simp [Cx.addTok], by rw [hc.1]; exact Nat.le_refl _, fun _ => by rw [hτ, hnb]⟩
      · cases e
    · cases e
  · cases e
theorem flat_len {size : Nat} : ∀ {us : List Value}, (∀ u ∈ us, u.cells.size = size) → (us.flatMap (·.cells.toList)).length = us.length * size
  | [], _ => by simp
  | u :: us, h => by
    simp only [List.flatMap_cons, List.length_append, Array.length_toList, List.length_cons, Nat.succ_mul, flat_len (fun v hv => h v (List.mem_cons_of_mem _ hv)), h u (by simp)]; omega
theorem ACells.app : ∀ {xs ys : List AV} {us vs : List Value}, ACells c xs us → ACells c ys vs → ACells c (xs ++ ys) (us ++ vs)
  | [], ys, us, vs, h, k => by
    have : us = [] := h
    subst this; exact k
  | x :: xs, ys, us, vs, h, k => by
    obtain ⟨u, us', rfl, h0, h1, h2⟩ := h
    exact ⟨u, _, rfl, h0, h1, ACells.app h2 k⟩
theorem ACells.len : ∀ {xs : List AV} {us : List Value}, ACells c xs us → us.length = xs.length
  | [], us, h => by
    have : us = [] := h
    subst this; rfl
  | x :: xs, us, h => by
    obtain ⟨u, us', rfl, _, _, h2⟩ := h
    simp [ACells.len h2]
theorem listA_rel {ρ : Operand → AV} {ρ' : Operand → Value} (hρ : ∀ x, ARel c (ρ x) (ρ' x)) {size : Nat} : ∀ {parts : List (Nat × Operand)} {n : Nat} {cs : List AV}, listA ρ size n parts = some cs →
    ∃ us : List Value, us = parts.map (fun p => ρ' p.2) ∧ (∀ u ∈ us, u.cells.size = size) ∧ ACells c cs (us.flatMap (·.cells.toList)) ∧ (∀ (i : Nat) (p : Nat × Operand), parts[i]? = some p → p.1 = n + i)
  | [], n, cs, h => by simp only [listA, Option.some.injEq] at h; subst h; exact ⟨[], rfl, by simp, rfl, by simp⟩
  | (i, x) :: parts, n, cs, h => by
    simp only [listA] at h
    split at h
    · rename_i vs ds h1 h2
      split at h
      · rename_i hc
        cases h
        obtain ⟨us, q1, q2, q3, q4⟩ := listA_rel hρ h2
        have hd := ARel.cells (hρ x) h1
        refine ⟨ρ' x :: us, by simp [q1], fun u hu => ?_, ?_, fun j p e => ?_⟩
        · rcases List.mem_cons.1 hu with rfl | hu
          · rw [← hc.2, ← ACells.len hd]; simp
          · exact q2 u hu
        · rw [List.flatMap_cons]; exact ACells.app hd q3
        · cases j with
          | zero => simp at e; subst e; simpa using hc.1
          | succ j =>
            have := q4 j p (by simpa using e)
            omega
      · cases h
    · cases h
theorem bytesD_get (b : ByteArray) (i : Nat) : (bytesD b)[i]? = (b[i]?).map fun x => D.val (.int .u8 x.toNat) := by
  unfold bytesD
  rw [List.getElem?_map, Array.getElem?_toList]
  rfl
theorem rowN_step {boxes : List Box} {w : World} (hW : WOk c boxes w) {ats : Array TypeId} {t u ty : TypeId} (h0 : ats[0]? = some t) (h1 : ats[1]? = some u) (hu : ∃ d, P.underlying u = some d ∧ ∀ k, d ≠ .int k) {x y : AV} {v v' : Value} (hx : ARel c x v) (hy : ARel c y v') {r : Res}
    (e : evRowN P t x y boxes c.toks = some r) : Stepped P c w (do pure (.value (← Builtin.append_ ats ty #[v, v']))) r.1 r.2.1 r.2.2 := by
  unfold evRowN at e
  split at e
  case h_2 => cases e
  rename_i el b ht hmb
  split at e
  case isFalse => cases e
  rename_i hc
  obtain ⟨hby, hel, hz1, hbig⟩ := hc
  obtain ⟨i, z, hi, hz, hzs, hi0, hib⟩ := okElem_info hel
  have hs1 : i.size = 1 := by rw [← cellsOf_info hi]; exact hz1
  split at e
  · rename_i hb0
    cases e
    have hl : ∀ w : World, (Builtin.lenOf v').run P w = .ok 0 w ∧ ∀ size, (Builtin.firstCells size 0 v').run P w = .ok #[] w := by
      intro w
      unfold moreBytes at hmb
      split at hmb
      · rename_i s
        cases hmb
        simp only [ARel, DRel] at hy
        obtain ⟨rfl, _⟩ := hy
        refine ⟨by simp [Builtin.lenOf, hb0], fun size => ?_⟩
        simp [Builtin.firstCells]
      · have hd := bytesOf_rel hy hmb
        simp only [DRel] at hd
        obtain ⟨A, k, rfl, hk, _⟩ := hd
        refine ⟨by simp [Builtin.lenOf, hb0], fun size => ?_⟩
        cases A <;> simp [Builtin.firstCells, loadCells, loadCellsFrom]
    exact Stepped.quiet hW ⟨v, append_none hW h0 h1 ht hu ⟨i, hi⟩ hx rfl (fun w => (hl w).1) (fun size => (hl w).2 size), by
      simp only [ARel] at hx
      subst hx
      simp only [ARel, DRel]
      exact ⟨none, 0, rfl, Nat.le_refl _, .inl rfl⟩⟩
  · rename_i hb0
    cases e
    simp only [ARel] at hx
    subst hx
    have hm := more_bytes (P := P) (w := w) hW.ro hy hmb hb0
    rw [← hs1] at hm
    have hbb : b.size * i.bytes ≤ maxBytes := by
      have := hbig; simp only [Program.bytesOf, hi] at this; exact this
    have h63 : b.size ≤ 9223372036854775807 := by
      have : b.size ≤ b.size * i.bytes := Nat.le_mul_of_pos_right _ hib
      unfold maxBytes at hbb; omega
    have hrun := append_nil_run h0 h1 ht hu hi hz hm.len (w := w) hm.cells (by omega) h63 (by unfold maxBytes at hbb; omega) (ty := ty)
    obtain ⟨cap', hcap⟩ : ∃ x, x = grownCap w b.size 0 el := ⟨_, rfl⟩
    have hge : b.size ≤ cap' := by rw [hcap]; exact grownCap_ge w _ _ _
    rw [← hcap] at hrun
    refine ⟨c.addBox w.heap.size, w.drew.alloc (.cells ((Lib.strCells b).toArray ++ Builtin.zeroCells z.cells (cap' - b.size)) el), .value (.slice (some ⟨w.heap.size, 0, none⟩) b.size cap'), by simp only [Sem.run_bind, hrun, Result.andThen, Sem.run_pure], hW.drew.addBox _ (.row 1 (bytesD b)) (fun c' hc' => ⟨_, el, heap_alloc w.drew _, fun j x hx => ?_⟩), (Evo.drew c w).trans (Evo.addBox _), rfl, .inl ⟨_, rfl, ?_⟩⟩
    · rw [bytesD_get] at hx
      cases hbj : b[j]? with
      | none => rw [hbj] at hx; cases hx
      | some q =>
        rw [hbj] at hx
        cases hx
        refine ⟨.int .u8 q.toNat, by simp [DRel, Value.oneCell'], rfl, fun m v hm' => ?_⟩
        cases m with
        | succ m => simp [Value.cells] at hm'
        | zero =>
          have hv : v = .int .u8 q.toNat := by simpa [Value.cells] using hm'.symm
          have hjl : j < (Lib.strCells b).toArray.size := by
            have : j < b.size := by
              rcases Nat.lt_or_ge j b.size with h' | h'
              · exact h'
              · rw [getElem?_neg _ j (by omega)] at hbj; cases hbj
            rw [hm.size, hs1]; omega
          rw [hv, Nat.mul_one, Nat.add_zero, Array.getElem?_append_left hjl]
          simp only [List.getElem?_toArray]
          rw [strCells_get, hbj]; rfl
    · simp only [ARel]
      exact ⟨w.heap.size, cap', by simp [Cx.addBox, ← hW.len], hge, by simp⟩
theorem deep_step {boxes : List Box} {w : World} (hW : WOk c boxes w) {t : TypeId} {ρ : Operand → AV} {ρ' : Operand → Value} (hρ : ∀ x, ARel c (ρ x) (ρ' x)) {len : Nat} {parts : Array (Nat × Operand)} {r : Res} (e : evDeep P t len ρ parts.toList boxes c.toks = some r) :
    Stepped P c w (do pure (.value (← Instr.buildSlice t len (parts.map fun (i, x) => (i, ρ' x))))) r.1 r.2.1 r.2.2 := by
  unfold evDeep at e
  split at e
  case h_2 => cases e
  rename_i el ht
  split at e
  case h_2 => cases e
  rename_i cs hcs
  split at e
  case isFalse => cases e
  rename_i hc
  cases e
  obtain ⟨i, z, hi, hz, hzs, hi0, hib⟩ := okElem_info hc.2.2
  have hs1 := cellsOf_info hi
  obtain ⟨us, q1, q2, q3, q4⟩ := listA_rel hρ hcs
  rw [hs1] at q2
  have hul : us.length = len := by rw [q1, List.length_map]; exact hc.1
  obtain ⟨zs, hzs'⟩ : ∃ zs : Array Value, zs = (if len * i.size = 0 then #[] else z.cells) := ⟨_, rfl⟩
  obtain ⟨rs, f1, f2, f3, f4⟩ := fill_rows (size := i.size) us 0 ((Array.range (len * i.size)).map (zs[· % zs.size]!)) q2 (by rw [Nat.zero_add, hul]; simp)
  have hrs : rs.size = len * i.size := by rw [f2]; simp
  have hnum : (parts.map fun (p : Nat × Operand) => (p.1, ρ' p.2)).toList = numbered 0 us := by
    rw [Array.toList_map, numbered_of (fun p : Nat × Operand => ρ' p.2) (fun p => p.1) parts.toList 0 q4, ← q1]
  have hrun : (Instr.buildSlice t len (parts.map fun (i, x) => (i, ρ' x))).run P w = .ok (.slice (some ⟨w.heap.size, 0, none⟩) len len) (w.alloc (.cells rs el)) := by
    have h24 : ¬ (len * i.size > 2 ^ 24) := by have := hc.2.1; rw [hs1] at this; omega
    have hf1 : Instr.fill (fun j => some (j * i.size, i.size)) ((Array.range (len * i.size)).map (zs[· % zs.size]!)) (parts.map fun (i, x) => (i, ρ' x)).toList = some rs := by
      rw [← f1, ← hnum]
    simp only [Instr.buildSlice, Sem.run_bind, run_underlying ht, Result.andThen, sizeOf_run w hi, h24, if_false]
    split
    · rename_i hz0
      rw [if_pos hz0] at hzs'
      subst hzs'
      simp only [Sem.run_bind, Sem.run_pure, Result.andThen, hf1, newRow, run_newObj]
      rfl
    · rename_i hz0
      rw [if_neg hz0] at hzs'
      subst hzs'
      have hzv : (zeroValue el).run P w = .ok z w := by simp [zeroValue, typeInfo, hi, hz]
      simp only [Sem.run_bind, Sem.run_pure, Result.andThen, hzv, hf1, newRow, run_newObj]
      rfl
  have hcur : rs = (us.flatMap (fun (u : Value) => u.cells.toList) ++ []).toArray := by
    rw [List.append_nil]
    apply Array.ext'
    rw [List.toList_toArray]
    apply List.ext_getElem?
    intro j
    by_cases hj : j < us.length * i.size
    · have := f4 j hj
      rw [Nat.zero_mul, Nat.zero_add] at this
      rw [← this, Array.getElem?_toList]
    · rw [List.getElem?_eq_none (by rw [Array.length_toList, hrs, ← hul]; omega), List.getElem?_eq_none (by rw [flat_len q2]; omega)]
  refine ⟨c.addBox w.heap.size, w.alloc (.cells rs el), .value (.slice (some ⟨w.heap.size, 0, none⟩) len len), by simp only [Sem.run_bind, hrun, Result.andThen, Sem.run_pure], hW.addBox _ _ (fun c' hc' => ⟨us.flatMap (fun (u : Value) => u.cells.toList), [], el, by rw [← hcur]; exact heap_alloc w _, ACells.mono hc' q3, TyOk.none⟩), Evo.addBox _, rfl, .inl ⟨_, rfl, ?_⟩⟩
  simp only [ARel]
  exact ⟨w.heap.size, len, by simp only [Cx.addBox]; rw [← hW.len]; simp, Nat.le_refl _, rfl⟩
end Ev
