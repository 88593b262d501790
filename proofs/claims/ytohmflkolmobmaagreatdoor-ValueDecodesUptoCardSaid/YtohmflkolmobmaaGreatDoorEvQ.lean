/- What functions of the program compute, as plain Lean functions, each with its proof by a proved reader; plain laws about them (EvQ). -/
import Derived.Test.YtohmflkolmobmaaGreatDoorEvP
set_option linter.unusedSimpArgs false
set_option linter.unusedVariables false
namespace Ev
open Go Go.RowKit
variable {P : Program} {c : Cx}
theorem isAgg_run (t : TypeId) (w : World) {d : TypeDesc} (h : P.underlying t = some d) : (isAgg t).run P w = .ok (isAggT P t) w := by
  simp only [isAgg, Sem.run_bind, run_underlying h, Result.andThen, isAggT, h]
  cases d <;> rfl
theorem DRel.list_drop : ∀ {cs : List AV} {us : List Value} (n : Nat), ACells c cs us → ACells c (cs.drop n) (us.drop n)
  | cs, us, 0, h => h
  | [], us, n + 1, h => by
    have : us = [] := h
    subst this; exact rfl
  | x :: cs, us, n + 1, h => by
    obtain ⟨u, us', rfl, _, _, h2⟩ := h
    exact DRel.list_drop n h2
theorem DRel.list_take : ∀ {cs : List AV} {us : List Value} (n : Nat), ACells c cs us → ACells c (cs.take n) (us.take n)
  | cs, us, 0, h => by simp only [List.take_zero]; rfl
  | [], us, n + 1, h => by
    have : us = [] := h
    subst this; exact rfl
  | x :: cs, us, n + 1, h => by
    obtain ⟨u, us', rfl, ho, h1, h2⟩ := h
    exact ⟨u, us'.take n, rfl, ho, h1, DRel.list_take n h2⟩
theorem ACells.get : ∀ {cs : List AV} {us : List Value}, ACells c cs us → ∀ {n : Nat} {x : AV}, cs[n]? = some x → ∃ u, us[n]? = some u ∧ u.oneCell' = true ∧ ARel c x u
  | [], _, _, _, _, e => by simp at e
  | y :: cs, us, h, n, x, e => by
    obtain ⟨u, us', rfl, ho, h1, h2⟩ := h
    cases n with
    | zero => simp at e; subst e; exact ⟨u, rfl, ho, h1⟩
    | succ n => simp at e; exact ACells.get h2 e
theorem ARels.get : ∀ {cs : List AV} {us : List Value}, ARels c cs us → ∀ {n : Nat} {x : AV}, cs[n]? = some x → ∃ u, us[n]? = some u ∧ ARel c x u
  | [], _, _, _, _, e => by simp at e
  | y :: cs, us, h, n, x, e => by
    obtain ⟨u, us', rfl, h1, h2⟩ := h
    cases n with
    | zero => simp at e; subst e; exact ⟨u, rfl, h1⟩
    | succ n => simp at e; exact ARels.get h2 e
theorem sizeOf_run {t : TypeId} (w : World) {i : TypeInfo} (h : P.info? t = some i) : (Go.sizeOf t).run P w = .ok i.size w := by
  simp [Go.sizeOf, typeInfo, h]
theorem cellsOf_info {t : TypeId} {i : TypeInfo} (h : P.info? t = some i) : P.cellsOf t = i.size := by simp [Program.cellsOf, h]
theorem info_of_underlying {t : TypeId} {d : TypeDesc} (h : P.underlying t = some d) : ∃ i, P.info? t = some i := by
  unfold Program.underlying at h
  cases e : P.info? t with
  | none => simp [e] at h
  | some i => exact ⟨i, rfl⟩
theorem part_run {cs : List AV} {us : List Value} (h : ACells c cs us) {t : TypeId} {off : Nat} {x : AV} (e : partA P t cs off = some x) (w : World) :
    ∃ u, (part t us.toArray off).run P w = .ok u w ∧ ARel c x u := by
  unfold partA at e
  split at e
  · cases e
  rename_i hk
  obtain ⟨d, hd⟩ : ∃ d, P.underlying t = some d := by
    cases e' : P.underlying t with
    | none => simp [e'] at hk
    | some d => exact ⟨d, rfl⟩
  obtain ⟨i, hi⟩ := info_of_underlying hd
  split at e
  · rename_i ha
    split at e
    · rename_i hl
      cases e
      refine ⟨.agg (us.toArray.extract off (off + P.cellsOf t)), ?_, ?_⟩
      · simp only [part, Sem.run_bind, isAgg_run t w hd, Result.andThen, ha, if_true, sizeOf_run w hi, Sem.run_pure, cellsOf_info hi]
      · have := mkAgg_rel (DRel.list_take (P.cellsOf t) (DRel.list_drop off h))
        have e2 : us.toArray.extract off (off + P.cellsOf t) = ((us.drop off).take (P.cellsOf t)).toArray := by
          apply Array.ext'
          simp [List.extract_eq_take_drop]
        rwa [e2]
    · cases e
  · rename_i ha
    obtain ⟨u, h1, _, h2⟩ := ACells.get h e
    refine ⟨u, ?_, h2⟩
    simp only [part, Sem.run_bind, isAgg_run t w hd, Result.andThen, ha]
    simp [h1]
theorem pick_run {x y z : AV} {u v v' : Value} {r : AV} (hx : ARel c x u) (hy : ARel c y v) (hz : ARel c z v') (e : evPick x y z = some r) (w : World) :
    ∃ b : Bool, (asBool u).run P w = .ok b w ∧ ARel c r (if b then v else v') := by
  unfold evPick at e
  split at e
  · rename_i b p q
    cases e
    simp only [ARel, DRel] at hx hy hz
    obtain ⟨rfl, _⟩ := hx
    obtain ⟨rfl, _⟩ := hy
    obtain ⟨rfl, _⟩ := hz
    refine ⟨b, rfl, ?_⟩
    cases b <;> simp [ARel, DRel, Value.oneCell']
  · cases e
    simp only [ARel, DRel] at hx
    obtain ⟨rfl, _⟩ := hx
    exact ⟨true, rfl, by simpa using hy⟩
  · cases e
    simp only [ARel, DRel] at hx
    obtain ⟨rfl, _⟩ := hx
    exact ⟨false, rfl, by simpa using hz⟩
  · cases e
theorem nilCheck_run {x : AV} {u : Value} {r : AV} (hx : ARel c x u) (e : evNilCheck x = some r) (a : Act) (o : Oper) (y : Operand) (ho : o.op = .nilCheck y) (hu : a.eval y = u) (w : World) :
    ∃ v, (execOp a.eval o).run P w = .ok (.value v) w ∧ ARel c r v := by
  refine ⟨u, ?_, ?_⟩
  · unfold execOp
    rw [ho]
    simp only [hu]
    unfold evNilCheck at e
    split at e <;> first | cases e | skip
    · simp only [ARel] at hx; obtain ⟨k, _, rfl⟩ := hx; rfl
    · simp only [ARel] at hx; obtain ⟨b, o, v, _, rfl, _⟩ := hx; rfl
    · simp only [ARel] at hx; subst hx; rfl
    · simp only [ARel] at hx; obtain ⟨k, _, rfl⟩ := hx; rfl
    · simp only [ARel] at hx; obtain ⟨us, vs, rfl, _⟩ := hx; rfl
    · simp only [ARel] at hx; obtain ⟨l, _, rfl⟩ := hx; rfl
  · unfold evNilCheck at e
    split at e <;> first | (cases e; done) | (cases e; exact hx)
theorem un_run {x : AV} {u : Value} {op : UnOp} {r : AV} (hx : ARel c x u) (e : evUn P op x = some r) (w : World) : ∃ v, (Op.unary op u).run P w = .ok v w ∧ ARel c r v := by
  unfold evUn at e
  split at e
  · rename_i vx hv
    split at e
    · rename_i v hs
      cases e
      rw [ARel.toVal hx hv]
      exact ⟨v, semPure_run _ hs w, ofVal_rel c v⟩
    · cases e
  · cases e
theorem aggCells_rel {x : AV} {u : Value} {cs : List AV} (hx : ARel c x u) (e : x.aggCells = some cs) : ∃ us : List Value, u = .agg us.toArray ∧ ACells c cs us := by
  unfold AV.aggCells at e
  split at e
  · cases e
    simp only [ARel, DRel] at hx
    obtain ⟨us, rfl, h⟩ := hx
    exact ⟨us, rfl, ACells.of_d h⟩
  · cases e
    simp only [ARel] at hx
    obtain ⟨us, rfl, h⟩ := hx
    exact ⟨us, rfl, h⟩
  · cases e
theorem field_run {x : AV} {u : Value} {r : AV} {s : TypeId} {f : Nat} (hx : ARel c x u) (e : evField P s f x = some r) (w : World) : ∃ v, (Instr.field s u f).run P w = .ok v w ∧ ARel c r v := by
  unfold evField at e
  split at e
  · rename_i fs hs
    split at e
    · rename_i fd cs hf hc
      obtain ⟨us, rfl, hcs⟩ := aggCells_rel hx hc
      obtain ⟨v, h1, h2⟩ := part_run hcs e w
      refine ⟨v, ?_, h2⟩
      simp only [Instr.field, Sem.run_bind, run_underlying hs, Result.andThen, hf, asAgg, Sem.run_pure]
      exact h1
    · cases e
  · cases e
theorem asIdx_rel {x : AV} {u : Value} {n : Int} (hx : ARel c x u) (e : asIdx x = some n) : ∃ k, u = .int k n := by
  unfold asIdx at e
  split at e
  · cases e
    simp only [ARel, DRel] at hx
    exact ⟨_, hx.1⟩
  · cases e
theorem index_run {x y : AV} {u v : Value} {r : AV} {t : TypeId} (hx : ARel c x u) (hy : ARel c y v) (e : evIndex P t x y = some r) (w : World) : ∃ q, (Instr.index t u v).run P w = .ok q w ∧ ARel c r q := by
  unfold evIndex at e
  split at e
  · rename_i n el k ht hi
    obtain ⟨ik, rfl⟩ := asIdx_rel hy hi
    split at e
    · rename_i cs hc
      split at e
      · rename_i hb
        obtain ⟨us, rfl, hcs⟩ := aggCells_rel hx hc
        obtain ⟨q, h1, h2⟩ := part_run hcs e w
        refine ⟨q, ?_, h2⟩
        have hcell : (Go.sizeOf el).run P w = .ok (P.cellsOf el) w := by
          unfold partA at e
          cases hu : P.underlying el with
          | none => simp [hu] at e
          | some d =>
            obtain ⟨i, hi⟩ := info_of_underlying hu
            rw [sizeOf_run w hi, cellsOf_info hi]
        simp only [Instr.index, asIntOf, Sem.run_bind, Sem.run_pure, Result.andThen, run_underlying ht, hb, and_self, if_true, hcell]
        exact h1
      · cases e
    · cases e
  · rename_i k ht hi
    obtain ⟨ik, rfl⟩ := asIdx_rel hy hi
    split at e
    · rename_i s
      simp only [ARel, DRel] at hx
      obtain ⟨rfl, _⟩ := hx
      split at e
      · rename_i h0
        split at e
        · rename_i b hb
          cases e
          refine ⟨.int .u8 b.toNat, ?_, by simp [ARel, DRel, Value.oneCell']⟩
          simp only [Instr.index, asIntOf, Sem.run_bind, Sem.run_pure, Result.andThen, run_underlying ht, h0, if_true, hb]
        · cases e
      · cases e
    · cases e
  · cases e
theorem extract_run {x : AV} {u : Value} {r : AV} {i : Nat} (hx : ARel c x u) (e : evExtract i x = some r) (w : World) : ∃ q, (Instr.extract u i).run P w = .ok q w ∧ ARel c r q := by
  unfold evExtract at e
  split at e
  · rename_i vs
    simp only [ARel] at hx
    obtain ⟨us, rfl, h⟩ := hx
    obtain ⟨q, h1, h2⟩ := ARels.get h e
    refine ⟨q, ?_, h2⟩
    simp [Instr.extract, h1]
  · cases e
theorem slen_rel {x : AV} {u : Value} {n : Nat} (hx : ARel c x u) (e : slen x = some n) : ∃ A k, u = .slice A n k ∧ n ≤ k := by
  unfold slen at e
  split at e <;> first | (cases e; done) | skip
  · cases e; simp only [ARel, DRel] at hx; obtain ⟨A, k, rfl, hk, _⟩ := hx; exact ⟨A, k, rfl, hk⟩
  · cases e; simp only [ARel] at hx
    rcases hx with ⟨b, cap, rfl, hk, _⟩ | ⟨h0, rfl, _⟩
    · exact ⟨_, cap, rfl, hk⟩
    · exact ⟨none, 0, by rw [h0], by omega⟩
  · cases e; simp only [ARel, DRel] at hx; obtain ⟨A, k, rfl, hk, _⟩ := hx; exact ⟨A, k, rfl, hk⟩
  · cases e; simp only [ARel] at hx
    rcases hx with ⟨b, cap, k, rfl, hk, _⟩ | ⟨rfl, ⟨A, rfl⟩, _⟩
    · exact ⟨_, cap, rfl, hk⟩
    · exact ⟨A, 0, rfl, Nat.le_refl _⟩
  · cases e; simp only [ARel] at hx; subst hx; exact ⟨none, 0, rfl, Nat.le_refl _⟩
  · cases e; simp only [ARel] at hx; obtain ⟨k, cap, _, hk, rfl⟩ := hx; exact ⟨_, cap, rfl, hk⟩
  · cases e; simp only [ARel] at hx; obtain ⟨k, cap, _, hk, _, rfl⟩ := hx; exact ⟨_, cap, rfl, hk⟩
  · cases e; simp only [ARel] at hx; obtain ⟨k, cap, rfl, hk, _⟩ := hx; exact ⟨_, cap, rfl, hk⟩
  · cases e; simp only [ARel] at hx; obtain ⟨k, cap, _, hk, rfl⟩ := hx; exact ⟨_, cap, rfl, hk⟩
  · cases e; simp only [ARel] at hx; obtain ⟨k, cap, _, hk, rfl⟩ := hx; exact ⟨_, cap, rfl, hk⟩
theorem len_run {x : AV} {u : Value} {r : AV} {t : TypeId} {ats : Array TypeId} {args : Array Value} {ty : TypeId} (hx : ARel c x u) (h0 : ats[0]? = some t) (h1 : args[0]? = some u) (e : evLen P t x = some r) (w : World) :
    ∃ q, (Builtin.len_ ats ty args).run P w = .ok q w ∧ ARel c r q := by
  unfold evLen at e
  split at e
  · rename_i n el ht
    cases e
    refine ⟨goInt n, ?_, by simp [ARel, DRel, goInt, Value.oneCell']⟩
    simp [Builtin.len_, h0, h1, Sem.run_bind, run_underlying ht]
  · rename_i ht
    split at e
    · rename_i s
      cases e
      simp only [ARel, DRel] at hx
      obtain ⟨rfl, _⟩ := hx
      refine ⟨goInt s.size, ?_, by simp [ARel, DRel, goInt, Value.oneCell']⟩
      simp [Builtin.len_, h0, h1, Sem.run_bind, run_underlying ht]
    · cases e
  · rename_i el ht
    split at e
    · rename_i n hn
      cases e
      refine ⟨goInt n, ?_, by simp [ARel, DRel, goInt, Value.oneCell']⟩
      obtain ⟨A, k, rfl, hk⟩ := slen_rel hx hn
      simp [Builtin.len_, h0, h1, Sem.run_bind, run_underlying ht]
    · cases e
  · cases e
theorem valsOfA_rel : ∀ {xs : List AV} {us vs : List Value}, ARels c xs us → valsOfA xs = some vs → us = vs
  | [], us, vs, h, e => by simp only [valsOfA, Option.some.injEq] at e; subst e; exact h
  | x :: xs, us, vs, h, e => by
    simp only [valsOfA] at e
    split at e
    · rename_i v ws h1 h2
      cases e
      obtain ⟨u, us', rfl, hx, hr⟩ := h
      rw [ARel.toVal hx h1, valsOfA_rel hr h2]
    · cases e
theorem maxMin_run {xs : List AV} {us : List Value} {r : AV} {f : Array Value → Sem Value} (h : ARels c xs us) (e : evMaxMin P f xs = some r) (w : World) : ∃ q, (f us.toArray).run P w = .ok q w ∧ ARel c r q := by
  unfold evMaxMin at e
  split at e
  · rename_i vs hv
    split at e
    · rename_i q hq
      cases e
      rw [valsOfA_rel h hv]
      exact ⟨q, semPure_run _ hq w, ofVal_rel c q⟩
    · cases e
  · cases e
theorem byte_get? {b : ByteArray} {l h i : Nat} (hi : l + i < h) (hh : h ≤ b.size) : (b.extract l h)[i]? = b[l + i]? := by
  have h1 : i < (b.extract l h).size := by rw [ByteArray.size_extract]; omega
  rw [getElem?_pos _ i h1, getElem?_pos b (l + i) (by omega)]
  rw [ByteArray.getElem_extract]
theorem DRows.get {r : RO} {b k : Nat} : ∀ {es : List D} {off : Nat}, DRows r b k off es → ∀ {i : Nat} {x : D}, es[i]? = some x → ∃ u, DRel r x u ∧ u.cells.size = k ∧ ∀ (j : Nat) (v : Value), u.cells[j]? = some v → r b (off + i * k + j) = some v
  | [], _, _, _, _, e => by simp at e
  | y :: es, off, h, i, x, e => by
    simp only [DRows] at h
    obtain ⟨⟨u, h1, h2, h3⟩, h4⟩ := h
    cases i with
    | zero => simp at e; subst e; exact ⟨u, h1, h2, fun j v e => by rw [show off + 0 * k + j = off + j by omega]; exact h3 j v e⟩
    | succ i =>
      simp at e
      obtain ⟨u', q1, q2, q3⟩ := DRows.get h4 e
      exact ⟨u', q1, q2, fun j v e => by rw [show off + (i + 1) * k + j = off + k + i * k + j by rw [Nat.succ_mul]; omega]; exact q3 j v e⟩
theorem DRows.drop {r : RO} {b k : Nat} : ∀ (l : Nat) {es : List D} {off : Nat}, DRows r b k off es → DRows r b k (off + l * k) (es.drop l)
  | 0, es, off, h => by simpa using h
  | l + 1, [], off, h => by simp only [List.drop_nil, DRows]
  | l + 1, y :: es, off, h => by
    simp only [DRows] at h
    have := DRows.drop l h.2
    rw [show off + (l + 1) * k = off + k + l * k by rw [Nat.succ_mul]; omega]
    exact this
theorem DRows.take {r : RO} {b k : Nat} : ∀ (l : Nat) {es : List D} {off : Nat}, DRows r b k off es → DRows r b k off (es.take l)
  | 0, es, off, h => by simp only [List.take_zero, DRows]
  | l + 1, [], off, h => by simp only [List.take_nil, DRows]
  | l + 1, y :: es, off, h => by
    simp only [DRows] at h
    simp only [List.take_succ_cons, DRows]
    exact ⟨h.1, DRows.take l h.2⟩
theorem add_eq (b off n : Nat) : (⟨b, off, none⟩ : Addr).add n = ⟨b, off + n, none⟩ := by
  unfold Addr.add
  split
  · simp_all
  · rfl
theorem rows_size {r : RO} {b k off size : Nat} {es : List D} (h : DRows r b k off es) (hs : hasSize size es = true) (hne : es ≠ []) : k = size := by
  cases es with
  | nil => exact (hne rfl).elim
  | cons x es =>
    simp only [DRows] at h
    obtain ⟨⟨u, h1, h2, _⟩, _⟩ := h
    simp only [hasSize, beq_iff_eq] at hs
    rw [← hs, ← h2, DRels.length (DRel.cells h1)]
    simp
theorem cut_rel {x : AV} {A : Option Addr} {n k l h : Nat} {r : AV} {size : Nat} (hx : ARel c x (.slice A n k)) (hl : l ≤ h) (hh : h ≤ n) (e : cutA x l h = some r) (hf : fitsA size x = true) (m : Nat) (hm : h ≤ m) (hmk : m ≤ k) :
    ARel c r (.slice (if m = l then A else A.map (·.add (l * size))) (h - l) (m - l)) := by
  have hslice : ∀ (es : List D), DRel c.ro (.slice es) (.slice A n k) → hasSize size es = true → ARel c (.d (.slice ((es.take h).drop l))) (.slice (if m = l then A else A.map (·.add (l * size))) (h - l) (m - l)) := by
    intro es hr hs
    simp only [DRel] at hr
    obtain ⟨A', k', he, hk, hcase⟩ := hr
    cases he
    have hlen : ((es.take h).drop l).length = h - l := by simp; omega
    simp only [ARel, DRel]
    refine ⟨_, m - l, by rw [hlen], by omega, ?_⟩
    by_cases hz : (es.take h).drop l = []
    · exact .inl hz
    · right
      have hml : m ≠ l := fun e => hz (by apply List.eq_nil_of_length_eq_zero; omega)
      rcases hcase with rfl | ⟨b, off, z, rfl, hrows⟩
      · simp at hz
      · have hne : es ≠ [] := fun e => by subst e; simp at hz
        have hz' := rows_size hrows hs hne
        subst hz'
        refine ⟨b, off + l * z, z, ?_, DRows.drop l (DRows.take h hrows)⟩
        rw [if_neg hml]; simp [add_eq]
  have hbytes : ∀ (bs : ByteArray), DRel c.ro (.bytes bs) (.slice A n k) → size = 1 → ARel c (.d (.bytes (bs.extract l h))) (.slice (if m = l then A else A.map (·.add (l * size))) (h - l) (m - l)) := by
    intro bs hr hs
    subst hs
    simp only [DRel] at hr
    obtain ⟨A', k', he, hk, hcase⟩ := hr
    cases he
    have hlen : (bs.extract l h).size = h - l := by rw [ByteArray.size_extract]; omega
    simp only [ARel, DRel]
    refine ⟨_, m - l, by rw [hlen], by omega, ?_⟩
    by_cases hz : (bs.extract l h).size = 0
    · exact .inl hz
    · right
      have hml : m ≠ l := by omega
      rcases hcase with h0 | ⟨b, off, rfl, hrows⟩
      · omega
      · refine ⟨b, off + l, ?_, fun i y e => ?_⟩
        · rw [if_neg hml]; simp [add_eq]
        · have hi : i < (bs.extract l h).size := by
            rcases Nat.lt_or_ge i (bs.extract l h).size with h' | h'
            · exact h'
            · rw [getElem?_neg _ i (by omega)] at e; cases e
          rw [byte_get? (by omega) hh] at e
          rw [Nat.add_assoc]
          exact hrows (l + i) y e
  unfold cutA at e
  split at e
  · cases e; exact hbytes _ hx (by simpa [fitsA] using hf)
  · cases e; exact hbytes _ (ARel.toD _ hx rfl) (by simpa [fitsA] using hf)
  · cases e; exact hslice _ hx (by simpa [fitsA] using hf)
  · cases e; exact hslice _ (ARel.toD _ hx rfl) (by simpa [fitsA] using hf)
  · cases e
    simp only [ARel, Value.slice.injEq] at hx
    obtain ⟨rfl, rfl, rfl⟩ := hx
    simp only [ARel, Option.map_none, ite_self]
    obtain rfl : l = 0 := by omega
    obtain rfl : h = 0 := by omega
    obtain rfl : m = 0 := by omega
    rfl
  · cases e
theorem bound_run {x : AV} {u : Value} {i : Int} {y : Nat} (hx : ARel c x u) (e : asIdx x = some i) (h0 : 0 ≤ i) (h1 : i ≤ y) (code : BoundsCode) (w : World) : (Instr.sliceBound u y code).run P w = .ok i.toNat w := by
  obtain ⟨k, rfl⟩ := asIdx_rel hx e
  simp only [Instr.sliceBound, asIntOf, Sem.run_bind, Sem.run_pure, Result.andThen]
  rw [if_pos ⟨h0, by exact_mod_cast h1⟩]
  rfl
theorem bounds_run {ρ : Operand → AV} {ρ' : Operand → Value} (hρ : ∀ x, ARel c (ρ x) (ρ' x)) {lo hi mx : Option Operand} {l h m : Int} {n k : Nat} (hl : optIdx ρ 0 lo = some l) (hh : optIdx ρ n hi = some h) (hm : optIdx ρ n mx = some m)
    (h0 : 0 ≤ l) (h1 : l ≤ h) (h2 : h ≤ m) (h3 : m ≤ n) (hk : n ≤ k) (b : Bool) (w : World) (hmx : mx.isSome = true → hi.isSome = true) :
    (Instr.sliceBounds b n k (lo.map ρ') (hi.map ρ') (mx.map ρ')).run P w = .ok (l.toNat, h.toNat, if mx.isNone then k else m.toNat) w := by
  have hb : ∀ (o : Operand) (i : Int) (y : Nat) (code : BoundsCode), asIdx (ρ o) = some i → 0 ≤ i → i ≤ y → (Instr.sliceBound (ρ' o) y code).run P w = .ok i.toNat w :=
    fun o i y code e e0 e1 => bound_run (hρ o) e e0 e1 code w
  cases mx with
  | none =>
    simp only [optIdx, Option.some.injEq] at hm
    cases hi with
    | none =>
      simp only [optIdx, Option.some.injEq] at hh
      cases lo with
      | none =>
        simp only [optIdx, Option.some.injEq] at hl
        subst hl; subst hh
        simp [Instr.sliceBounds, Sem.run_bind, Result.andThen]
      | some o =>
        simp only [optIdx] at hl
        subst hh
        simp [Instr.sliceBounds, Sem.run_bind, Result.andThen, hb o l n _ hl h0 (by omega)]
    | some p =>
      simp only [optIdx] at hh
      have hp : ∀ code, (Instr.sliceBound (ρ' p) k code).run P w = .ok h.toNat w := fun code => hb p h k code hh (by omega) (by omega)
      cases lo with
      | none =>
        simp only [optIdx, Option.some.injEq] at hl
        subst hl
        cases b <;> simp [Instr.sliceBounds, Sem.run_bind, Result.andThen, hp]
      | some o =>
        simp only [optIdx] at hl
        have ho : ∀ code, (Instr.sliceBound (ρ' o) h.toNat code).run P w = .ok l.toNat w := fun code => hb o l h.toNat code hl h0 (by omega)
        cases b <;> simp [Instr.sliceBounds, Sem.run_bind, Result.andThen, hp, ho]
  | some q =>
    simp only [optIdx] at hm
    cases hi with
    | none => simp at hmx
    | some p =>
      simp only [optIdx] at hh
      have hq : ∀ code, (Instr.sliceBound (ρ' q) k code).run P w = .ok m.toNat w := fun code => hb q m k code hm (by omega) (by omega)
      have hp : ∀ code, (Instr.sliceBound (ρ' p) m.toNat code).run P w = .ok h.toNat w := fun code => hb p h m.toNat code hh (by omega) (by omega)
      cases lo with
      | none =>
        simp only [optIdx, Option.some.injEq] at hl
        subst hl
        cases b <;> simp [Instr.sliceBounds, Sem.run_bind, Result.andThen, hp, hq]
      | some o =>
        simp only [optIdx] at hl
        have ho : ∀ code, (Instr.sliceBound (ρ' o) h.toNat code).run P w = .ok l.toNat w := fun code => hb o l h.toNat code hl h0 (by omega)
        cases b <;> simp [Instr.sliceBounds, Sem.run_bind, Result.andThen, hp, ho, hq]
theorem slice_run {ρ : Operand → AV} {ρ' : Operand → Value} (hρ : ∀ x, ARel c (ρ x) (ρ' x)) {t : TypeId} {x : Operand} {lo hi mx : Option Operand} {r : AV} (e : evSlice P t ρ x lo hi mx = some r) (w : World) :
    ∃ q, (Instr.sliceAt t (ρ' x) (lo.map ρ') (hi.map ρ') (mx.map ρ')).run P w = .ok q w ∧ ARel c r q := by
  unfold evSlice at e
  split at e
  · rename_i ht
    split at e
    · rename_i s hs
      have hx := hρ x
      rw [hs] at hx
      simp only [ARel, DRel] at hx
      split at e
      · rename_i l h hl hh
        split at e
        · rename_i hb
          cases e
          refine ⟨.string (s.extract l.toNat h.toNat), ?_, by simp [ARel, DRel, Value.oneCell']⟩
          have hbd := bounds_run (P := P) (mx := none) (m := s.size) hρ hl hh rfl hb.1 hb.2.1 hb.2.2 (by omega) (Nat.le_refl _) false w (by simp)
          rw [hx.1]
          simp only [Instr.sliceAt, Instr.slice, Sem.run_bind, run_underlying ht, Result.andThen, Option.map_none, Option.isSome_none] at hbd ⊢
          simp [hbd]
        · cases e
      · cases e
    · cases e
  · rename_i el ht
    split at e
    · rename_i n hn
      split at e
      · rename_i l h m hl hh hm
        split at e
        · rename_i hb
          have hx := hρ x
          obtain ⟨A, k, hA, hk⟩ := slen_rel hx hn
          rw [hA] at hx
          obtain ⟨h0, h1, h2, h3, h4, h5, h6, h7⟩ := hb
          have hbd := bounds_run (P := P) (k := k) hρ hl hh hm h0 h1 h3 h4 hk true w h7
          have hm' : h.toNat ≤ (if mx.isNone then k else m.toNat) ∧ (if mx.isNone then k else m.toNat) ≤ k := by
            split <;> constructor <;> omega
          have := cut_rel hx (l := l.toNat) (h := h.toNat) (by omega) (by omega) e h5 (if mx.isNone then k else m.toNat) hm'.1 hm'.2
          refine ⟨_, ?_, this⟩
          rw [hA]
          obtain ⟨i, hi'⟩ := Option.isSome_iff_exists.1 h6
          simp only [Instr.sliceAt, Instr.slice, Sem.run_bind, run_underlying ht, Result.andThen, hbd, sizeOf_run w hi', Sem.run_pure, cellsOf_info hi']
        · cases e
      · cases e
    · cases e
  · cases e
theorem load_cells {cs : List AV} {us : List Value} (h : ACells c cs us) {w : World} {b base : Nat} (hm : ∀ (j : Nat) (v : Value), us[j]? = some v → w.cell? ⟨b, base + j, none⟩ = some v) {t : TypeId} {off : Nat} {x : AV} (e : partA P t cs off = some x) :
    ∃ u, (loadVar t ⟨b, base + off, none⟩).run P w = .ok u w ∧ ARel c x u := by
  unfold partA at e
  split at e
  · cases e
  rename_i hk
  obtain ⟨d, hd⟩ : ∃ d, P.underlying t = some d := by
    cases e' : P.underlying t with
    | none => simp [e'] at hk
    | some d => exact ⟨d, rfl⟩
  obtain ⟨i, hi⟩ := info_of_underlying hd
  split at e
  · rename_i ha
    split at e
    · rename_i hl
      cases e
      have hr := DRel.list_take (P.cellsOf t) (DRel.list_drop off h)
      refine ⟨.agg ((us.drop off).take (P.cellsOf t)).toArray, ?_, mkAgg_rel hr⟩
      have hlen : ((us.drop off).take (P.cellsOf t)).length = i.size := by
        have := ACells.length h
        rw [List.length_take, List.length_drop, cellsOf_info hi] at *
        omega
      have hload := run_loadCells_list (P := P) w ⟨b, base + off, none⟩ ((us.drop off).take (P.cellsOf t)) (fun j v e => by
        rw [add_eq]
        have hj : j < P.cellsOf t := by
          have := (List.getElem?_eq_some_iff.1 e).1
          simp at this; omega
        rw [List.getElem?_take_of_lt hj, List.getElem?_drop] at e
        rw [Nat.add_assoc]
        exact hm _ _ e)
      rw [hlen] at hload
      simp only [loadVar, Sem.run_bind, isAgg_run t w hd, Result.andThen, ha, if_true, sizeOf_run w hi, hload, Sem.run_pure]
    · cases e
  · rename_i ha
    obtain ⟨u, h1, _, h2⟩ := ACells.get h e
    refine ⟨u, ?_, h2⟩
    have hc := hm off u h1
    simp only [loadVar, Sem.run_bind, isAgg_run t w hd, Result.andThen, ha]
    simp [run_load, hc]
theorem load_run {boxes : List Box} {w : World} (hW : WOk c boxes w) {x : AV} {u : Value} {r : AV} {t : TypeId} (hx : ARel c x u) (e : evLoad P t boxes x = some r) : ∃ v, (Instr.loadAt t u).run P w = .ok v w ∧ ARel c r v := by
  unfold evLoad at e
  split at e
  · rename_i i off
    simp only [ARel] at hx
    obtain ⟨k, hk, rfl⟩ := hx
    split at e
    · rename_i cs hb
      obtain ⟨us, rest, el, hh, hcs, _⟩ := hW.box i _ k hb hk
      obtain ⟨v, h1, h2⟩ := load_cells (P := P) (b := k) (base := 0) hcs (w := w) (fun j v e => by
        simp only [World.cell?, hh, Nat.zero_add]
        have hj := (List.getElem?_eq_some_iff.1 e).1
        simp [List.getElem?_append_left hj, e]) e
      refine ⟨v, ?_, h2⟩
      rw [Nat.zero_add] at h1
      simpa [Instr.loadAt, Instr.sureAddr] using h1
    · cases e
  · rename_i y off
    simp only [ARel] at hx
    obtain ⟨b, o, v, hy, rfl, hm⟩ := hx
    obtain ⟨v', h1, h2⟩ := load_cells (P := P) (b := b) (base := o) (ACells.of_d (DRel.cells hy)) (w := w) (fun j z e => hW.ro _ _ _ (hm j z (by simpa using e))) e
    refine ⟨v', ?_, h2⟩
    simpa [Instr.loadAt, Instr.sureAddr] using h1
  · rename_i i z k off
    simp only [ARel] at hx
    obtain ⟨g, hg, rfl⟩ := hx
    split at e
    · rename_i z' es hb
      split at e
      · rename_i d hd
        split at e
        · rename_i hz
          obtain ⟨rfl, _⟩ := hz
          obtain ⟨cs, el, hh, hr⟩ := hW.box i _ g hb hg
          obtain ⟨v, hv, _, hm⟩ := hr k d hd
          obtain ⟨v', h1, h2⟩ := load_cells (P := P) (b := g) (base := k * z') (ACells.of_d (DRel.cells hv)) (w := w) (fun j y e => by
            simp only [World.cell?, hh]
            simpa using hm j y (by simpa using e)) e
          refine ⟨v', ?_, h2⟩
          simpa [Instr.loadAt, Instr.sureAddr] using h1
        · cases e
      · cases e
    · cases e
  · cases e
theorem info_of_cells {t : TypeId} (h : ¬ P.cellsOf t = 0) : ∃ i, P.info? t = some i ∧ i.size = P.cellsOf t := by
  cases e : P.info? t with
  | none => simp [Program.cellsOf, e] at h
  | some i => exact ⟨i, rfl, by simp [Program.cellsOf, e]⟩
theorem fieldAddr_run {x : AV} {u : Value} {r : AV} {s : TypeId} {f : Nat} (hx : ARel c x u) (e : evFieldAddr P s f x = some r) (w : World) : ∃ v, (Instr.fieldAt s u f).run P w = .ok v w ∧ ARel c r v := by
  unfold evFieldAddr at e
  split at e
  · rename_i fs hs
    split at e
    · rename_i fd hf
      split at e
      · cases e
      · rename_i h0
        obtain ⟨i, hi, hsz⟩ := info_of_cells h0
        have hne : ¬ i.size = 0 := by rw [hsz]; exact h0
        split at e
        · rename_i k off
          cases e
          simp only [ARel] at hx
          obtain ⟨b, hb, rfl⟩ := hx
          refine ⟨.pointer (some ⟨b, off + fd.offset, none⟩), ?_, by simp only [ARel]; exact ⟨b, hb, rfl⟩⟩
          simp [Instr.fieldAt, Sem.run_bind, run_underlying hs, hf, Instr.sureAddr, fieldPlace, sizeOf_run w hi, hne, add_eq]
        · rename_i y off
          cases e
          simp only [ARel] at hx
          obtain ⟨b, o, v, hy, rfl, hm⟩ := hx
          refine ⟨.pointer (some ⟨b, o + (off + fd.offset), none⟩), ?_, by simp only [ARel]; exact ⟨b, o, v, hy, rfl, hm⟩⟩
          simp [Instr.fieldAt, Sem.run_bind, run_underlying hs, hf, Instr.sureAddr, fieldPlace, sizeOf_run w hi, hne, add_eq, Nat.add_assoc]
        · rename_i g off
          cases e
          simp only [ARel] at hx
          subst hx
          refine ⟨.pointer (some ⟨g, off + fd.offset, none⟩), ?_, by simp only [ARel]⟩
          simp [Instr.fieldAt, Sem.run_bind, run_underlying hs, hf, Instr.sureAddr, fieldPlace, sizeOf_run w hi, hne, add_eq]
        · rename_i j z k off
          cases e
          simp only [ARel] at hx
          obtain ⟨b, hb, rfl⟩ := hx
          refine ⟨.pointer (some ⟨b, k * z + (off + fd.offset), none⟩), ?_, by simp only [ARel]; exact ⟨b, hb, rfl⟩⟩
          simp [Instr.fieldAt, Sem.run_bind, run_underlying hs, hf, Instr.sureAddr, fieldPlace, sizeOf_run w hi, hne, add_eq, Nat.add_assoc]
        · cases e
    · cases e
  · cases e
theorem elemAt_rel {x : AV} {A : Option Addr} {n k : Nat} {i : Nat} {d : D} (hx : ARel c x (.slice A n k)) (e : elemAt x i = some d) :
    i < n ∧ ∃ b off z v, A = some ⟨b, off, none⟩ ∧ DRel c.ro d v ∧ v.cells.size = z ∧ ∀ (j : Nat) (y : Value), v.cells[j]? = some y → c.ro b (off + i * z + j) = some y := by
  have hslice : ∀ es : List D, DRel c.ro (.slice es) (.slice A n k) → es[i]? = some d → i < n ∧ ∃ b off z v, A = some ⟨b, off, none⟩ ∧ DRel c.ro d v ∧ v.cells.size = z ∧ ∀ (j : Nat) (y : Value), v.cells[j]? = some y → c.ro b (off + i * z + j) = some y := by
    intro es hr he
    simp only [DRel] at hr
    obtain ⟨A', k', e1, hk, hc⟩ := hr
    cases e1
    have hi := (List.getElem?_eq_some_iff.1 he).1
    refine ⟨hi, ?_⟩
    rcases hc with rfl | ⟨b, off, z, rfl, hrows⟩
    · simp at he
    · obtain ⟨v, q1, q2, q3⟩ := DRows.get hrows he
      exact ⟨b, off, z, v, rfl, q1, q2, q3⟩
  have hbytes : ∀ bs : ByteArray, DRel c.ro (.bytes bs) (.slice A n k) → (match bs[i]? with | some y => some (D.val (.int .u8 y.toNat)) | none => none) = some d → i < n ∧ ∃ b off z v, A = some ⟨b, off, none⟩ ∧ DRel c.ro d v ∧ v.cells.size = z ∧ ∀ (j : Nat) (y : Value), v.cells[j]? = some y → c.ro b (off + i * z + j) = some y := by
    intro bs hr he
    simp only [DRel] at hr
    obtain ⟨A', k', e1, hk, hc⟩ := hr
    cases e1
    split at he
    · rename_i y hy
      cases he
      have hi : i < bs.size := by
        rcases Nat.lt_or_ge i bs.size with h' | h'
        · exact h'
        · rw [getElem?_neg _ i (by omega)] at hy; cases hy
      refine ⟨hi, ?_⟩
      rcases hc with h0 | ⟨b, off, rfl, hrows⟩
      · omega
      · refine ⟨b, off, 1, .int .u8 y.toNat, rfl, ⟨rfl, rfl⟩, rfl, fun j z e => ?_⟩
        cases j with
        | zero => simp [Value.cells] at e; subst e; simpa using hrows i y hy
        | succ j => simp [Value.cells] at e
    · cases he
  unfold elemAt at e
  split at e
  · exact hbytes _ hx e
  · exact hbytes _ (ARel.toD _ hx rfl) e
  · exact hslice _ hx e
  · exact hslice _ (ARel.toD _ hx rfl) e
  · cases e
theorem indexAddr_run {x y : AV} {u v : Value} {r : AV} {t : TypeId} (hx : ARel c x u) (hy : ARel c y v) (e : evIndexAddr P t x y = some r) (w : World) : ∃ q, (Instr.indexAt t u v).run P w = .ok q w ∧ ARel c r q := by
  unfold evIndexAddr at e
  split at e
  · rename_i n el k ht hi
    obtain ⟨ik, rfl⟩ := asIdx_rel hy hi
    split at e
    · rename_i hb
      obtain ⟨i, hinf⟩ := Option.isSome_iff_exists.1 hb.2.2
      split at e
      · rename_i b off
        cases e
        simp only [ARel] at hx
        obtain ⟨g, hg, rfl⟩ := hx
        refine ⟨.pointer (some ⟨g, off + k.toNat * P.cellsOf el, none⟩), ?_, by simp only [ARel]; exact ⟨g, hg, rfl⟩⟩
        simp [Instr.indexAt, asIntOf, Sem.run_bind, run_underlying ht, Instr.sureAddr, hb.1, hb.2.1, sizeOf_run w hinf, add_eq, cellsOf_info hinf]
      · rename_i d off
        cases e
        simp only [ARel] at hx
        obtain ⟨b, o, v, hd, rfl, hm⟩ := hx
        refine ⟨.pointer (some ⟨b, o + (off + k.toNat * P.cellsOf el), none⟩), ?_, by simp only [ARel]; exact ⟨b, o, v, hd, rfl, hm⟩⟩
        simp [Instr.indexAt, asIntOf, Sem.run_bind, run_underlying ht, Instr.sureAddr, hb.1, hb.2.1, sizeOf_run w hinf, add_eq, cellsOf_info hinf, Nat.add_assoc]
      · rename_i g off
        cases e
        simp only [ARel] at hx
        subst hx
        refine ⟨.pointer (some ⟨g, off + k.toNat * P.cellsOf el, none⟩), ?_, by simp only [ARel]⟩
        simp [Instr.indexAt, asIntOf, Sem.run_bind, run_underlying ht, Instr.sureAddr, hb.1, hb.2.1, sizeOf_run w hinf, add_eq, cellsOf_info hinf]
      · cases e
    · cases e
  · rename_i el k ht hi
    obtain ⟨ik, rfl⟩ := asIdx_rel hy hi
    split at e
    · rename_i h0
      split at e
      · rename_i ib n z
        split at e
        · rename_i hb
          cases e
          obtain ⟨i, hinf⟩ := Option.isSome_iff_exists.1 hb.2
          simp only [ARel] at hx
          obtain ⟨kb, cap, hkb, hcap, rfl⟩ := hx
          refine ⟨.pointer (some ⟨kb, k.toNat * P.cellsOf el, none⟩), ?_, by simp only [ARel]; exact ⟨kb, hkb, rfl⟩⟩
          have hkn : k < n := by omega
          simp [Instr.indexAt, asIntOf, Sem.run_bind, run_underlying ht, h0, hkn, sizeOf_run w hinf, add_eq, cellsOf_info hinf]
        · cases e
      · rename_i ib off n
        split at e
        · rename_i hb
          cases e
          obtain ⟨i, hinf⟩ := Option.isSome_iff_exists.1 hb.2
          simp only [ARel] at hx
          obtain ⟨kb, cap, hkb, hcap, rfl⟩ := hx
          refine ⟨.pointer (some ⟨kb, off + k.toNat * P.cellsOf el, none⟩), ?_, by simp only [ARel]; exact ⟨kb, hkb, rfl⟩⟩
          have hkn : k < n := by omega
          simp [Instr.indexAt, asIntOf, Sem.run_bind, run_underlying ht, h0, hkn, sizeOf_run w hinf, add_eq, cellsOf_info hinf]
        · cases e
      · rename_i ib z n
        split at e
        · rename_i hb
          cases e
          obtain ⟨hb1, hb2, rfl⟩ := hb
          obtain ⟨i, hinf⟩ := Option.isSome_iff_exists.1 hb2
          simp only [ARel] at hx
          obtain ⟨kb, cap, hkb, hcap, _, rfl⟩ := hx
          refine ⟨.pointer (some ⟨kb, k.toNat * P.cellsOf el, none⟩), ?_, by simp only [ARel]; exact ⟨kb, hkb, by simp⟩⟩
          have hkn : k < n := by omega
          simp [Instr.indexAt, asIntOf, Sem.run_bind, run_underlying ht, h0, hkn, sizeOf_run w hinf, add_eq, cellsOf_info hinf]
        · cases e
      · rename_i ib z off n
        split at e
        · rename_i hb
          cases e
          obtain ⟨hb1, hb2, rfl⟩ := hb
          obtain ⟨i, hinf⟩ := Option.isSome_iff_exists.1 hb2
          simp only [ARel] at hx
          obtain ⟨kb, cap, hkb, hcap, rfl⟩ := hx
          refine ⟨.pointer (some ⟨kb, (off + k.toNat) * P.cellsOf el, none⟩), ?_, by simp only [ARel]; exact ⟨kb, hkb, by simp⟩⟩
          have hkn : k < n := by omega
          simp [Instr.indexAt, asIntOf, Sem.run_bind, run_underlying ht, h0, hkn, sizeOf_run w hinf, add_eq, cellsOf_info hinf, Nat.add_mul]
        · cases e
      rename_i x' hnm hnm2 hnm3 hnm4
      split at e
      · rename_i d hd
        split at e
        · rename_i hb
          cases e
          obtain ⟨i, hinf⟩ := Option.isSome_iff_exists.1 hb.2
          have hsl : ∃ A n cap, u = .slice A n cap := by
            cases x <;> simp only [elemAt] at hd <;> first | (cases hd; done) | skip
            · rename_i z
              cases z <;> simp only [] at hd <;> first | (cases hd; done) | skip
              · simp only [ARel, DRel] at hx; obtain ⟨A, cc, rfl, _⟩ := hx; exact ⟨A, _, cc, rfl⟩
              · simp only [ARel, DRel] at hx; obtain ⟨A, cc, rfl, _⟩ := hx; exact ⟨A, _, cc, rfl⟩
            · simp only [ARel] at hx
              rcases hx with ⟨b, cap, kk, rfl, _⟩ | ⟨_, ⟨A, rfl⟩, _⟩
              · exact ⟨_, _, cap, rfl⟩
              · exact ⟨A, _, _, rfl⟩
            · simp only [ARel] at hx
              rcases hx with ⟨b, cap, rfl, _⟩ | ⟨_, rfl, _⟩
              · exact ⟨_, _, cap, rfl⟩
              · exact ⟨none, _, _, rfl⟩
          obtain ⟨A, n, cap, rfl⟩ := hsl
          obtain ⟨hlt, b, off, z, v, rfl, h1, h2, h3⟩ := elemAt_rel hx hd
          have hz : z = P.cellsOf el := by rw [← hb.1, ← h2, DRels.length (DRel.cells h1)]; simp
          refine ⟨.pointer (some ⟨b, off + k.toNat * z, none⟩), ?_, by simp only [ARel, Nat.add_zero]; exact ⟨b, off + k.toNat * z, v, h1, rfl, h3⟩⟩
          have hkn : k < n := by omega
          have hz' : i.size = z := by rw [hz, cellsOf_info hinf]
          simp [Instr.indexAt, asIntOf, Sem.run_bind, run_underlying ht, h0, hkn, sizeOf_run w hinf, add_eq, hz']
        · cases e
      · cases e
    · cases e
  · cases e
end Ev
