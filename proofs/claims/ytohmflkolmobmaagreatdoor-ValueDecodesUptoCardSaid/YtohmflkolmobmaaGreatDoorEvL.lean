/- What functions of the program compute, as plain Lean functions, each with its proof by a proved reader; plain laws about them (EvL). -/
import Derived.Test.YtohmflkolmobmaaGreatDoorEvI
set_option linter.unusedSimpArgs false
set_option linter.unusedVariables false
namespace Ev
open Go Go.RowKit
variable {σ : Type} {P : Program} {α : Type}
theorem distinct_nodup : ∀ {l : List Nat}, distinct l = true → l.Nodup
  | [], _ => List.nodup_nil
  | x :: r, h => by
    simp only [distinct, Bool.and_eq_true, Bool.not_eq_true', List.contains_iff_mem, Bool.not_eq_eq_eq_not] at h
    refine List.nodup_cons.2 ⟨fun hm => ?_, distinct_nodup h.2⟩
    have := h.1
    simp [hm] at this
theorem indexOf_get {x : Nat} : ∀ {l : List Nat}, x ∈ l → l[indexOf x l]? = some x
  | [], h => by cases h
  | y :: r, h => by
    simp only [indexOf]
    by_cases he : x = y
    · rw [if_pos he]; simp [he]
    · rw [if_neg he]
      simp only [List.getElem?_cons_succ]
      exact indexOf_get ((List.mem_cons.1 h).resolve_left he)
theorem nodup_of_inj : ∀ {l : List α}, (∀ (i j : Nat) (x : α), l[i]? = some x → l[j]? = some x → i = j) → l.Nodup
  | [], _ => List.nodup_nil
  | x :: r, h => by
    refine List.nodup_cons.2 ⟨fun hm => ?_, nodup_of_inj fun i j y h1 h2 => ?_⟩
    · obtain ⟨i, hi⟩ := List.getElem?_of_mem hm
      have := h 0 (i + 1) x (by simp) (by simpa using hi)
      omega
    · have := h (i + 1) (j + 1) y (by simpa using h1) (by simpa using h2)
      omega
theorem inj_of_nodup {l : List α} (h : l.Nodup) {i j : Nat} {x : α} (h1 : l[i]? = some x) (h2 : l[j]? = some x) : i = j := by
  have e1 := List.getElem?_eq_some_iff.1 h1
  have e2 := List.getElem?_eq_some_iff.1 h2
  exact (List.getElem_inj h).1 (e1.2.trans e2.2.symm)
theorem length_putBack : ∀ (ps : List (Nat × α)) (l : List α), (putBack l ps).length = l.length
  | [], _ => rfl
  | (i, x) :: r, l => by simp [putBack, length_putBack r]
theorem putBack_other : ∀ (ps : List (Nat × α)) (l : List α) (i : Nat), (∀ p ∈ ps, p.1 ≠ i) → (putBack l ps)[i]? = l[i]?
  | [], _, _, _ => rfl
  | (j, x) :: r, l, i, h => by
    simp only [putBack]
    rw [putBack_other r _ i (fun p hp => h p (List.mem_cons_of_mem _ hp)), List.getElem?_set_ne (h (j, x) (by simp))]
theorem putBack_at : ∀ (rs : List Nat) (b : List α) (l : List α) (j i : Nat) (x : α), rs.Nodup → rs[j]? = some i → b[j]? = some x → i < l.length → (putBack l (rs.zip b))[i]? = some x
  | [], _, _, _, _, _, _, h, _, _ => by simp at h
  | _ :: _, [], _, _, _, _, _, _, h, _ => by simp at h
  | r :: rs, y :: b, l, 0, i, x, hn, h1, h2, hi => by
    simp at h1 h2
    subst h1; subst h2
    simp only [List.zip_cons_cons, putBack]
    rw [putBack_other]
    · simp [hi]
    · rintro ⟨q, z⟩ hp e
      exact (List.nodup_cons.1 hn).1 (by simp at e; subst e; exact (List.of_mem_zip hp).1)
  | r :: rs, y :: b, l, j + 1, i, x, hn, h1, h2, hi => by
    simp only [List.zip_cons_cons, putBack]
    exact putBack_at rs b _ j i x (List.nodup_cons.1 hn).2 (by simpa using h1) (by simpa using h2) (by simpa using hi)
section merge
variable {l b : List α} {rs : List Nat} {keep : Bool}
theorem merge_old (i : Nat) (hi : i < l.length) (hn : i ∉ rs) : (merge l rs b keep)[i]? = l[i]? := by
  unfold merge
  rw [List.getElem?_append_left (by rw [length_putBack]; exact hi), putBack_other]
  rintro ⟨q, z⟩ hp e
  simp at e; subst e
  exact hn (List.of_mem_zip hp).1
theorem merge_new (hn : rs.Nodup) (hlt : ∀ i ∈ rs, i < l.length) (hb : rs.length ≤ b.length) (j : Nat) (hj : j < rs.length ∨ keep = true) : (merge l rs b keep)[backIdx rs l.length j]? = b[j]? := by
  unfold merge backIdx
  by_cases h : j < rs.length
  · rw [if_pos h]
    have hr : rs[j]? = some rs[j] := List.getElem?_eq_getElem h
    have hl := hlt rs[j] (List.getElem_mem h)
    rw [List.getD_eq_getElem?_getD, hr, Option.getD_some, List.getElem?_append_left (by rw [length_putBack]; exact hl)]
    have hbj : b[j]? = some b[j] := List.getElem?_eq_getElem (by omega)
    rw [hbj]
    exact putBack_at rs _ l j _ _ hn hr (by rw [List.getElem?_take, if_pos h]; exact hbj) hl
  · rw [if_neg h]
    have hk := hj.resolve_left h
    subst hk
    simp only [if_true]
    rw [List.getElem?_append_right (by rw [length_putBack]; omega), length_putBack, List.getElem?_drop]
    congr 1; omega
theorem length_merge (hb : rs.length ≤ b.length) : (merge l rs b keep).length = l.length + (if keep then b.length - rs.length else 0) := by
  unfold merge
  rw [List.length_append, length_putBack]
  cases keep <;> simp
theorem merge_cases (hn : rs.Nodup) (hlt : ∀ i ∈ rs, i < l.length) (hb : rs.length ≤ b.length) {i : Nat} {x : α} (h : (merge l rs b keep)[i]? = some x) :
    (i < l.length ∧ i ∉ rs ∧ l[i]? = some x) ∨ ∃ j, (j < rs.length ∨ keep = true) ∧ i = backIdx rs l.length j ∧ b[j]? = some x := by
  have hl := (List.getElem?_eq_some_iff.1 h).1
  rw [length_merge hb] at hl
  by_cases hi : i < l.length
  · by_cases hm : i ∈ rs
    · obtain ⟨j, hj⟩ := List.getElem?_of_mem hm
      have hjl := (List.getElem?_eq_some_iff.1 hj).1
      have hx : backIdx rs l.length j = i := by
        unfold backIdx; rw [if_pos hjl, List.getD_eq_getElem?_getD, hj]; rfl
      exact .inr ⟨j, .inl hjl, hx.symm, by rw [← merge_new (keep := keep) hn hlt hb j (.inl hjl), hx]; exact h⟩
    · exact .inl ⟨hi, hm, by rw [← merge_old (b := b) (keep := keep) i hi hm]; exact h⟩
  · cases keep with
    | false => simp at hl; omega
    | true =>
      simp at hl
      have hx : backIdx rs l.length (i - l.length + rs.length) = i := by
        unfold backIdx; rw [if_neg (by omega)]; omega
      exact .inr ⟨_, .inr rfl, hx.symm, by rw [← merge_new (keep := true) hn hlt hb _ (.inr rfl), hx]; exact h⟩
end merge
theorem mem_refsL {ty : Option TypeId} {cs : List AV} : ∀ {bs : List Box} {l : List Nat}, allIn (bs.flatMap Box.refs) l = true → Box.cells ty cs ∈ bs → ∀ i ∈ refsL cs, i ∈ l := fun {bs l} h hm i hi => by
  simp only [allIn, List.all_eq_true, List.contains_iff_mem] at h
  exact h i (List.mem_flatMap.2 ⟨_, hm, hi⟩)
theorem mem_tksL {ty : Option TypeId} {cs : List AV} : ∀ {bs : List Box} {l : List Nat}, allIn (bs.flatMap Box.tks) l = true → Box.cells ty cs ∈ bs → ∀ i ∈ tksL cs, i ∈ l := fun {bs l} h hm i hi => by
  simp only [allIn, List.all_eq_true, List.contains_iff_mem] at h
  exact h i (List.mem_flatMap.2 ⟨_, hm, hi⟩)
theorem BoxRel.ren {c c' : Cx} {bf tf : Nat → Nat} {ib it : Nat → Prop} (h : c.to c' bf tf ib it) {w : World} {bx : Box} {k : Nat} (hb : BoxRel c w bx k) (h1 : ∀ ty cs, bx = .cells ty cs → (∀ i ∈ refsL cs, ib i) ∧ ∀ i ∈ tksL cs, it i) : BoxRel c' w (bx.ren bf tf) k := by
  cases bx with
  | cells ty cs =>
    obtain ⟨us, rest, e, q1, q2, q3⟩ := hb
    exact ⟨us, rest, e, q1, ACells.ren h cs (h1 ty cs rfl).1 (h1 ty cs rfl).2 q2, q3⟩
  | map es => exact hb
  | row z es => obtain ⟨cs, e, q1, q2⟩ := hb; exact ⟨cs, e, q1, fun i x hx => (q2 i x hx).imp fun u q => ⟨DRel.mono h.ro x q.1, q.2⟩⟩
  | iter s pos => exact hb
  | gone => trivial
structure Lent (rs ts : List Nat) (args : List AV) (bs boxes : List Box) (toks : List Nat) : Prop where
  rn : rs.Nodup
  tn : ts.Nodup
  rlt : ∀ i ∈ rs, i < boxes.length
  tlt : ∀ i ∈ ts, i < toks.length
  ar : ∀ i ∈ refsL args, i ∈ rs
  br : allIn (bs.flatMap Box.refs) rs = true
  at' : ∀ i ∈ tksL args, i ∈ ts
  bt : allIn (bs.flatMap Box.tks) ts = true
  ng : ∀ b ∈ bs, b ≠ Box.gone
theorem lent_of {rs ts : List Nat} {args : List AV} {bs boxes : List Box} {toks : List Nat} (h : lendOk rs ts args bs boxes toks = true) : Lent rs ts args bs boxes toks := by
  simp only [lendOk, Bool.and_eq_true] at h
  obtain ⟨⟨⟨⟨⟨⟨⟨⟨h1, h2⟩, h3⟩, h4⟩, h5⟩, h6⟩, h7⟩, h8⟩, h9⟩ := h
  refine ⟨distinct_nodup h1, distinct_nodup h2, by simpa using h3, by simpa using h4, ?_, h6, ?_, h8, fun b hb e => ?_⟩
  · simpa [allIn, List.all_eq_true, List.contains_iff_mem] using h5
  · simpa [allIn, List.all_eq_true, List.contains_iff_mem] using h7
  · have := List.all_eq_true.1 h9 b hb
    subst e; simp [notGone] at this
def Cx.sub (c : Cx) (rs ts : List Nat) (l : Option Nat) : Cx := ⟨rs.map (fun i => c.β.getD i 0), ts.map (fun t => c.τ.getD t none), ts.map (fun t => c.toks.getD t 0), c.ro, l, []⟩
section sub
variable {c : Cx} {rs ts : List Nat} {l : Option Nat} {args : List AV} {boxes : List Box} {w : World}
theorem sub_β {j k : Nat} (h : WOk c boxes w) (hlt : ∀ i ∈ rs, i < boxes.length) (e : (c.sub rs ts l).β[j]? = some k) : ∃ i, rs[j]? = some i ∧ c.β[i]? = some k := by
  simp only [Cx.sub, List.getElem?_map, Option.map_eq_some_iff] at e
  obtain ⟨i, hi, e⟩ := e
  have : i < c.β.length := by rw [h.len]; exact hlt i (List.mem_of_getElem? hi)
  refine ⟨i, hi, ?_⟩
  rw [List.getD_eq_getElem?_getD, List.getElem?_eq_getElem this] at e
  rw [List.getElem?_eq_getElem this]; simpa using e
theorem sub_β' {j i : Nat} (h : WOk c boxes w) (hlt : ∀ i ∈ rs, i < boxes.length) (e : rs[j]? = some i) : (c.sub rs ts l).β[j]? = c.β[i]? := by
  have : i < c.β.length := by rw [h.len]; exact hlt i (List.mem_of_getElem? e)
  simp [Cx.sub, List.getElem?_map, e, List.getD_eq_getElem?_getD, List.getElem?_eq_getElem this]
theorem sub_τ {j : Nat} {x : Option (Nat × Nat × Nat × Bool)} (h : WOk c boxes w) (hlt : ∀ i ∈ ts, i < c.toks.length) (e : (c.sub rs ts l).τ[j]? = some x) : ∃ i, ts[j]? = some i ∧ c.τ[i]? = some x := by
  simp only [Cx.sub, List.getElem?_map, Option.map_eq_some_iff] at e
  obtain ⟨i, hi, e⟩ := e
  have : i < c.τ.length := by rw [h.tlen]; exact hlt i (List.mem_of_getElem? hi)
  refine ⟨i, hi, ?_⟩
  rw [List.getD_eq_getElem?_getD, List.getElem?_eq_getElem this] at e
  rw [List.getElem?_eq_getElem this]; simpa using e
theorem sub_τ' {j i : Nat} (h : WOk c boxes w) (hlt : ∀ i ∈ ts, i < c.toks.length) (e : ts[j]? = some i) : (c.sub rs ts l).τ[j]? = c.τ[i]? ∧ (c.sub rs ts l).toks[j]? = c.toks[i]? := by
  have h1 := hlt i (List.mem_of_getElem? e)
  have : i < c.τ.length := by rw [h.tlen]; exact h1
  simp [Cx.sub, List.getElem?_map, e, List.getD_eq_getElem?_getD, List.getElem?_eq_getElem this, List.getElem?_eq_getElem h1]
theorem sub_owns {k : Nat} (h : WOk c boxes w) (hr : ∀ i ∈ rs, i < boxes.length) (hg : ∀ i ∈ rs, boxes[i]? ≠ some Box.gone) (ht : ∀ i ∈ ts, i < c.toks.length) (ho : (c.sub rs ts l).owns k) :
    c.owns k ∧ ((∃ (j i : Nat), rs[j]? = some i ∧ c.β[i]? = some k) ∨ ∃ (j i : Nat) (x : Nat × Nat × Nat × Bool), ts[j]? = some i ∧ c.τ[i]? = some (some x) ∧ x.1 = k) := by
  rcases ho with ⟨ho, _⟩ | ⟨t, x, hx, rfl⟩
  · obtain ⟨j, hj⟩ := List.getElem?_of_mem ho
    obtain ⟨i, h1, h2⟩ := sub_β h hr hj
    have hil := hr i (List.mem_of_getElem? h1)
    have hb : boxes[i]? = some boxes[i] := List.getElem?_eq_getElem hil
    exact ⟨.inl ⟨List.mem_of_getElem? h2, h.live hb (fun e => hg i (List.mem_of_getElem? h1) (by rw [hb, e])) h2⟩, .inl ⟨j, i, h1, h2⟩⟩
  · obtain ⟨i, h1, h2⟩ := sub_τ h ht hx
    exact ⟨.inr ⟨i, x, h2, rfl⟩, .inr ⟨t, i, x, h1, h2, rfl⟩⟩
theorem sub_to (h : WOk c boxes w) (hr : ∀ i ∈ rs, i < boxes.length) (ht : ∀ i ∈ ts, i < c.toks.length) (hl : l = c.l) : c.to (c.sub rs ts l) (indexOf · rs) (indexOf · ts) (· ∈ rs) (· ∈ ts) where
  ro := RO.le_refl _
  box := fun i k hi e => by rw [sub_β' h hr (indexOf_get hi)]; exact e
  tok := fun i n hi e => by
    obtain ⟨h1, h2⟩ := sub_τ' (rs := rs) (l := l) h ht (indexOf_get hi)
    exact ⟨n, by rw [h2]; exact e, Nat.le_refl _, fun _ => h1⟩
  l := hl
theorem sub_ok (h : WOk c boxes w) (hL : Lent rs ts args (rs.map fun i => boxes.getD i .gone) boxes c.toks) {c1 : Cx} (hc1 : c1 = c.sub rs ts l) {bf tf : Nat → Nat} (hto : c.to c1 bf tf (· ∈ rs) (· ∈ ts)) :
    WOk c1 ((rs.map fun i => boxes.getD i .gone).map (Box.ren bf tf)) w := by
  subst hc1
  have hget : ∀ i ∈ rs, boxes[i]? = some (boxes.getD i .gone) := fun i hi => by rw [List.getD_eq_getElem?_getD, List.getElem?_eq_getElem (hL.rlt i hi)]; simp
  have hgone : ∀ i ∈ rs, boxes[i]? ≠ some Box.gone := fun i hi e => by
    rw [hget i hi] at e
    exact hL.ng _ (List.mem_map.2 ⟨i, hi, rfl⟩) (Option.some.inj e)
  refine ⟨h.ro, by simp [Cx.sub], fun j bx k hb hk => ?_, nodup_of_inj fun j j' k h1 h2 => ?_, fun k hk => ?_, fun k hk _ o => ?_, by simp [Cx.sub], fun t n g cap z hn ht => ?_, fun t t' x x' h1 h2 hne => ?_, fun t x ht hm => ?_, by simp [Cx.sub]⟩
  · obtain ⟨i, h1, h2⟩ := sub_β h hL.rlt hk
    have hi := List.mem_of_getElem? h1
    simp only [List.getElem?_map, h1, Option.map_some, Option.some.injEq] at hb
    subst hb
    refine BoxRel.ren hto (h.box i _ k (hget i hi) h2) (fun ty cs e => ?_)
    have hm : Box.cells ty cs ∈ rs.map fun i => boxes.getD i .gone := List.mem_map.2 ⟨i, hi, e⟩
    exact ⟨mem_refsL hL.br hm, mem_tksL hL.bt hm⟩
  · obtain ⟨i, q1, q2⟩ := sub_β h hL.rlt h1
    obtain ⟨i', q3, q4⟩ := sub_β h hL.rlt h2
    have := inj_of_nodup h.nodup q2 q4
    subst this
    exact inj_of_nodup hL.rn q1 q3
  · rcases hk with hk | ⟨t, x, ht, rfl⟩
    · obtain ⟨j, hj⟩ := List.getElem?_of_mem hk
      obtain ⟨i, _, h2⟩ := sub_β h hL.rlt hj
      exact h.lt k (.inl (List.mem_of_getElem? h2))
    · obtain ⟨i, _, h2⟩ := sub_τ h hL.tlt ht
      exact h.lt x.1 (.inr ⟨i, x, h2, rfl⟩)
  · obtain ⟨j, hj⟩ := List.getElem?_of_mem hk
    obtain ⟨i, h1, h2⟩ := sub_β h hL.rlt hj
    have hi := List.mem_of_getElem? h1
    exact h.robox k (List.mem_of_getElem? h2) (h.live (hget i hi) (hL.ng _ (List.mem_map.2 ⟨i, hi, rfl⟩)) h2) o
  · obtain ⟨i, h1, h2⟩ := sub_τ h hL.tlt ht
    exact h.tok i n g cap z (by rw [← (sub_τ' (rs := rs) (l := l) h hL.tlt h1).2]; exact hn) h2
  · obtain ⟨i, q1, q2⟩ := sub_τ h hL.tlt h1
    obtain ⟨i', q3, q4⟩ := sub_τ h hL.tlt h2
    exact h.tdis i i' x x' q2 q4 (fun e => by subst e; exact hne (inj_of_nodup hL.tn q1 q3))
  · obtain ⟨i, _, h2⟩ := sub_τ h hL.tlt ht
    obtain ⟨j, hj⟩ := List.getElem?_of_mem hm
    obtain ⟨i', _, h4⟩ := sub_β h hL.rlt hj
    exact h.tbox i x h2 (List.mem_of_getElem? h4)
end sub
end Ev
