/- What functions of the program compute, as plain Lean functions, each with its proof by a proved reader; plain laws about them (EvM). -/
import Derived.Test.YtohmflkolmobmaaGreatDoorEvL
set_option linter.unusedSimpArgs false
set_option linter.unusedVariables false
namespace Ev
open Go Go.RowKit
variable {σ : Type} {P : Program} {α : Type}
structure Rest (c : Cx) (boxes : List Box) (rs ts : List Nat) (c2 : Cx) (dead' : List Nat) (w' : World) : Prop where
  len : c.β.length = boxes.length
  tlen : c.τ.length = c.toks.length
  nodup : c.β.Nodup
  tdis : ∀ (t t' : Nat) (x x' : Nat × Nat × Nat × Bool), c.τ[t]? = some (some x) → c.τ[t']? = some (some x') → t ≠ t' → x.1 ≠ x'.1
  tbox : ∀ (t : Nat) (x : Nat × Nat × Nat × Bool), c.τ[t]? = some (some x) → x.1 ∉ c.β
  rn : rs.Nodup
  tn : ts.Nodup
  rlt : ∀ i ∈ rs, i < boxes.length
  tlt : ∀ i ∈ ts, i < c.toks.length
  lt : ∀ k : Nat, c.has k → k < w'.heap.size
  box : ∀ (i : Nat) (bx : Box) (k : Nat), i ∉ rs → boxes[i]? = some bx → c.β[i]? = some k → BoxRel c w' bx k
  robox : ∀ (i k : Nat), i ∉ rs → c.β[i]? = some k → k ∉ dead' → ∀ o, c2.ro k o = none
  tok : ∀ (t n g cap : Nat) (z : Nat × Bool), t ∉ ts → c.toks[t]? = some n → c.τ[t]? = some (some (g, cap, z)) → n ≤ cap ∧ ∃ (cur : Array Value) (e : TypeId), w'.heap[g]? = some (.cells cur e (0, 0)) ∧ cur.size = cap * z.1 ∧ (∀ o, n * z.1 ≤ o → c2.ro g o = none) ∧ (z.2 = true → c2.ro.pin.bt e = true)
  sepb : ∀ (k i : Nat), c2.owns k → i ∉ rs → c.β[i]? ≠ some k
  sept : ∀ (k t : Nat) (x : Nat × Nat × Nat × Bool), c2.owns k → t ∉ ts → c.τ[t]? = some (some x) → x.1 ≠ k
  same : ∀ (j i : Nat), rs[j]? = some i → c2.β[j]? = c.β[i]?
  toks : ∀ (j i n : Nat), ts[j]? = some i → c.toks[i]? = some n → ∃ n', c2.toks[j]? = some n' ∧ n ≤ n' ∧ (n = n' → c2.τ[j]? = c.τ[i]?)
  ro : RO.le c.ro c2.ro
  dead : ∀ k ∈ dead', ∃ i : Nat, i ∉ rs ∧ c.β[i]? = some k ∧ boxes[i]? = some Box.gone
  dead2 : c2.dead = []
def Cx.back (c : Cx) (rs ts : List Nat) (c2 : Cx) (kb kt : Bool) (dead' : List Nat) : Cx :=
  ⟨merge c.β rs c2.β kb, merge c.τ ts c2.τ kt, merge c.toks ts c2.toks kt, c2.ro, c.l, dead'⟩
section back
variable {c c2 : Cx} {boxes bs : List Box} {rs ts : List Nat} {dead' : List Nat} {w' : World} {kb kt : Bool}
theorem Rest.mlen (h : Rest c boxes rs ts c2 dead' w') : rs.length ≤ c2.β.length := by
  cases hr : rs.length with
  | zero => omega
  | succ n =>
    have h1 : rs[n]? = some rs[n] := List.getElem?_eq_getElem (by omega)
    have h2 := h.same n _ h1
    have h3 : rs[n] < c.β.length := by rw [h.len]; exact h.rlt _ (List.getElem_mem _)
    rw [List.getElem?_eq_getElem h3] at h2
    have := (List.getElem?_eq_some_iff.1 h2).1
    omega
theorem Rest.nlen (h : Rest c boxes rs ts c2 dead' w') : ts.length ≤ c2.toks.length := by
  cases hr : ts.length with
  | zero => omega
  | succ n =>
    have h1 : ts[n]? = some ts[n] := List.getElem?_eq_getElem (by omega)
    have h3 := h.tlt _ (List.getElem_mem (l := ts) (n := n) (by omega))
    obtain ⟨n', h2, _⟩ := h.toks n _ _ h1 (List.getElem?_eq_getElem h3)
    have := (List.getElem?_eq_some_iff.1 h2).1
    omega
theorem back_le (h : Rest c boxes rs ts c2 dead' w') (ht2 : c2.τ.length = c2.toks.length) : c.le (c.back rs ts c2 kb kt dead') where
  ro := h.ro
  box := fun i k _ e => by
    have hi : i < c.β.length := (List.getElem?_eq_some_iff.1 e).1
    simp only [id, Cx.back]
    by_cases hm : i ∈ rs
    · obtain ⟨j, hj⟩ := List.getElem?_of_mem hm
      have hjl := (List.getElem?_eq_some_iff.1 hj).1
      have hx : backIdx rs c.β.length j = i := by unfold backIdx; rw [if_pos hjl, List.getD_eq_getElem?_getD, hj]; rfl
      rw [← hx, merge_new h.rn (fun i hi => by rw [h.len]; exact h.rlt i hi) h.mlen j (.inl hjl), h.same j i hj]; exact e
    · rw [merge_old i hi hm]; exact e
  tok := fun i n _ e => by
    have hi : i < c.toks.length := (List.getElem?_eq_some_iff.1 e).1
    have hi' : i < c.τ.length := by rw [h.tlen]; exact hi
    simp only [id, Cx.back]
    by_cases hm : i ∈ ts
    · obtain ⟨j, hj⟩ := List.getElem?_of_mem hm
      have hjl := (List.getElem?_eq_some_iff.1 hj).1
      have hx : backIdx ts c.toks.length j = i := by unfold backIdx; rw [if_pos hjl, List.getD_eq_getElem?_getD, hj]; rfl
      have hx' : backIdx ts c.τ.length j = i := by rw [h.tlen]; exact hx
      obtain ⟨n', h1, h2, h3⟩ := h.toks j i n hj e
      refine ⟨n', ?_, h2, fun q => ?_⟩
      · rw [← hx, merge_new h.tn h.tlt h.nlen j (.inl hjl)]; exact h1
      · rw [← hx', merge_new h.tn (fun i hi => by rw [h.tlen]; exact h.tlt i hi) (by rw [ht2]; exact h.nlen) j (.inl hjl), hx']; exact h3 q
    · exact ⟨n, by rw [merge_old i hi hm]; exact e, Nat.le_refl _, fun _ => by rw [merge_old i hi' hm]⟩
  l := rfl
theorem back_to (h : Rest c boxes rs ts c2 dead' w') (ht2 : c2.τ.length = c2.toks.length) (hl : c2.l = c.l) :
    c2.to (c.back rs ts c2 kb kt dead') (backIdx rs boxes.length) (backIdx ts c.toks.length) (fun j => j < rs.length ∨ kb = true) (fun j => j < ts.length ∨ kt = true) where
  ro := RO.le_refl _
  box := fun i k hi e => by
    simp only [Cx.back]
    rw [← h.len, merge_new h.rn (fun i hi => by rw [h.len]; exact h.rlt i hi) h.mlen i hi]; exact e
  tok := fun i n hi e => by
    simp only [Cx.back]
    refine ⟨n, ?_, Nat.le_refl _, fun _ => ?_⟩
    · rw [merge_new h.tn h.tlt h.nlen i hi]; exact e
    · rw [← h.tlen, merge_new h.tn (fun i hi => by rw [h.tlen]; exact h.tlt i hi) (by rw [ht2]; exact h.nlen) i hi]
  l := hl.symm
theorem back_owns (h : Rest c boxes rs ts c2 dead' w') (ht2 : c2.τ.length = c2.toks.length) {k : Nat} (ho : (c.back rs ts c2 kb kt dead').owns k) :
    (∃ i : Nat, i ∉ rs ∧ c.β[i]? = some k ∧ k ∉ dead') ∨ (∃ (t : Nat) (x : Nat × Nat × Nat × Bool), t ∉ ts ∧ c.τ[t]? = some (some x) ∧ x.1 = k) ∨ c2.owns k := by
  rcases ho with ⟨ho, hd⟩ | ⟨t, x, hx, rfl⟩
  · obtain ⟨i, hi⟩ := List.getElem?_of_mem ho
    rcases merge_cases h.rn (fun i hi => by rw [h.len]; exact h.rlt i hi) h.mlen hi with ⟨_, h1, h2⟩ | ⟨j, _, _, h2⟩
    · exact .inl ⟨i, h1, h2, hd⟩
    · exact .inr (.inr (.inl ⟨List.mem_of_getElem? h2, by rw [h.dead2]; simp⟩))
  · rcases merge_cases h.tn (fun i hi => by rw [h.tlen]; exact h.tlt i hi) (by rw [ht2]; exact h.nlen) hx with ⟨_, h1, h2⟩ | ⟨j, _, _, h2⟩
    · exact .inr (.inl ⟨t, x, h1, h2, rfl⟩)
    · exact .inr (.inr (.inr ⟨j, x, h2, rfl⟩))
theorem back_ok (h : Rest c boxes rs ts c2 dead' w') (h2 : WOk c2 bs w') {bf tf : Nat → Nat}
    (hbox : ∀ (j k : Nat) (b : Box), (j < rs.length ∨ kb = true) → bs[j]? = some b → BoxRel c2 w' b k → BoxRel (c.back rs ts c2 kb kt dead') w' (b.ren bf tf) k) :
    WOk (c.back rs ts c2 kb kt dead') (merge boxes rs (bs.map (Box.ren bf tf)) kb) w' := by
  have hle := back_le (kb := kb) (kt := kt) h h2.tlen
  have hm : rs.length ≤ (bs.map (Box.ren bf tf)).length := by rw [List.length_map, ← h2.len]; exact h.mlen
  have hrl : ∀ i ∈ rs, i < c.β.length := fun i hi => by rw [h.len]; exact h.rlt i hi
  have htl : ∀ i ∈ ts, i < c.τ.length := fun i hi => by rw [h.tlen]; exact h.tlt i hi
  have hnt : ts.length ≤ c2.τ.length := by rw [h2.tlen]; exact h.nlen
  have ho2 : ∀ k, k ∈ c2.β → c2.owns k := fun k hk => .inl ⟨hk, by rw [h.dead2]; simp⟩
  refine ⟨h2.ro, ?_, fun i bx k hb hk => ?_, nodup_of_inj fun i i' k h1 h1' => ?_, fun k hk => ?_, fun k hk hd o => ?_, ?_, fun t n g cap z hn ht => ?_, fun t t' x x' h1 h1' hne => ?_, fun t x ht hm' => ?_, fun k hk => ?_⟩
  · simp only [Cx.back]
    rw [length_merge h.mlen, length_merge hm, h.len, List.length_map, h2.len]
  · rcases merge_cases h.rn hrl h.mlen hk with ⟨hi, q1, q2⟩ | ⟨j, hj, rfl, q2⟩
    · rw [merge_old i (by rw [← h.len]; exact hi) q1] at hb
      exact (h.box i bx k q1 hb q2).mono hle rfl
    · rw [h.len, merge_new h.rn h.rlt hm j hj, List.getElem?_map, Option.map_eq_some_iff] at hb
      obtain ⟨b, hb, rfl⟩ := hb
      exact hbox j k b hj hb (h2.box j b k hb q2)
  · rcases merge_cases h.rn hrl h.mlen h1 with ⟨hi, q1, q2⟩ | ⟨j, hj, rfl, q2⟩ <;> rcases merge_cases h.rn hrl h.mlen h1' with ⟨hi', q1', q2'⟩ | ⟨j', hj', rfl, q2'⟩
    · exact inj_of_nodup h.nodup q2 q2'
    · exact (h.sepb k i (ho2 k (List.mem_of_getElem? q2')) q1 q2).elim
    · exact (h.sepb k i' (ho2 k (List.mem_of_getElem? q2)) q1' q2').elim
    · rw [inj_of_nodup h2.nodup q2 q2']
  · rcases hk with hk | ⟨t, x, ht, rfl⟩
    · obtain ⟨i, hi⟩ := List.getElem?_of_mem hk
      rcases merge_cases h.rn hrl h.mlen hi with ⟨_, _, q2⟩ | ⟨j, _, _, q2⟩
      · exact h.lt k (.inl (List.mem_of_getElem? q2))
      · exact h2.lt k (.inl (List.mem_of_getElem? q2))
    · rcases merge_cases h.tn htl hnt ht with ⟨_, _, q2⟩ | ⟨j, _, _, q2⟩
      · exact h.lt x.1 (.inr ⟨t, x, q2, rfl⟩)
      · exact h2.lt x.1 (.inr ⟨j, x, q2, rfl⟩)
  · obtain ⟨i, hi⟩ := List.getElem?_of_mem hk
    rcases merge_cases h.rn hrl h.mlen hi with ⟨_, q1, q2⟩ | ⟨j, _, _, q2⟩
    · exact h.robox i k q1 q2 hd o
    · exact h2.robox k (List.mem_of_getElem? q2) (by rw [h.dead2]; simp) o
  · simp only [Cx.back]
    rw [length_merge h.nlen, length_merge hnt, h.tlen, h2.tlen]
  · rcases merge_cases h.tn htl hnt ht with ⟨hi, q1, q2⟩ | ⟨j, hj, rfl, q2⟩
    · simp only [Cx.back] at hn
      rw [merge_old t (by rw [← h.tlen]; exact hi) q1] at hn
      exact h.tok t n g cap z q1 hn q2
    · simp only [Cx.back] at hn
      rw [h.tlen, merge_new h.tn h.tlt h.nlen j hj] at hn
      exact h2.tok j n g cap z hn q2
  · rcases merge_cases h.tn htl hnt h1 with ⟨hi, q1, q2⟩ | ⟨j, hj, rfl, q2⟩ <;> rcases merge_cases h.tn htl hnt h1' with ⟨hi', q1', q2'⟩ | ⟨j', hj', rfl, q2'⟩
    · exact h.tdis t t' x x' q2 q2' hne
    · exact h.sept x'.1 t x (.inr ⟨j', x', q2', rfl⟩) q1 q2
    · exact fun e => h.sept x.1 t' x' (.inr ⟨j, x, q2, rfl⟩) q1' q2' e.symm
    · exact h2.tdis j j' x x' q2 q2' (fun e => hne (by rw [e]))
  · obtain ⟨i, hi⟩ := List.getElem?_of_mem hm'
    rcases merge_cases h.tn htl hnt ht with ⟨_, q1, q2⟩ | ⟨j, _, rfl, q2⟩ <;> rcases merge_cases h.rn hrl h.mlen hi with ⟨_, q1', q2'⟩ | ⟨j', _, _, q2'⟩
    · exact h.tbox t x q2 (List.mem_of_getElem? q2')
    · exact h.sept x.1 t x (ho2 _ (List.mem_of_getElem? q2')) q1 q2 rfl
    · exact h.sepb x.1 i (.inr ⟨j, x, q2, rfl⟩) q1' q2'
    · exact h2.tbox j x q2 (List.mem_of_getElem? q2')
  · obtain ⟨i, q1, q2, q3⟩ := h.dead k hk
    have hi : i < c.β.length := (List.getElem?_eq_some_iff.1 q2).1
    exact ⟨i, by simp only [Cx.back]; rw [merge_old i hi q1]; exact q2, by rw [merge_old i (by rw [← h.len]; exact hi) q1]; exact q3⟩
end back
end Ev
