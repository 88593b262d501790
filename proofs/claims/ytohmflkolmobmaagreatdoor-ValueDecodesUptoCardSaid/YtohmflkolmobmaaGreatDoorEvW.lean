/- What functions of the program compute, as plain Lean functions, each with its proof by a proved reader; plain laws about them (EvW). -/
import Derived.Test.YtohmflkolmobmaaGreatDoorEvR
set_option linter.unusedSimpArgs false
set_option linter.unusedVariables false
namespace Ev
open Go Go.RowKit
def TyOk (ty : Option TypeId) (e : TypeId) (rest : List Value) : Prop := ∀ t, ty = some t → e = t ∧ rest = []
theorem TyOk.none {e : TypeId} {rest : List Value} : TyOk none e rest := fun _ h => by cases h
def BoxRel (c : Cx) (w : World) : Box → Nat → Prop
  | .cells ty cs, k => ∃ (us rest : List Value) (e : TypeId), w.heap[k]? = some (.cells (us ++ rest).toArray e (0, 0)) ∧ ACells c cs us ∧ TyOk ty e rest
  | .map es, k => ∃ (ms : Array MapEntry) (clock : Nat), w.heap[k]? = some (.map ms clock) ∧ ms.toList.map (fun e => (e.key, e.val)) = es
  | .row z es, k => ∃ (cs : Array Value) (e : TypeId), w.heap[k]? = some (.cells cs e (0, 0)) ∧ ∀ (i : Nat) (x : D), es[i]? = some x → ∃ u : Value, DRel c.ro x u ∧ u.cells.size = z ∧ ∀ (j : Nat) (v : Value), u.cells[j]? = some v → cs[i * z + j]? = some v
  | .iter s pos, k => w.heap[k]? = some (.stringIter s pos)
  | .gone, _ => True
def Cx.owns (c : Cx) (k : Nat) : Prop := (k ∈ c.β ∧ k ∉ c.dead) ∨ ∃ (t : Nat) (x : Nat × Nat × Nat × Bool), c.τ[t]? = some (some x) ∧ x.1 = k
def Cx.has (c : Cx) (k : Nat) : Prop := k ∈ c.β ∨ ∃ (t : Nat) (x : Nat × Nat × Nat × Bool), c.τ[t]? = some (some x) ∧ x.1 = k
theorem Cx.owns.has {c : Cx} {k : Nat} (h : c.owns k) : c.has k := h.imp And.left id
def TokOk (c : Cx) (w : World) (n g cap : Nat) (z : Nat × Bool) : Prop :=
  n ≤ cap ∧ ∃ (cur : Array Value) (e : TypeId), w.heap[g]? = some (.cells cur e (0, 0)) ∧ cur.size = cap * z.1 ∧ (∀ o, n * z.1 ≤ o → c.ro g o = none) ∧ (z.2 = true → c.ro.pin.bt e = true)
structure WOk (c : Cx) (boxes : List Box) (w : World) : Prop where
  ro : c.ro.holds w
  len : c.β.length = boxes.length
  box : ∀ (i : Nat) (bx : Box) (k : Nat), boxes[i]? = some bx → c.β[i]? = some k → BoxRel c w bx k
  nodup : c.β.Nodup
  lt : ∀ k : Nat, c.has k → k < w.heap.size
  robox : ∀ k ∈ c.β, k ∉ c.dead → ∀ o, c.ro k o = none
  tlen : c.τ.length = c.toks.length
  tok : ∀ (t n g cap : Nat) (z : Nat × Bool), c.toks[t]? = some n → c.τ[t]? = some (some (g, cap, z)) → TokOk c w n g cap z
  tdis : ∀ (t t' : Nat) (x x' : Nat × Nat × Nat × Bool), c.τ[t]? = some (some x) → c.τ[t']? = some (some x') → t ≠ t' → x.1 ≠ x'.1
  tbox : ∀ (t : Nat) (x : Nat × Nat × Nat × Bool), c.τ[t]? = some (some x) → x.1 ∉ c.β
  dead : ∀ k ∈ c.dead, ∃ i : Nat, c.β[i]? = some k ∧ boxes[i]? = some Box.gone
theorem WOk.live {c : Cx} {boxes : List Box} {w : World} (h : WOk c boxes w) {i k : Nat} {bx : Box} (hb : boxes[i]? = some bx) (hg : bx ≠ Box.gone) (hk : c.β[i]? = some k) : k ∉ c.dead := fun hd => by
  obtain ⟨j, h1, h2⟩ := h.dead k hd
  have e1 := List.getElem?_eq_some_iff.1 hk
  have e2 := List.getElem?_eq_some_iff.1 h1
  have : i = j := (List.getElem_inj h.nodup).1 (e1.2.trans e2.2.symm)
  subst this
  rw [hb] at h2; cases h2; exact hg rfl
structure Evo (c : Cx) (w : World) (c' : Cx) (w' : World) : Prop where
  le : c.le c'
  os : w'.os = w.os
  tape : w'.tape = w.tape
  output : w'.output = w.output
  size : w.heap.size ≤ w'.heap.size
  keep : ∀ k, k < w.heap.size → ¬ c.owns k → w'.heap[k]? = w.heap[k]?
  new : ∀ k, c'.owns k → c.owns k ∨ w.heap.size ≤ k
  ronew : ∀ b o, c.ro b o = none → c'.ro b o ≠ none → c.owns b ∨ w.heap.size ≤ b
  dead : c'.dead = c.dead
theorem Evo.refl (c : Cx) (w : World) : Evo c w c w := ⟨Cx.le_refl c, rfl, rfl, rfl, Nat.le_refl _, fun _ _ _ => rfl, fun _ h => .inl h, fun _ _ h h' => (h' h).elim, rfl⟩
theorem Evo.trans {c c1 c2 : Cx} {w w1 w2 : World} (h : Evo c w c1 w1) (k : Evo c1 w1 c2 w2) : Evo c w c2 w2 where
  le := Cx.le_trans h.le k.le
  os := k.os.trans h.os
  tape := k.tape.trans h.tape
  output := k.output.trans h.output
  size := Nat.le_trans h.size k.size
  keep := fun i hi hn => (k.keep i (Nat.lt_of_lt_of_le hi h.size) (fun ho => (h.new i ho).elim hn (by omega))).trans (h.keep i hi hn)
  new := fun i ho => (k.new i ho).elim (h.new i) (fun hs => .inr (Nat.le_trans h.size hs))
  ronew := fun b o h0 h2 => by
    by_cases h1 : c1.ro b o = none
    · exact (k.ronew b o h1 h2).elim (h.new b) (fun hs => .inr (Nat.le_trans h.size hs))
    · exact h.ronew b o h0 h1
  dead := k.dead.trans h.dead
theorem cell_of_block {w w' : World} {k : Nat} (h : w'.heap[k]? = w.heap[k]?) (o : Nat) : w'.cell? ⟨k, o, none⟩ = w.cell? ⟨k, o, none⟩ := by
  simp only [World.cell?, h]
theorem WOk.other {c : Cx} {boxes : List Box} {w w' : World} (h : WOk c boxes w) (hs : w.heap.size ≤ w'.heap.size)
    (hk : ∀ k, k < w.heap.size → (c.owns k ∨ (∃ o, c.ro k o ≠ none) ∨ c.ro.pin k ≠ none ∨ c.ro.siz k ≠ none) → w'.heap[k]? = w.heap[k]?) : WOk c boxes w' where
  ro := ⟨fun b o v e => by
    have := h.ro b o v e
    have hb : b < w.heap.size := World.block_lt_of_cell? w ⟨b, o, none⟩ this
    rw [cell_of_block (hk b hb (.inr (.inl ⟨o, by simp [e]⟩)))]; exact this, fun b n e => (h.ro.whole b n e).same (hk b (h.ro.whole b n e).lt (.inr (.inr (.inl (by simp [e]))))), h.ro.known, fun b n e => (h.ro.big b n e).same (hk b (h.ro.big b n e).lt (.inr (.inr (.inr (by simp [e])))))⟩
  len := h.len
  box := fun i bx k hb he => by
    have hm : k ∈ c.β := List.mem_of_getElem? he
    by_cases hgo : bx = Box.gone
    · subst hgo; trivial
    have hh := hk k (h.lt k (.inl hm)) (.inl (.inl ⟨hm, h.live hb hgo he⟩))
    have := h.box i bx k hb he
    cases bx with
    | cells ty cs => obtain ⟨us, rest, e, h1, h2⟩ := this; exact ⟨us, rest, e, hh.trans h1, h2⟩
    | map es => obtain ⟨ms, cl, h1, h2⟩ := this; exact ⟨ms, cl, hh.trans h1, h2⟩
    | row z es => obtain ⟨cs, e, h1, h2⟩ := this; exact ⟨cs, e, hh.trans h1, h2⟩
    | iter s pos => exact hh.trans this
    | gone => trivial
  nodup := h.nodup
  lt := fun k ho => Nat.lt_of_lt_of_le (h.lt k ho) hs
  robox := h.robox
  tlen := h.tlen
  tok := fun t n g cap z hn ht => by
    obtain ⟨h1, cur, e, h2, h3⟩ := h.tok t n g cap z hn ht
    have ho : c.owns g := .inr ⟨t, _, ht, rfl⟩
    exact ⟨h1, cur, e, (hk g (h.lt g ho.has) (.inl ho)).trans h2, h3⟩
  tdis := h.tdis
  tbox := h.tbox
  dead := h.dead
theorem WOk.drew {c : Cx} {boxes : List Box} {w : World} (h : WOk c boxes w) : WOk c boxes w.drew := h.other (Nat.le_refl _) (fun _ _ _ => rfl)
theorem Evo.drew (c : Cx) (w : World) : Evo c w c w.drew := ⟨Cx.le_refl c, rfl, rfl, rfl, Nat.le_refl _, fun _ _ _ => rfl, fun _ h => .inl h, fun _ _ h h' => (h' h).elim, rfl⟩
def Cx.addBox (c : Cx) (k : Nat) : Cx := { c with β := c.β ++ [k] }
theorem Cx.le_addBox (c : Cx) (k : Nat) : c.le (c.addBox k) :=
  ⟨RO.le_refl _, fun i x _ e => by
    have hi : i < c.β.length := (List.getElem?_eq_some_iff.1 e).1
    simp only [id, Cx.addBox]; rw [List.getElem?_append_left hi]; exact e, fun _ n _ h => ⟨n, h, Nat.le_refl _, fun _ => rfl⟩, rfl⟩
theorem heap_alloc (w : World) (o : Obj) : (w.alloc o).heap[w.heap.size]? = some o := heap_alloc_new w o
theorem heap_alloc_ne (w : World) (o : Obj) (k : Nat) (h : k < w.heap.size) : (w.alloc o).heap[k]? = w.heap[k]? := by
  show (w.heap.push o)[k]? = _
  rw [Array.getElem?_push, if_neg (by omega)]
theorem BoxRel.mono {c c' : Cx} {w w' : World} {bx : Box} {k : Nat} (h : c.le c') (hh : w'.heap[k]? = w.heap[k]?) (hb : BoxRel c w bx k) : BoxRel c' w' bx k := by
  cases bx with
  | cells ty cs => obtain ⟨us, rest, e, h1, h2, h3⟩ := hb; exact ⟨us, rest, e, hh.trans h1, ACells.mono h h2, h3⟩
  | map es => obtain ⟨ms, cl, h1, h2⟩ := hb; exact ⟨ms, cl, hh.trans h1, h2⟩
  | row z es => obtain ⟨cs, e, h1, h2⟩ := hb; exact ⟨cs, e, hh.trans h1, fun i x hx => (h2 i x hx).imp fun u q => ⟨DRel.mono h.ro x q.1, q.2⟩⟩
  | iter s pos => exact hh.trans hb
  | gone => trivial
theorem WOk.addBox {c : Cx} {boxes : List Box} {w : World} (h : WOk c boxes w) (o : Obj) (bx : Box) (hb : ∀ c' : Cx, c.le c' → BoxRel c' (w.alloc o) bx w.heap.size) :
    WOk (c.addBox w.heap.size) (boxes ++ [bx]) (w.alloc o) where
  ro := ⟨fun b i v e => by rw [cell_of_block (heap_alloc_ne w o b (World.block_lt_of_cell? w ⟨b, i, none⟩ (h.ro b i v e)))]; exact h.ro b i v e, fun b n e => (h.ro.whole b n e).same (heap_alloc_ne w o b (h.ro.whole b n e).lt), h.ro.known, fun b n e => (h.ro.big b n e).same (heap_alloc_ne w o b (h.ro.big b n e).lt)⟩
  len := by simp [Cx.addBox, h.len]
  box := fun i bx' k hi hk => by
    by_cases hlt : i < boxes.length
    · rw [List.getElem?_append_left hlt] at hi
      have hk' : c.β[i]? = some k := by simp only [Cx.addBox] at hk; rwa [List.getElem?_append_left (by rw [h.len]; exact hlt)] at hk
      exact (h.box i bx' k hi hk').mono (Cx.le_addBox c _) (heap_alloc_ne w o k (h.lt k (.inl (List.mem_of_getElem? hk'))))
    · have hl : i = boxes.length := by
        have := (List.getElem?_eq_some_iff.1 hi).1
        simp at this; omega
      subst hl
      simp at hi
      subst hi
      have : k = w.heap.size := by simp [Cx.addBox, ← h.len] at hk; exact hk.symm
      subst this
      exact hb _ (Cx.le_addBox c _)
  nodup := by
    simp only [Cx.addBox, List.nodup_append]
    refine ⟨h.nodup, by simp, fun a ha b hb' => ?_⟩
    simp at hb'; subst hb'
    have := h.lt a (.inl ha); omega
  lt := fun k ho => by
    rcases ho with ho | ho
    · simp only [Cx.addBox, List.mem_append, List.mem_singleton] at ho
      rcases ho with ho | ho
      · have := h.lt k (.inl ho); simp; omega
      · subst ho; simp
    · have := h.lt k (.inr ho); simp; omega
  robox := fun k hk hd i => by
    simp only [Cx.addBox, List.mem_append, List.mem_singleton] at hk
    rcases hk with hk | hk
    · exact h.robox k hk hd i
    · subst hk
      cases e : c.ro w.heap.size i with
      | none => exact e
      | some v => have := World.block_lt_of_cell? w ⟨w.heap.size, i, none⟩ (h.ro _ _ _ e); simp at this
  tlen := h.tlen
  tok := fun t n g cap z hn ht => by
    obtain ⟨h1, cur, e, h2, h3⟩ := h.tok t n g cap z hn ht
    exact ⟨h1, cur, e, (heap_alloc_ne w o g (h.lt g (.inr ⟨t, _, ht, rfl⟩))).trans h2, h3⟩
  tdis := h.tdis
  tbox := fun t x ht hm => by
    simp only [Cx.addBox, List.mem_append, List.mem_singleton] at hm
    rcases hm with hm | hm
    · exact h.tbox t x ht hm
    · have := h.lt x.1 (.inr ⟨t, x, ht, rfl⟩); omega
  dead := fun k hk => by
    obtain ⟨i, h1, h2⟩ := h.dead k hk
    exact ⟨i, by simp only [Cx.addBox]; rw [List.getElem?_append_left (List.getElem?_eq_some_iff.1 h1).1]; exact h1, by rw [List.getElem?_append_left (List.getElem?_eq_some_iff.1 h2).1]; exact h2⟩
theorem Evo.addBox {c : Cx} {w : World} (o : Obj) : Evo c w (c.addBox w.heap.size) (w.alloc o) where
  le := Cx.le_addBox c _
  os := rfl
  tape := rfl
  output := rfl
  size := by simp
  keep := fun k hk _ => heap_alloc_ne w o k hk
  new := fun k ho => by
    rcases ho with ho | ho
    · simp only [Cx.addBox, List.mem_append, List.mem_singleton] at ho
      obtain ⟨ho, hd⟩ := ho
      rcases ho with ho | ho
      · exact .inl (.inl ⟨ho, hd⟩)
      · exact .inr (by omega)
    · exact .inl (.inr ho)
  ronew := fun _ _ h h' => (h' h).elim
  dead := rfl
theorem sized_set {w w' : World} {k : Nat} {cs cs' : Array Value} {e e' : TypeId} {fz fz' : Nat × Nat} (h : w.heap[k]? = some (.cells cs e fz)) (h' : w'.heap[k]? = some (.cells cs' e' fz')) (hs : cs'.size = cs.size) (n : Nat) (q : sized w k n) : sized w' k n := by
  obtain ⟨c, t, f, q1, q2⟩ := q
  rw [h] at q1; cases q1
  exact ⟨_, _, _, h', hs.trans q2⟩
theorem WOk.setBox {c : Cx} {boxes : List Box} {w w' : World} (h : WOk c boxes w) {i k : Nat} (hi : c.β[i]? = some k) (hd : k ∉ c.dead) (hs : w'.heap.size = w.heap.size)
    (hk : ∀ j, j ≠ k → w'.heap[j]? = w.heap[j]?) (bx : Box) (hb : BoxRel c w' bx k) (hz : ∀ n, sized w k n → sized w' k n) : WOk c (boxes.set i bx) w' := by
  have hm : k ∈ c.β := List.mem_of_getElem? hi
  refine ⟨⟨fun b o v e => ?_, fun b n e => (h.ro.whole b n e).same (hk b (fun e' => by rw [e', h.ro.nopin (h.robox k hm hd 0)] at e; cases e)), h.ro.known, fun b n e => by
    by_cases hb' : b = k
    · subst hb'; exact hz n (h.ro.big b n e)
    · exact (h.ro.big b n e).same (hk b hb')⟩, by simp [h.len], fun j bx' k' hj hk' => ?_, h.nodup, fun k' ho => by rw [hs]; exact h.lt k' ho, h.robox, h.tlen, fun t n g cap z hn ht => ?_, h.tdis, h.tbox, fun k' hk' => ?_⟩
  · have hne : b ≠ k := fun e' => by subst e'; rw [h.robox b hm hd o] at e; cases e
    rw [cell_of_block (hk b hne)]; exact h.ro b o v e
  · by_cases hji : i = j
    · subst hji
      rw [hi] at hk'; cases hk'
      have : i < boxes.length := by rw [← h.len]; exact (List.getElem?_eq_some_iff.1 hi).1
      simp [this] at hj
      subst hj; exact hb
    · rw [List.getElem?_set_ne hji] at hj
      have hne : k' ≠ k := fun e' => by
        subst e'
        have h1 := List.getElem?_eq_some_iff.1 hi
        have h2 := List.getElem?_eq_some_iff.1 hk'
        exact hji ((List.getElem_inj h.nodup).1 (h1.2.trans h2.2.symm))
      exact (h.box j bx' k' hj hk').mono (Cx.le_refl c) (hk k' hne)
  · obtain ⟨h1, cur, e, h2, h3⟩ := h.tok t n g cap z hn ht
    have hne : g ≠ k := fun e' => by subst e'; exact h.tbox t _ ht hm
    exact ⟨h1, cur, e, (hk g hne).trans h2, h3⟩
  · obtain ⟨j, q1, q2⟩ := h.dead k' hk'
    refine ⟨j, q1, ?_⟩
    rw [List.getElem?_set_ne (fun e' => ?_)]
    · exact q2
    · subst e'; rw [hi] at q1; cases q1; exact hd hk'
theorem Evo.setBox {c : Cx} {w w' : World} {k : Nat} (hm : k ∈ c.β) (hd : k ∉ c.dead) (hs : w'.heap.size = w.heap.size) (hk : ∀ j, j ≠ k → w'.heap[j]? = w.heap[j]?) (h1 : w'.os = w.os) (h2 : w'.tape = w.tape) (h3 : w'.output = w.output) : Evo c w c w' :=
  ⟨Cx.le_refl c, h1, h2, h3, by omega, fun j _ hn => hk j (fun e => hn (.inl (e ▸ ⟨hm, hd⟩))), fun _ h => .inl h, fun _ _ h h' => (h' h).elim, rfl⟩
def Cx.addTok (c : Cx) (g cap : Nat) (z : Nat × Bool) (n : Nat) (f : Nat → Option Value) : Cx :=
  { c with τ := c.τ ++ [some (g, cap, z)], toks := c.toks ++ [n], ro := ⟨fun b o => if b = g ∧ o < n * z.1 then f o else c.ro b o, c.ro.pin, c.ro.siz⟩ }
theorem ro_new {c : Cx} {boxes : List Box} {w : World} (h : WOk c boxes w) (g o : Nat) (hg : w.heap.size ≤ g) : c.ro g o = none := by
  cases e : c.ro g o with
  | none => rfl
  | some v => have := World.block_lt_of_cell? w ⟨g, o, none⟩ (h.ro g o v e); simp at this; omega
theorem Cx.le_addTok {c : Cx} {boxes : List Box} {w : World} (h : WOk c boxes w) (g cap : Nat) (z : Nat × Bool) (n : Nat) (f : Nat → Option Value) (hg : w.heap.size ≤ g) : c.le (c.addTok g cap z n f) where
  ro := ⟨fun b o v e => by
    have hne : ¬ (b = g ∧ o < n * z.1) := fun hx => by rw [hx.1, ro_new h g o hg] at e; cases e
    simp only [Cx.addTok, if_neg hne]; exact e, rfl, fun _ _ h => h⟩
  box := fun _ _ _ e => e
  tok := fun t m _ e => by
    have ht : t < c.toks.length := (List.getElem?_eq_some_iff.1 e).1
    refine ⟨m, ?_, Nat.le_refl _, fun _ => ?_⟩
    · simp only [id, Cx.addTok]; rw [List.getElem?_append_left ht]; exact e
    · simp only [id, Cx.addTok]; rw [List.getElem?_append_left (by rw [h.tlen]; exact ht)]
  l := rfl
theorem WOk.addTok {c : Cx} {boxes : List Box} {w w' : World} (h : WOk c boxes w) {cells : Array Value} {e : TypeId} {cap n : Nat} {z : Nat × Bool} (hw : w'.heap = w.heap.push (.cells cells e)) (hc : cells.size = cap * z.1) (hn : n ≤ cap) (hq : z.2 = true → c.ro.pin.bt e = true) :
    WOk (c.addTok w.heap.size cap z n (fun o => cells[o]?)) boxes w' := by
  have hnew : w'.heap[w.heap.size]? = some (.cells cells e (0, 0)) := by rw [hw]; simp
  have hold : ∀ k, k < w.heap.size → w'.heap[k]? = w.heap[k]? := fun k hk => by rw [hw, Array.getElem?_push, if_neg (by omega)]
  have hsz : w'.heap.size = w.heap.size + 1 := by rw [hw]; simp
  have hle := Cx.le_addTok h w.heap.size cap z n (fun o => cells[o]?) (Nat.le_refl _)
  have hτ' : ∀ (t : Nat) (x : Option (Nat × Nat × Nat × Bool)), (c.addTok w.heap.size cap z n (fun o => cells[o]?)).τ[t]? = some x → c.τ[t]? = some x ∨ (t = c.τ.length ∧ x = some (w.heap.size, cap, z)) := by
    intro t x e'
    simp only [Cx.addTok] at e'
    by_cases hlt : t < c.τ.length
    · rw [List.getElem?_append_left hlt] at e'; exact .inl e'
    · rw [List.getElem?_append_right (by omega)] at e'
      have : t - c.τ.length = 0 := by
        have := (List.getElem?_eq_some_iff.1 e').1; simp at this; omega
      rw [this] at e'; simp at e'
      exact .inr ⟨by omega, e'.symm⟩
  have hτ : ∀ (t : Nat) (x : Nat × Nat × Nat × Bool), (c.addTok w.heap.size cap z n (fun o => cells[o]?)).τ[t]? = some (some x) → c.τ[t]? = some (some x) ∨ (t = c.τ.length ∧ x = (w.heap.size, cap, z)) := fun t x e' =>
    (hτ' t _ e').imp id (And.imp id Option.some.inj)
  refine ⟨⟨fun b o v e' => ?_, fun b n e => (h.ro.whole b n e).same (hold b (h.ro.whole b n e).lt), fun b q e => ⟨(h.ro.known b q e).1, fun o ho hz => by
      have hlt := (h.ro.whole b q e).lt
      simp only [Cx.addTok] at hz
      rw [if_neg (by omega)] at hz
      exact (h.ro.known b q e).2 o ho hz⟩, fun b n e => (h.ro.big b n e).same (hold b (h.ro.big b n e).lt)⟩, h.len, fun i bx k hb hk => ?_, h.nodup, fun k ho => ?_, fun k hk hd o => ?_, ?_, fun t m g cap' z' hm ht => ?_, fun t t' x x' ht ht' hne => ?_, fun t x ht => ?_, h.dead⟩
  · simp only [Cx.addTok] at e'
    split at e'
    · rename_i hx
      rw [hx.1]; simp only [World.cell?, hnew]; simpa using e'
    · rw [cell_of_block (hold b (World.block_lt_of_cell? w ⟨b, o, none⟩ (h.ro b o v e')))]; exact h.ro b o v e'
  · exact (h.box i bx k hb hk).mono hle (hold k (h.lt k (.inl (List.mem_of_getElem? hk))))
  · rcases ho with ho | ⟨t, x, ht, rfl⟩
    · have := h.lt k (.inl ho); omega
    · rcases hτ t x ht with ht | ⟨_, rfl⟩
      · have := h.lt x.1 (.inr ⟨t, x, ht, rfl⟩); omega
      · simp; omega
  · have hk' := h.lt k (.inl hk)
    simp only [Cx.addTok]
    rw [if_neg (by omega)]
    exact h.robox k hk hd o
  · simp [Cx.addTok, h.tlen]
  · rcases hτ t _ ht with ht' | ⟨rfl, e'⟩
    · have htl : t < c.toks.length := by rw [← h.tlen]; exact (List.getElem?_eq_some_iff.1 ht').1
      have hm' : c.toks[t]? = some m := by simp only [Cx.addTok] at hm; rwa [List.getElem?_append_left htl] at hm
      obtain ⟨h1, cur, e'', h2, h3, h4⟩ := h.tok t m g cap' z' hm' ht'
      have hg := h.lt g (.inr ⟨t, _, ht', rfl⟩)
      refine ⟨h1, cur, e'', (hold g hg).trans h2, h3, fun o ho => ?_, h4.2⟩
      simp only [Cx.addTok]
      rw [if_neg (by omega)]
      exact h4.1 o ho
    · cases e'
      have : m = n := by
        simp only [Cx.addTok, h.tlen] at hm
        rw [List.getElem?_append_right (by omega)] at hm
        simp at hm; exact hm.symm
      subst this
      refine ⟨hn, cells, e, hnew, hc, fun o ho => ?_, hq⟩
      simp only [Cx.addTok]
      rw [if_neg (by omega)]
      exact ro_new h _ _ (Nat.le_refl _)
  · rcases hτ t x ht with h1 | ⟨h1, rfl⟩ <;> rcases hτ t' x' ht' with h2 | ⟨h2, rfl⟩
    · exact h.tdis t t' x x' h1 h2 hne
    · have := h.lt x.1 (.inr ⟨t, x, h1, rfl⟩); simp; omega
    · have := h.lt x'.1 (.inr ⟨t', x', h2, rfl⟩); simp; omega
    · omega
  · rcases hτ t x ht with h1 | ⟨_, rfl⟩
    · exact h.tbox t x h1
    · intro hm; have := h.lt _ (.inl hm); simp at this
theorem Evo.addTok {c : Cx} {boxes : List Box} {w w' : World} (h : WOk c boxes w) {cells : Array Value} {e : TypeId} {cap n : Nat} {z : Nat × Bool} (hw : w'.heap = w.heap.push (.cells cells e)) (h1 : w'.os = w.os) (h2 : w'.tape = w.tape) (h3 : w'.output = w.output) :
    Evo c w (c.addTok w.heap.size cap z n (fun o => cells[o]?)) w' where
  le := Cx.le_addTok h _ _ _ _ _ (Nat.le_refl _)
  os := h1
  tape := h2
  output := h3
  size := by rw [hw]; simp
  keep := fun k hk _ => by rw [hw, Array.getElem?_push, if_neg (by omega)]
  new := fun k ho => by
    rcases ho with ho | ⟨t, x, ht, rfl⟩
    · exact .inl (.inl ho)
    · simp only [Cx.addTok] at ht
      by_cases hlt : t < c.τ.length
      · rw [List.getElem?_append_left hlt] at ht; exact .inl (.inr ⟨t, x, ht, rfl⟩)
      · rw [List.getElem?_append_right (by omega)] at ht
        have : t - c.τ.length = 0 := by
          have := (List.getElem?_eq_some_iff.1 ht).1; simp at this; omega
        rw [this] at ht; simp at ht
        subst ht; exact .inr (Nat.le_refl _)
  ronew := fun b o hn hs => by
    simp only [Cx.addTok] at hs
    split at hs
    · rename_i hx; exact .inr (by omega)
    · exact (hs hn).elim
  dead := rfl
def Cx.addNil (c : Cx) : Cx := { c with τ := c.τ ++ [none], toks := c.toks ++ [0] }
theorem addNil_τ {c : Cx} {t : Nat} {x : Option (Nat × Nat × Nat × Bool)} (e : c.addNil.τ[t]? = some x) : c.τ[t]? = some x ∨ (t = c.τ.length ∧ x = none) := by
  simp only [Cx.addNil] at e
  by_cases hlt : t < c.τ.length
  · rw [List.getElem?_append_left hlt] at e; exact .inl e
  · rw [List.getElem?_append_right (by omega)] at e
    have : t - c.τ.length = 0 := by
      have := (List.getElem?_eq_some_iff.1 e).1; simp at this; omega
    rw [this] at e; simp at e
    exact .inr ⟨by omega, e.symm⟩
theorem Cx.le_addNil {c : Cx} (h : c.τ.length = c.toks.length) : c.le c.addNil where
  ro := RO.le_refl _
  box := fun _ _ _ e => e
  tok := fun t m _ e => by
    have ht : t < c.toks.length := (List.getElem?_eq_some_iff.1 e).1
    refine ⟨m, ?_, Nat.le_refl _, fun _ => ?_⟩
    · simp only [id, Cx.addNil]; rw [List.getElem?_append_left ht]; exact e
    · simp only [id, Cx.addNil]; rw [List.getElem?_append_left (by rw [h]; exact ht)]
  l := rfl
theorem addNil_owns {c : Cx} {k : Nat} : c.addNil.owns k → c.owns k := fun h => h.imp id fun ⟨t, x, ht, e⟩ => ⟨t, x, (addNil_τ ht).elim id (fun q => by cases q.2), e⟩
theorem WOk.addNil {c : Cx} {boxes : List Box} {w : World} (h : WOk c boxes w) : WOk c.addNil boxes w where
  ro := h.ro
  len := h.len
  box := fun i bx k hb hk => (h.box i bx k hb hk).mono (Cx.le_addNil h.tlen) rfl
  nodup := h.nodup
  lt := fun k ho => h.lt k (ho.imp id fun ⟨t, x, ht, e⟩ => ⟨t, x, (addNil_τ ht).elim id (fun q => by cases q.2), e⟩)
  robox := h.robox
  tlen := by simp [Cx.addNil, h.tlen]
  tok := fun t n g cap z hn ht => by
    rcases addNil_τ ht with ht | ⟨_, q⟩
    · have htl : t < c.toks.length := by rw [← h.tlen]; exact (List.getElem?_eq_some_iff.1 ht).1
      simp only [Cx.addNil] at hn
      rw [List.getElem?_append_left htl] at hn
      exact h.tok t n g cap z hn ht
    · cases q
  tdis := fun t t' x x' h1 h2 hne => by
    rcases addNil_τ h1 with h1 | ⟨_, q⟩
    · rcases addNil_τ h2 with h2 | ⟨_, q⟩
      · exact h.tdis t t' x x' h1 h2 hne
      · cases q
    · cases q
  tbox := fun t x ht => by
    rcases addNil_τ ht with ht | ⟨_, q⟩
    · exact h.tbox t x ht
    · cases q
  dead := h.dead
theorem Evo.addNil {c : Cx} {w : World} (h : c.τ.length = c.toks.length) : Evo c w c.addNil w :=
  ⟨Cx.le_addNil h, rfl, rfl, rfl, Nat.le_refl _, fun _ _ _ => rfl, fun _ ho => .inl (addNil_owns ho), fun _ _ h h' => (h' h).elim, rfl⟩
theorem NilTok.new {c : Cx} (h : c.τ.length = c.toks.length) (A : Option Addr) : NilTok c.addNil c.toks.length (.slice A 0 0) :=
  ⟨⟨A, rfl⟩, 0, by simp [Cx.addNil], fun _ => by simp only [Cx.addNil]; rw [← h]; simp⟩
def Cx.addFog (c : Cx) (n : Nat) : Cx := { c with τ := c.τ ++ [none], toks := c.toks ++ [n] }
theorem addFog_τ {c : Cx} {n t : Nat} {x : Option (Nat × Nat × Nat × Bool)} (e : (c.addFog n).τ[t]? = some x) : c.τ[t]? = some x ∨ (t = c.τ.length ∧ x = none) := by
  simp only [Cx.addFog] at e
  by_cases hlt : t < c.τ.length
  · rw [List.getElem?_append_left hlt] at e; exact .inl e
  · rw [List.getElem?_append_right (by omega)] at e
    have : t - c.τ.length = 0 := by
      have := (List.getElem?_eq_some_iff.1 e).1; simp at this; omega
    rw [this] at e; simp at e
    exact .inr ⟨by omega, e.symm⟩
theorem Cx.le_addFog {c : Cx} {n : Nat} (h : c.τ.length = c.toks.length) : c.le (c.addFog n) where
  ro := RO.le_refl _
  box := fun _ _ _ e => e
  tok := fun t m _ e => by
    have ht : t < c.toks.length := (List.getElem?_eq_some_iff.1 e).1
    refine ⟨m, ?_, Nat.le_refl _, fun _ => ?_⟩
    · simp only [id, Cx.addFog]; rw [List.getElem?_append_left ht]; exact e
    · simp only [id, Cx.addFog]; rw [List.getElem?_append_left (by rw [h]; exact ht)]
  l := rfl
theorem addFog_owns {c : Cx} {n k : Nat} : (c.addFog n).owns k → c.owns k := fun h => h.imp id fun ⟨t, x, ht, e⟩ => ⟨t, x, (addFog_τ ht).elim id (fun q => by cases q.2), e⟩
theorem WOk.addFog {n : Nat} {c : Cx} {boxes : List Box} {w : World} (h : WOk c boxes w) : WOk (c.addFog n) boxes w where
  ro := h.ro
  len := h.len
  box := fun i bx k hb hk => (h.box i bx k hb hk).mono (Cx.le_addFog h.tlen) rfl
  nodup := h.nodup
  lt := fun k ho => h.lt k (ho.imp id fun ⟨t, x, ht, e⟩ => ⟨t, x, (addFog_τ ht).elim id (fun q => by cases q.2), e⟩)
  robox := h.robox
  tlen := by simp [Cx.addFog, h.tlen]
  tok := fun t n' g cap z hn ht => by
    rcases addFog_τ ht with ht | ⟨_, q⟩
    · have htl : t < c.toks.length := by rw [← h.tlen]; exact (List.getElem?_eq_some_iff.1 ht).1
      simp only [Cx.addFog] at hn
      rw [List.getElem?_append_left htl] at hn
      exact h.tok t n' g cap z hn ht
    · cases q
  tdis := fun t t' x x' h1 h2 hne => by
    rcases addFog_τ h1 with h1 | ⟨_, q⟩
    · rcases addFog_τ h2 with h2 | ⟨_, q⟩
      · exact h.tdis t t' x x' h1 h2 hne
      · cases q
    · cases q
  tbox := fun t x ht => by
    rcases addFog_τ ht with ht | ⟨_, q⟩
    · exact h.tbox t x ht
    · cases q
  dead := h.dead
theorem Evo.addFog {n : Nat} {c : Cx} {w : World} (h : c.τ.length = c.toks.length) : Evo c w (c.addFog n) w :=
  ⟨Cx.le_addFog h, rfl, rfl, rfl, Nat.le_refl _, fun _ _ _ => rfl, fun _ ho => .inl (addFog_owns ho), fun _ _ h h' => (h' h).elim, rfl⟩
def Cx.putTok (c : Cx) (t m : Nat) : Cx := { c with toks := c.toks.set t m }
theorem Cx.le_putTok {c : Cx} {t k m : Nat} (hk : c.toks[t]? = some k) (hkm : k < m) : c.le (c.putTok t m) where
  ro := RO.le_refl _
  box := fun _ _ _ e => e
  tok := fun i x _ e => by
    have hl : i < c.toks.length := (List.getElem?_eq_some_iff.1 e).1
    simp only [id, Cx.putTok]
    by_cases hi : t = i
    · subst hi; rw [hk] at e; cases e; exact ⟨m, by simp [hl], by omega, fun e => by omega⟩
    · exact ⟨x, by rw [List.getElem?_set_ne hi]; exact e, Nat.le_refl _, fun _ => trivial⟩
  l := rfl
theorem WOk.putTok {c : Cx} {boxes : List Box} {w : World} (h : WOk c boxes w) {t k m : Nat} (hk : c.toks[t]? = some k) (hkm : k < m) (hτ : c.τ[t]? = some none) : WOk (c.putTok t m) boxes w where
  ro := h.ro
  len := h.len
  box := fun i bx k hb hk' => (h.box i bx k hb hk').mono (Cx.le_putTok hk hkm) rfl
  nodup := h.nodup
  lt := h.lt
  robox := h.robox
  tlen := by simp [Cx.putTok, h.tlen]
  tok := fun t' n g cap z hn ht => by
    have ht : c.τ[t']? = some (some (g, cap, z)) := ht
    have hne : t ≠ t' := fun e => by subst e; rw [hτ] at ht; cases ht
    simp only [Cx.putTok] at hn; rw [List.getElem?_set_ne hne] at hn; exact h.tok t' n g cap z hn ht
  tdis := h.tdis
  tbox := h.tbox
  dead := h.dead
theorem Evo.putTok {c : Cx} {w : World} {t k m : Nat} (hk : c.toks[t]? = some k) (hkm : k < m) : Evo c w (c.putTok t m) w :=
  ⟨Cx.le_putTok hk hkm, rfl, rfl, rfl, Nat.le_refl _, fun _ _ _ => rfl, fun _ ho => .inl ho, fun _ _ h h' => (h' h).elim, rfl⟩
theorem WOk.alloc {c : Cx} {boxes : List Box} {w : World} (h : WOk c boxes w) (o : Obj) : WOk c boxes (w.alloc o) := h.other (by simp) fun k hk _ => heap_alloc_ne w o k hk
theorem Evo.alloc (c : Cx) (w : World) (o : Obj) : Evo c w c (w.alloc o) := ⟨Cx.le_refl c, rfl, rfl, rfl, by simp, fun k hk _ => heap_alloc_ne w o k hk, fun _ h => .inl h, fun _ _ h h' => (h' h).elim, rfl⟩
def Cx.addRo (c : Cx) (g n : Nat) (f : Nat → Option Value) : Cx := { c with ro := ⟨fun b o => if b = g ∧ o < n then f o else c.ro b o, c.ro.pin, c.ro.siz⟩ }
theorem Cx.le_addRo {c : Cx} {boxes : List Box} {w : World} (h : WOk c boxes w) (g n : Nat) (f : Nat → Option Value) (hg : w.heap.size ≤ g) : c.le (c.addRo g n f) where
  ro := ⟨fun b o v e => by
    have hne : ¬ (b = g ∧ o < n) := fun hx => by rw [hx.1, ro_new h g o hg] at e; cases e
    simp only [Cx.addRo, if_neg hne]; exact e, rfl, fun _ _ h => h⟩
  box := fun _ _ _ e => e
  tok := fun _ m _ e => ⟨m, e, Nat.le_refl _, fun _ => rfl⟩
  l := rfl
theorem WOk.addRo {c : Cx} {boxes : List Box} {w w' : World} (h : WOk c boxes w) {cells : Array Value} {e : TypeId} {n : Nat} {fz : Nat × Nat} (hw : w'.heap = w.heap.push (.cells cells e fz)) :
    WOk (c.addRo w.heap.size n (fun o => cells[o]?)) boxes w' := by
  have hnew : w'.heap[w.heap.size]? = some (.cells cells e fz) := by rw [hw]; simp
  have hold : ∀ k, k < w.heap.size → w'.heap[k]? = w.heap[k]? := fun k hk => by rw [hw, Array.getElem?_push, if_neg (by omega)]
  have hsz : w'.heap.size = w.heap.size + 1 := by rw [hw]; simp
  have hle := Cx.le_addRo h w.heap.size n (fun o => cells[o]?) (Nat.le_refl _)
  refine ⟨⟨fun b o v e' => ?_, fun b n e => (h.ro.whole b n e).same (hold b (h.ro.whole b n e).lt), fun b q e => ⟨(h.ro.known b q e).1, fun o ho hz => by
      have hlt := (h.ro.whole b q e).lt
      simp only [Cx.addRo] at hz
      rw [if_neg (by omega)] at hz
      exact (h.ro.known b q e).2 o ho hz⟩, fun b n e => (h.ro.big b n e).same (hold b (h.ro.big b n e).lt)⟩, h.len, fun i bx k hb hk => ?_, h.nodup, fun k ho => ?_, fun k hk hd o => ?_, h.tlen, fun t m g cap' z' hm ht => ?_, h.tdis, h.tbox, h.dead⟩
  · simp only [Cx.addRo] at e'
    split at e'
    · rename_i hx
      rw [hx.1]; simp only [World.cell?, hnew]; simpa using e'
    · rw [cell_of_block (hold b (World.block_lt_of_cell? w ⟨b, o, none⟩ (h.ro b o v e')))]; exact h.ro b o v e'
  · exact (h.box i bx k hb hk).mono hle (hold k (h.lt k (.inl (List.mem_of_getElem? hk))))
  · have := h.lt k ho; omega
  · have hk' := h.lt k (.inl hk)
    simp only [Cx.addRo]
    rw [if_neg (by omega)]
    exact h.robox k hk hd o
  · obtain ⟨h1, cur, e'', h2, h3, h4⟩ := h.tok t m g cap' z' hm ht
    have hg := h.lt g (.inr ⟨t, _, ht, rfl⟩)
    refine ⟨h1, cur, e'', (hold g hg).trans h2, h3, fun o ho => ?_, h4.2⟩
    simp only [Cx.addRo]
    rw [if_neg (by omega)]
    exact h4.1 o ho
theorem Evo.addRo {c : Cx} {boxes : List Box} {w w' : World} (h : WOk c boxes w) {cells : Array Value} {o : Obj} {n : Nat} (hw : w'.heap = w.heap.push o) (h1 : w'.os = w.os) (h2 : w'.tape = w.tape) (h3 : w'.output = w.output) :
    Evo c w (c.addRo w.heap.size n (fun o => cells[o]?)) w' where
  le := Cx.le_addRo h _ _ _ (Nat.le_refl _)
  os := h1
  tape := h2
  output := h3
  size := by rw [hw]; simp
  keep := fun k hk _ => by rw [hw, Array.getElem?_push, if_neg (by omega)]
  new := fun k ho => .inl ho
  ronew := fun b o hn hs => by
    simp only [Cx.addRo] at hs
    split at hs
    · rename_i hx; exact .inr (by omega)
    · exact (hs hn).elim
  dead := rfl
def Cx.setTok (c : Cx) (t g cap : Nat) (z : Nat × Bool) (n m : Nat) (f : Nat → Option Value) : Cx :=
  { c with τ := c.τ.set t (some (g, cap, z)), toks := c.toks.set t m, ro := ⟨fun b o => if b = g ∧ n ≤ o ∧ o < m * z.1 then f o else c.ro b o, c.ro.pin, c.ro.siz⟩ }
theorem Cx.le_setTok {c : Cx} {t g cap n m k : Nat} {z : Nat × Bool} {f : Nat → Option Value} (hk : c.toks[t]? = some k) (hkm : k < m) (hro : ∀ o, n ≤ o → c.ro g o = none) : c.le (c.setTok t g cap z n m f) where
  ro := ⟨fun b o v e => by
    have hne : ¬ (b = g ∧ n ≤ o ∧ o < m * z.1) := fun hx => by rw [hx.1, hro o hx.2.1] at e; cases e
    simp only [Cx.setTok, if_neg hne]; exact e, rfl, fun _ _ h => h⟩
  box := fun _ _ _ e => e
  tok := fun i x _ e => by
    have hl : i < c.toks.length := (List.getElem?_eq_some_iff.1 e).1
    simp only [id, Cx.setTok]
    by_cases hi : t = i
    · subst hi
      rw [hk] at e; cases e
      exact ⟨m, by simp [hl], by omega, fun e => by omega⟩
    · exact ⟨x, by rw [List.getElem?_set_ne hi]; exact e, Nat.le_refl _, fun _ => by rw [List.getElem?_set_ne hi]⟩
  l := rfl
theorem WOk.setTok {c : Cx} {boxes : List Box} {w w' : World} (h : WOk c boxes w) {t g cap n m k : Nat} {z : Nat × Bool} {x : Option (Nat × Nat × Nat × Bool)} {cells : Array Value} {e : TypeId} (hk : c.toks[t]? = some k) (hkm : k < m) (hx : c.τ[t]? = some x)
    (hg : (∃ y, x = some y ∧ y.1 = g) ∨ w.heap.size ≤ g) (hro : ∀ o, n ≤ o → c.ro g o = none) (hlow : ∀ o v, c.ro g o = some v → cells[o]? = some v) (hnew : w'.heap[g]? = some (.cells cells e (0, 0))) (hold : ∀ j, j < w.heap.size → j ≠ g → w'.heap[j]? = w.heap[j]?) (hs : w.heap.size ≤ w'.heap.size) (hgs : g < w'.heap.size)
    (hc : cells.size = cap * z.1) (hm : m ≤ cap) (hnm : n ≤ m * z.1) (hpin : c.ro.pin g = none) (hq : z.2 = true → c.ro.pin.bt e = true) (hbig : ∀ q, c.ro.siz g = some q → cells.size = q) : WOk (c.setTok t g cap z n m (fun o => cells[o]?)) boxes w' := by
  have hle : c.le (c.setTok t g cap z n m (fun o => cells[o]?)) := Cx.le_setTok hk hkm hro
  have htl : t < c.τ.length := (List.getElem?_eq_some_iff.1 hx).1
  have hgb : g ∉ c.β := fun hm' => by
    rcases hg with ⟨y, rfl, rfl⟩ | hg
    · exact h.tbox t y hx hm'
    · have := h.lt g (.inl hm'); omega
  have hgt : ∀ t' x', c.τ[t']? = some (some x') → t' ≠ t → x'.1 ≠ g := fun t' x' ht' hne e' => by
    rcases hg with ⟨y, rfl, rfl⟩ | hg
    · exact h.tdis t' t x' y ht' hx hne e'
    · have := h.lt x'.1 (.inr ⟨t', x', ht', rfl⟩); omega
  have hτ' : ∀ (t' : Nat) (x' : Option (Nat × Nat × Nat × Bool)), (c.setTok t g cap z n m (fun o => cells[o]?)).τ[t']? = some x' → (t' ≠ t ∧ c.τ[t']? = some x') ∨ (t' = t ∧ x' = some (g, cap, z)) := by
    intro t' x' e'
    simp only [Cx.setTok] at e'
    by_cases hi : t = t'
    · subst hi; simp [htl] at e'; exact .inr ⟨rfl, e'.symm⟩
    · rw [List.getElem?_set_ne hi] at e'; exact .inl ⟨fun e => hi e.symm, e'⟩
  have hτ : ∀ (t' : Nat) (x' : Nat × Nat × Nat × Bool), (c.setTok t g cap z n m (fun o => cells[o]?)).τ[t']? = some (some x') → (t' ≠ t ∧ c.τ[t']? = some (some x')) ∨ (t' = t ∧ x' = (g, cap, z)) := fun t' x' e' =>
    (hτ' t' _ e').imp id (And.imp id Option.some.inj)
  have hpg : ∀ b q, c.ro.pin b = some q → b ≠ g := fun b q e e' => by rw [e', hpin] at e; cases e
  refine ⟨⟨fun b o v e' => ?_, fun b q e => (h.ro.whole b q e).same (hold b (h.ro.whole b q e).lt (hpg b q e)), fun b q e => ⟨(h.ro.known b q e).1, fun o ho hz => by
      simp only [Cx.setTok] at hz
      rw [if_neg (fun hx => hpg b q e hx.1)] at hz
      exact (h.ro.known b q e).2 o ho hz⟩, fun b q e => by
      by_cases hb' : b = g
      · subst hb'; exact ⟨_, _, _, hnew, hbig q e⟩
      · exact (h.ro.big b q e).same (hold b (h.ro.big b q e).lt hb')⟩, h.len, fun i bx j hb hj => ?_, h.nodup, fun j ho => ?_, fun j hj hd o => ?_, by simp [Cx.setTok, h.tlen], fun t' m' g' cap' z' hm' ht' => ?_, fun t1 t2 x1 x2 h1 h2 hne => ?_, fun t' x' ht' => ?_, h.dead⟩
  · simp only [Cx.setTok] at e'
    split at e'
    · rename_i hx'
      rw [hx'.1]; simp only [World.cell?, hnew]; simpa using e'
    · by_cases hbg : b = g
      · subst hbg
        simp only [World.cell?, hnew]; simpa using hlow o v e'
      · rw [cell_of_block (hold b (World.block_lt_of_cell? w ⟨b, o, none⟩ (h.ro b o v e')) hbg)]; exact h.ro b o v e'
  · have hjm := List.mem_of_getElem? hj
    exact (h.box i bx j hb hj).mono hle (hold j (h.lt j (.inl hjm)) (fun e' => hgb (e' ▸ hjm)))
  · rcases ho with ho | ⟨t', x', ht', rfl⟩
    · exact Nat.lt_of_lt_of_le (h.lt j (.inl ho)) hs
    · rcases hτ t' x' ht' with ⟨_, h1⟩ | ⟨_, rfl⟩
      · exact Nat.lt_of_lt_of_le (h.lt x'.1 (.inr ⟨t', x', h1, rfl⟩)) hs
      · exact hgs
  · simp only [Cx.setTok]
    rw [if_neg (fun (hx' : j = g ∧ n ≤ o ∧ o < m * z.1) => hgb (hx'.1 ▸ hj))]
    exact h.robox j hj hd o
  · rcases hτ t' _ ht' with ⟨hne, h1⟩ | ⟨rfl, e'⟩
    · have hm'' : c.toks[t']? = some m' := by simp only [Cx.setTok] at hm'; rwa [List.getElem?_set_ne (fun e => hne e.symm)] at hm'
      obtain ⟨q1, cur, e'', q2, q3, q4⟩ := h.tok t' m' g' cap' z' hm'' h1
      have hgg := hgt t' _ h1 hne
      refine ⟨q1, cur, e'', (hold g' (h.lt g' (.inr ⟨t', _, h1, rfl⟩)) hgg).trans q2, q3, fun o ho => ?_, q4.2⟩
      simp only [Cx.setTok]
      rw [if_neg (fun (hx' : g' = g ∧ n ≤ o ∧ o < m * z.1) => hgg hx'.1)]
      exact q4.1 o ho
    · cases e'
      have : m' = m := by
        have hl : t' < c.toks.length := by rw [← h.tlen]; exact htl
        simp [Cx.setTok, hl] at hm'; exact hm'.symm
      subst this
      refine ⟨hm, cells, e, hnew, hc, fun o ho => ?_, hq⟩
      simp only [Cx.setTok]
      rw [if_neg (by omega)]
      exact hro o (by omega)
  · rcases hτ t1 x1 h1 with ⟨n1, q1⟩ | ⟨n1, rfl⟩ <;> rcases hτ t2 x2 h2 with ⟨n2, q2⟩ | ⟨n2, rfl⟩
    · exact h.tdis t1 t2 x1 x2 q1 q2 hne
    · exact hgt t1 x1 q1 n1
    · exact fun e' => hgt t2 x2 q2 n2 e'.symm
    · omega
  · rcases hτ t' x' ht' with ⟨_, q1⟩ | ⟨_, rfl⟩
    · exact h.tbox t' x' q1
    · exact hgb
theorem Evo.setTok {c : Cx} {w w' : World} {t g cap n m k : Nat} {z : Nat × Bool} {x : Option (Nat × Nat × Nat × Bool)} {cells : Array Value} (hk : c.toks[t]? = some k) (hkm : k < m) (hx : c.τ[t]? = some x)
    (hg : (∃ y, x = some y ∧ y.1 = g) ∨ w.heap.size ≤ g) (hro : ∀ o, n ≤ o → c.ro g o = none) (hold : ∀ j, j < w.heap.size → j ≠ g → w'.heap[j]? = w.heap[j]?) (hs : w.heap.size ≤ w'.heap.size) (h1 : w'.os = w.os) (h2 : w'.tape = w.tape) (h3 : w'.output = w.output) :
    Evo c w (c.setTok t g cap z n m (fun o => cells[o]?)) w' where
  le := Cx.le_setTok hk hkm hro
  os := h1
  tape := h2
  output := h3
  size := hs
  keep := fun j hj hn => hold j hj (fun e => by
    subst e
    rcases hg with ⟨y, rfl, hg⟩ | hg
    · exact hn (.inr ⟨t, y, hx, hg⟩)
    · omega)
  new := fun j ho => by
    rcases ho with ho | ⟨t', x', ht', rfl⟩
    · exact .inl (.inl ho)
    · simp only [Cx.setTok] at ht'
      by_cases hi : t = t'
      · subst hi
        have htl : t < c.τ.length := (List.getElem?_eq_some_iff.1 hx).1
        simp [htl] at ht'
        subst ht'
        rcases hg with ⟨y, rfl, hg⟩ | hg
        · exact .inl (.inr ⟨t, y, hx, hg⟩)
        · exact .inr hg
      · rw [List.getElem?_set_ne hi] at ht'
        exact .inl (.inr ⟨t', x', ht', rfl⟩)
  ronew := fun b o hn hs' => by
    simp only [Cx.setTok] at hs'
    split at hs'
    · rename_i hx'
      rcases hg with ⟨y, rfl, hg⟩ | hg
      · exact .inl (.inr ⟨t, y, hx, by rw [hg, hx'.1]⟩)
      · exact .inr (by rw [hx'.1]; exact hg)
    · exact (hs' hn).elim
  dead := rfl
end Ev
