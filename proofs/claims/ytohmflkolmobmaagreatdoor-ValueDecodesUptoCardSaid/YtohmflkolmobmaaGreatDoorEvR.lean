/- What functions of the program compute, as plain Lean functions, each with its proof by a proved reader; plain laws about them (EvR). -/
import Derived.Test.YtohmflkolmobmaaGreatDoorEvB
import Derived.RangeFuncNested
import Derived.RangeFuncCalls
import Derived.WalkKit
set_option linter.unusedSimpArgs false
set_option linter.unusedVariables false
namespace Ev
open Go Go.RowKit
structure Pin where
  size : Nat → Option Nat
  bt : TypeId → Bool
instance : CoeFun Pin (fun _ => Nat → Option Nat) := ⟨Pin.size⟩
structure RO where
  cell : Nat → Nat → Option Value
  pin : Pin
  siz : Nat → Option Nat
instance : CoeFun RO (fun _ => Nat → Nat → Option Value) := ⟨RO.cell⟩
structure RO.le (r r' : RO) : Prop where
  cells : ∀ b o v, r b o = some v → r' b o = some v
  pin : r'.pin = r.pin
  siz : ∀ b n, r.siz b = some n → r'.siz b = some n
instance {r r' : RO} : CoeFun (RO.le r r') (fun _ => ∀ b o v, r b o = some v → r' b o = some v) := ⟨RO.le.cells⟩
theorem RO.le_refl (r : RO) : RO.le r r := ⟨fun _ _ _ h => h, rfl, fun _ _ h => h⟩
theorem RO.le_trans {a b c : RO} (h : RO.le a b) (k : RO.le b c) : RO.le a c := ⟨fun x y v e => k x y v (h x y v e), k.pin.trans h.pin, fun x n e => k.siz x n (h.siz x n e)⟩
def sized (w : World) (b n : Nat) : Prop := ∃ cs e fz, w.heap[b]? = some (.cells cs e fz) ∧ cs.size = n
structure RO.holds (r : RO) (w : World) : Prop where
  cells : ∀ b o v, r b o = some v → w.cell? ⟨b, o, none⟩ = some v
  whole : ∀ b n, r.pin b = some n → sized w b n
  known : ∀ b n, r.pin b = some n → 0 < n ∧ ∀ o, o < n → r b o ≠ none
  big : ∀ b n, r.siz b = some n → sized w b n
instance {r : RO} {w : World} : CoeFun (r.holds w) (fun _ => ∀ b o v, r b o = some v → w.cell? ⟨b, o, none⟩ = some v) := ⟨RO.holds.cells⟩
theorem sized.lt {w : World} {b n : Nat} (h : sized w b n) : b < w.heap.size := by
  obtain ⟨cs, e, fz, h, _⟩ := h
  exact (Array.getElem?_eq_some_iff.1 h).1
theorem RO.holds.nopin {r : RO} {w : World} (h : r.holds w) {b : Nat} (e : r b 0 = none) : r.pin b = none := by
  cases hp : r.pin b with
  | none => rfl
  | some n => obtain ⟨h0, hk⟩ := h.known b n hp; exact (hk 0 h0 e).elim
theorem RO.holds.newpin {r : RO} {w : World} (h : r.holds w) {b : Nat} (e : w.heap.size ≤ b) : r.pin b = none := by
  cases hp : r.pin b with
  | none => rfl
  | some n => have := (h.whole b n hp).lt; omega
theorem sized.same {w w' : World} {b n : Nat} (h : sized w b n) (e : w'.heap[b]? = w.heap[b]?) : sized w' b n := by
  obtain ⟨cs, t, fz, h, hs⟩ := h
  exact ⟨cs, t, fz, e.trans h, hs⟩
mutual
def DRel (r : RO) : D → Value → Prop
  | .val v, u => u = v ∧ v.oneCell' = true
  | .bytes bs, u => ∃ A c, u = .slice A bs.size c ∧ bs.size ≤ c ∧ (bs.size = 0 ∨ ∃ b off, A = some ⟨b, off, none⟩ ∧ ∀ (i : Nat) (x : UInt8), bs[i]? = some x → r b (off + i) = some (.int .u8 x.toNat))
  | .slice es, u => ∃ A c, u = .slice A es.length c ∧ es.length ≤ c ∧ (es = [] ∨ ∃ b off k, A = some ⟨b, off, none⟩ ∧ DRows r b k off es)
  | .agg cs, u => ∃ us : List Value, u = .agg us.toArray ∧ DRels r cs us
def DRels (r : RO) : List D → List Value → Prop
  | [], us => us = []
  | c :: cs, us => ∃ u us', us = u :: us' ∧ u.oneCell' = true ∧ DRel r c u ∧ DRels r cs us'
def DRows (r : RO) (b k : Nat) : Nat → List D → Prop
  | _, [] => True
  | off, e :: es => (∃ u, DRel r e u ∧ u.cells.size = k ∧ ∀ (j : Nat) (v : Value), u.cells[j]? = some v → r b (off + j) = some v) ∧ DRows r b k (off + k) es
end
structure Cx where
  β : List Nat
  τ : List (Option (Nat × Nat × Nat × Bool))
  toks : List Nat
  ro : RO
  l : Option Nat
  dead : List Nat
def NilTok (c : Cx) (t : Nat) (u : Value) : Prop := (∃ A, u = .slice A 0 0) ∧ ∃ n, c.toks[t]? = some n ∧ (n = 0 → c.τ[t]? = some none)
mutual
def ARel (c : Cx) : AV → Value → Prop
  | .d x, u => DRel c.ro x u
  | .nsl, u => u = .slice none 0 0
  | .osl t es, u => (∃ b cap k, u = .slice (some ⟨b, 0, none⟩) es.length cap ∧ es.length ≤ cap ∧ (es ≠ [] ∧ DRows c.ro b k 0 es) ∧ ∃ n, c.toks[t]? = some n ∧ es.length ≤ n ∧ (es.length = n → c.τ[t]? = some (some (b, cap, k, false)))) ∨ (es = [] ∧ NilTok c t u)
  | .obs t bs, u => (∃ b cap, u = .slice (some ⟨b, 0, none⟩) bs.size cap ∧ bs.size ≤ cap ∧ (∀ (i : Nat) (x : UInt8), bs[i]? = some x → c.ro b i = some (.int .u8 x.toNat)) ∧ ∃ n, c.toks[t]? = some n ∧ bs.size ≤ n ∧ (bs.size = n → c.τ[t]? = some (some (b, cap, 1, true)))) ∨ (bs.size = 0 ∧ u = .slice none 0 0 ∧ NilTok c t u)
  | .ptr i off, u => ∃ k, c.β[i]? = some k ∧ u = .pointer (some ⟨k, off, none⟩)
  | .ept x off, u => ∃ b o v, DRel c.ro x v ∧ u = .pointer (some ⟨b, o + off, none⟩) ∧ ∀ (j : Nat) (y : Value), v.cells[j]? = some y → c.ro b (o + j) = some y
  | .gptr g off, u => u = .pointer (some ⟨g, off, none⟩)
  | .func fn first caps, u => ∃ us vs : List Value, u = .func fn us.toArray vs.toArray ∧ ARels c first us ∧ ARels c caps vs
  | .ifc t x, u => ∃ v, u = .iface t v ∧ ARel c x v
  | .agg cs, u => ∃ us : List Value, u = .agg us.toArray ∧ ACells c cs us
  | .tup cs, u => ∃ us : List Value, u = .tuple us.toArray ∧ ARels c cs us
  | .msl i n _, u => ∃ k cap, c.β[i]? = some k ∧ n ≤ cap ∧ u = .slice (some ⟨k, 0, none⟩) n cap
  | .rsl i z n, u => ∃ k cap, c.β[i]? = some k ∧ n ≤ cap ∧ c.ro.siz k = some (cap * z) ∧ u = .slice (some ⟨k, 0, none⟩) n cap
  | .rsb i z off n, u => ∃ k cap, c.β[i]? = some k ∧ n ≤ cap ∧ u = .slice (some ⟨k, off * z, none⟩) n cap
  | .rpt i z j off, u => ∃ k, c.β[i]? = some k ∧ u = .pointer (some ⟨k, j * z + off, none⟩)
  | .fsl i t z n, u => ∃ b cap, u = .slice (some ⟨b, 0, none⟩) n cap ∧ n ≤ cap ∧ ∃ m, c.toks[t]? = some m ∧ n ≤ m ∧ (n = m → (c.β[i]? = some b ∧ c.τ[t]? = some none ∧ c.ro.siz b = some (cap * z)) ∨ (c.τ[t]? = some (some (b, cap, z, false)) ∧ ∀ j, j < n * z → ∃ v, c.ro b j = some v))
  | .iter i, u => ∃ k, c.β[i]? = some k ∧ u = .pointer (some ⟨k, 0, none⟩)
  | .msb i off n, u => ∃ k cap, c.β[i]? = some k ∧ n ≤ cap ∧ u = .slice (some ⟨k, off, none⟩) n cap
  | .mpv i, u => ∃ k, c.β[i]? = some k ∧ u = .map (some k)
  | .yld, u => ∃ l, c.l = some l ∧ u = .func (.yield l) #[] #[]
  | .undef, _ => True
def ARels (c : Cx) : List AV → List Value → Prop
  | [], us => us = []
  | x :: xs, us => ∃ u us', us = u :: us' ∧ ARel c x u ∧ ARels c xs us'
def ACells (c : Cx) : List AV → List Value → Prop
  | [], us => us = []
  | x :: xs, us => ∃ u us', us = u :: us' ∧ u.oneCell' = true ∧ ARel c x u ∧ ACells c xs us'
end
mutual
theorem DRel.mono {r r' : RO} (h : RO.le r r') : ∀ (x : D) {u : Value}, DRel r x u → DRel r' x u
  | .val _, _, hx => by simpa only [DRel] using hx
  | .bytes _, _, hx => by
    simp only [DRel] at hx ⊢
    obtain ⟨A, c, e, hc, h1⟩ := hx
    refine ⟨A, c, e, hc, h1.imp id ?_⟩
    rintro ⟨b, off, eA, hb⟩
    exact ⟨b, off, eA, fun i x e => h _ _ _ (hb i x e)⟩
  | .slice es, _, hx => by
    simp only [DRel] at hx ⊢
    obtain ⟨A, c, e, hc, h1⟩ := hx
    refine ⟨A, c, e, hc, h1.imp id ?_⟩
    rintro ⟨b, off, k, eA, hb⟩
    exact ⟨b, off, k, eA, DRows.mono h es hb⟩
  | .agg cs, _, hx => by
    simp only [DRel] at hx ⊢
    obtain ⟨us, e, hs⟩ := hx
    exact ⟨us, e, DRels.mono h cs hs⟩
theorem DRels.mono {r r' : RO} (h : RO.le r r') : ∀ (xs : List D) {us : List Value}, DRels r xs us → DRels r' xs us
  | [], _, hx => by simpa only [DRels] using hx
  | x :: xs, _, hx => by
    simp only [DRels] at hx ⊢
    obtain ⟨u, us', e, h1, h2, h3⟩ := hx
    exact ⟨u, us', e, h1, DRel.mono h x h2, DRels.mono h xs h3⟩
theorem DRows.mono {r r' : RO} (h : RO.le r r') {b k : Nat} : ∀ (xs : List D) {off : Nat}, DRows r b k off xs → DRows r' b k off xs
  | [], _, _ => by simp only [DRows]
  | x :: xs, _, hx => by
    simp only [DRows] at hx ⊢
    obtain ⟨⟨u, h1, h2, h3⟩, h4⟩ := hx
    exact ⟨⟨u, DRel.mono h x h1, h2, fun j v e => h _ _ _ (h3 j v e)⟩, DRows.mono h xs h4⟩
end
structure Cx.to (c c' : Cx) (b t : Nat → Nat) (ib : Nat → Prop) (it : Nat → Prop) : Prop where
  ro : RO.le c.ro c'.ro
  box : ∀ i k, ib i → c.β[i]? = some k → c'.β[b i]? = some k
  tok : ∀ i n, it i → c.toks[i]? = some n → ∃ n', c'.toks[t i]? = some n' ∧ n ≤ n' ∧ (n = n' → c'.τ[t i]? = c.τ[i]?)
  l : c'.l = c.l
theorem NilTok.ren {c c' : Cx} {b t : Nat → Nat} {ib it : Nat → Prop} (h : c.to c' b t ib it) {k : Nat} {u : Value} (hk : it k) (hx : NilTok c k u) : NilTok c' (t k) u := by
  obtain ⟨e, n, hn, he⟩ := hx
  obtain ⟨n', hn', hle, heq⟩ := h.tok k n hk hn
  exact ⟨e, n', hn', fun e' => by rw [heq (by omega)]; exact he (by omega)⟩
mutual
theorem ARel.ren {c c' : Cx} {b t : Nat → Nat} {ib it : Nat → Prop} (h : c.to c' b t ib it) : ∀ (x : AV) {u : Value}, (∀ i ∈ x.refs, ib i) → (∀ i ∈ x.tks, it i) → ARel c x u → ARel c' (x.ren b t) u
  | .d x, _, _, _, hx => by simp only [ARel, AV.ren] at hx ⊢; exact DRel.mono h.ro x hx
  | .nsl, _, _, _, hx => by simpa only [ARel, AV.ren] using hx
  | .osl k es, _, _, ht, hx => by
    simp only [ARel, AV.ren] at hx ⊢
    refine hx.imp ?_ (And.imp id (NilTok.ren h (ht k (by simp [AV.tks]))))
    rintro ⟨g, cap, z, e, hc, ⟨hne, hr⟩, n, hn, hl, he⟩
    obtain ⟨n', hn', hle, heq⟩ := h.tok k n (ht k (by simp [AV.tks])) hn
    refine ⟨g, cap, z, e, hc, ⟨hne, DRows.mono h.ro es hr⟩, n', hn', Nat.le_trans hl hle, fun e' => ?_⟩
    have : n = n' := by omega
    rw [heq this]; exact he (by omega)
  | .obs k bs, _, _, ht, hx => by
    simp only [ARel, AV.ren] at hx ⊢
    refine hx.imp ?_ (And.imp id (And.imp id (NilTok.ren h (ht k (by simp [AV.tks])))))
    rintro ⟨g, cap, e, hc, hr, n, hn, hl, he⟩
    obtain ⟨n', hn', hle, heq⟩ := h.tok k n (ht k (by simp [AV.tks])) hn
    refine ⟨g, cap, e, hc, fun i x e => h.ro _ _ _ (hr i x e), n', hn', Nat.le_trans hl hle, fun e' => ?_⟩
    have : n = n' := by omega
    rw [heq this]; exact he (by omega)
  | .ptr i off, _, hb, _, hx => by
    simp only [ARel, AV.ren] at hx ⊢
    obtain ⟨k, hk, e⟩ := hx
    exact ⟨k, h.box i k (hb i (by simp [AV.refs])) hk, e⟩
  | .ept x off, _, _, _, hx => by
    simp only [ARel, AV.ren] at hx ⊢
    obtain ⟨g, o, v, h1, e, h2⟩ := hx
    exact ⟨g, o, v, DRel.mono h.ro x h1, e, fun j y e => h.ro _ _ _ (h2 j y e)⟩
  | .func fn first caps, _, hb, ht, hx => by
    simp only [ARel, AV.ren] at hx ⊢
    obtain ⟨us, vs, e, h1, h2⟩ := hx
    exact ⟨us, vs, e, ARels.ren h first (fun i hi => hb i (by simp [AV.refs, hi])) (fun i hi => ht i (by simp [AV.tks, hi])) h1, ARels.ren h caps (fun i hi => hb i (by simp [AV.refs, hi])) (fun i hi => ht i (by simp [AV.tks, hi])) h2⟩
  | .ifc ty x, _, hb, ht, hx => by
    simp only [ARel, AV.ren] at hx ⊢
    obtain ⟨v, e, h1⟩ := hx
    exact ⟨v, e, ARel.ren h x (fun i hi => hb i (by simpa [AV.refs] using hi)) (fun i hi => ht i (by simpa [AV.tks] using hi)) h1⟩
  | .agg cs, _, hb, ht, hx => by
    simp only [ARel, AV.ren] at hx ⊢
    obtain ⟨us, e, h1⟩ := hx
    exact ⟨us, e, ACells.ren h cs (fun i hi => hb i (by simpa [AV.refs] using hi)) (fun i hi => ht i (by simpa [AV.tks] using hi)) h1⟩
  | .tup cs, _, hb, ht, hx => by
    simp only [ARel, AV.ren] at hx ⊢
    obtain ⟨us, e, h1⟩ := hx
    exact ⟨us, e, ARels.ren h cs (fun i hi => hb i (by simpa [AV.refs] using hi)) (fun i hi => ht i (by simpa [AV.tks] using hi)) h1⟩
  | .msb i off n, _, hb, _, hx => by
    simp only [ARel, AV.ren] at hx ⊢
    obtain ⟨k, cap, hk, hc, e⟩ := hx
    exact ⟨k, cap, h.box i k (hb i (by simp [AV.refs])) hk, hc, e⟩
  | .mpv i, _, hb, _, hx => by
    simp only [ARel, AV.ren] at hx ⊢
    obtain ⟨k, hk, e⟩ := hx
    exact ⟨k, h.box i k (hb i (by simp [AV.refs])) hk, e⟩
  | .msl i n z, _, hb, _, hx => by
    simp only [ARel, AV.ren] at hx ⊢
    obtain ⟨k, cap, hk, hc, e⟩ := hx
    exact ⟨k, cap, h.box i k (hb i (by simp [AV.refs])) hk, hc, e⟩
  | .rsb i z o n, _, hb, _, hx => by
    simp only [ARel, AV.ren] at hx ⊢
    obtain ⟨k, cap, hk, hc, e⟩ := hx
    exact ⟨k, cap, h.box i k (hb i (by simp [AV.refs])) hk, hc, e⟩
  | .rsl i z n, _, hb, _, hx => by
    simp only [ARel, AV.ren] at hx ⊢
    obtain ⟨k, cap, hk, hc, hz, e⟩ := hx
    exact ⟨k, cap, h.box i k (hb i (by simp [AV.refs])) hk, hc, h.ro.siz _ _ hz, e⟩
  | .rpt i z j off, _, hb, _, hx => by
    simp only [ARel, AV.ren] at hx ⊢
    obtain ⟨k, hk, e⟩ := hx
    exact ⟨k, h.box i k (hb i (by simp [AV.refs])) hk, e⟩
  | .fsl i t z n, _, hb, ht, hx => by
    simp only [ARel, AV.ren] at hx ⊢
    obtain ⟨bb, cap, e, hc, m, h1, h2, h3⟩ := hx
    obtain ⟨m', h4, h5, h6⟩ := h.tok t m (ht t (by simp [AV.tks])) h1
    refine ⟨bb, cap, e, hc, m', h4, by omega, fun hm => ?_⟩
    have hmm : m = m' := by omega
    rw [h6 hmm]
    exact (h3 (by omega)).imp (fun q => ⟨h.box i bb (hb i (by simp [AV.refs])) q.1, q.2.1, h.ro.siz _ _ q.2.2⟩) (fun q => ⟨q.1, fun j hj => (q.2 j hj).imp fun v e => h.ro _ _ _ e⟩)
  | .iter i, _, hb, _, hx => by
    simp only [ARel, AV.ren] at hx ⊢
    obtain ⟨k, hk, e⟩ := hx
    exact ⟨k, h.box i k (hb i (by simp [AV.refs])) hk, e⟩
  | .yld, _, _, _, hx => by
    simp only [ARel, AV.ren] at hx ⊢
    obtain ⟨l, hl, e⟩ := hx
    exact ⟨l, h.l.trans hl, e⟩
  | .gptr g off, _, _, _, hx => by simpa only [ARel, AV.ren] using hx
  | .undef, _, _, _, _ => by simp only [ARel, AV.ren]
theorem ARels.ren {c c' : Cx} {b t : Nat → Nat} {ib it : Nat → Prop} (h : c.to c' b t ib it) : ∀ (xs : List AV) {us : List Value}, (∀ i ∈ refsL xs, ib i) → (∀ i ∈ tksL xs, it i) → ARels c xs us → ARels c' (renL b t xs) us
  | [], _, _, _, hx => by simpa only [ARels, renL] using hx
  | x :: xs, _, hb, ht, hx => by
    simp only [ARels, renL] at hx ⊢
    obtain ⟨u, us', e, h1, h2⟩ := hx
    exact ⟨u, us', e, ARel.ren h x (fun i hi => hb i (by simp [refsL, hi])) (fun i hi => ht i (by simp [tksL, hi])) h1, ARels.ren h xs (fun i hi => hb i (by simp [refsL, hi])) (fun i hi => ht i (by simp [tksL, hi])) h2⟩
theorem ACells.ren {c c' : Cx} {b t : Nat → Nat} {ib it : Nat → Prop} (h : c.to c' b t ib it) : ∀ (xs : List AV) {us : List Value}, (∀ i ∈ refsL xs, ib i) → (∀ i ∈ tksL xs, it i) → ACells c xs us → ACells c' (renL b t xs) us
  | [], _, _, _, hx => by simpa only [ACells, renL] using hx
  | x :: xs, _, hb, ht, hx => by
    simp only [ACells, renL] at hx ⊢
    obtain ⟨u, us', e, ho, h1, h2⟩ := hx
    exact ⟨u, us', e, ho, ARel.ren h x (fun i hi => hb i (by simp [refsL, hi])) (fun i hi => ht i (by simp [tksL, hi])) h1, ACells.ren h xs (fun i hi => hb i (by simp [refsL, hi])) (fun i hi => ht i (by simp [tksL, hi])) h2⟩
end
mutual
theorem AV.ren_id : ∀ (x : AV), x.ren id id = x
  | .d _ | .nsl | .osl _ _ | .obs _ _ | .ptr _ _ | .ept _ _ | .gptr _ _ | .msl _ _ _ | .rsb _ _ _ _ | .rsl _ _ _ | .rpt _ _ _ _ | .fsl _ _ _ _ | .iter _ | .msb _ _ _ | .mpv _ | .yld | .undef => by simp [AV.ren]
  | .func _ a b => by simp [AV.ren, renL_id a, renL_id b]
  | .ifc _ x => by simp [AV.ren, AV.ren_id x]
  | .agg cs => by simp [AV.ren, renL_id cs]
  | .tup cs => by simp [AV.ren, renL_id cs]
theorem renL_id : ∀ (xs : List AV), renL id id xs = xs
  | [] => rfl
  | x :: xs => by simp [renL, AV.ren_id x, renL_id xs]
end
def Cx.le (c c' : Cx) : Prop := c.to c' id id (fun _ => True) (fun _ => True)
theorem Cx.le_refl (c : Cx) : c.le c := ⟨RO.le_refl _, fun _ _ _ h => h, fun _ n _ h => ⟨n, h, Nat.le_refl _, fun _ => rfl⟩, rfl⟩
theorem Cx.le_trans {a b c : Cx} (h : a.le b) (k : b.le c) : a.le c :=
  ⟨RO.le_trans h.ro k.ro, fun i x _ e => k.box i x trivial (h.box i x trivial e), fun i n _ e => by
    obtain ⟨n1, e1, l1, q1⟩ := h.tok i n trivial e
    obtain ⟨n2, e2, l2, q2⟩ := k.tok i n1 trivial e1
    simp only [id] at *
    exact ⟨n2, e2, by omega, fun e => (q2 (by omega)).trans (q1 (by omega))⟩, k.l.trans h.l⟩
theorem ARel.mono {c c' : Cx} (h : c.le c') {x : AV} {u : Value} (hx : ARel c x u) : ARel c' x u := by
  have := ARel.ren h x (fun _ _ => trivial) (fun _ _ => trivial) hx
  rwa [AV.ren_id] at this
theorem ARels.mono {c c' : Cx} (h : c.le c') {xs : List AV} {us : List Value} (hx : ARels c xs us) : ARels c' xs us := by
  have := ARels.ren h xs (fun _ _ => trivial) (fun _ _ => trivial) hx
  rwa [renL_id] at this
theorem ACells.mono {c c' : Cx} (h : c.le c') {xs : List AV} {us : List Value} (hx : ACells c xs us) : ACells c' xs us := by
  have := ACells.ren h xs (fun _ _ => trivial) (fun _ _ => trivial) hx
  rwa [renL_id] at this
end Ev
