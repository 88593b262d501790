/- What functions of the program compute, as plain Lean functions, each with its proof by a proved reader; plain laws about them (EvGc). -/
import Derived.Test.YtohmflkolmobmaaGreatDoorEvJ2
set_option linter.unusedSimpArgs false
set_option linter.unusedVariables false
namespace Ev
open Go Go.RowKit
variable {σ : Type} {P : Program} {glob : Nat → Option (List D)}
def Cx.cut (c : Cx) (m mt : Nat) : Cx := { c with β := c.β.take m, τ := c.τ.take mt, toks := c.toks.take mt }
theorem take_get {α : Type} {l : List α} {m i : Nat} {x : α} (h : (l.take m)[i]? = some x) : l[i]? = some x := by
  rw [List.getElem?_take] at h
  split at h
  · exact h
  · cases h
theorem get_take {α : Type} {l : List α} {m i : Nat} {x : α} (h : l[i]? = some x) (hi : i < m) : (l.take m)[i]? = some x := by
  rw [List.getElem?_take, if_pos hi]; exact h
theorem cut_to (c : Cx) (m mt : Nat) : c.to (c.cut m mt) id id (· < m) (· < mt) where
  ro := RO.le_refl _
  box := fun i k hi e => get_take e hi
  tok := fun i n hi e => ⟨n, get_take e hi, Nat.le_refl _, fun _ => by simp only [id, Cx.cut]; rw [List.getElem?_take, if_pos hi]⟩
  l := rfl
theorem gcA_rel {c : Cx} {x : AV} {u : Value} (m mt : Nat) (h : ARel c x u) : ARel (c.cut m mt) (gcA m mt x) u := by
  unfold gcA
  split
  · rename_i h1
    split
    · rename_i h2
      have := ARel.ren (cut_to c m mt) x (fun i hi => by simpa using List.all_eq_true.1 h1 i hi) (fun i hi => by simpa using List.all_eq_true.1 h2 i hi) h
      rwa [AV.ren_id] at this
    · split
      · rename_i y hy
        have := ARel.toD x h hy
        simp only [ARel]; exact this
      · simp only [ARel]
  · simp only [ARel]
theorem gcL_rel {c : Cx} (m mt : Nat) : ∀ {xs : List AV} {us : List Value}, ARels c xs us → ARels (c.cut m mt) (xs.map (gcA m mt)) us
  | [], _, h => h
  | x :: xs, _, h => by
    obtain ⟨u, us', e, h1, h2⟩ := h
    exact ⟨u, us', e, gcA_rel m mt h1, gcL_rel m mt h2⟩
theorem gcC_rel {c : Cx} (m mt : Nat) : ∀ {xs : List AV} {us : List Value}, ACells c xs us → ACells (c.cut m mt) (xs.map (gcA m mt)) us
  | [], _, h => h
  | x :: xs, _, h => by
    obtain ⟨u, us', e, h0, h1, h2⟩ := h
    exact ⟨u, us', e, h0, gcA_rel m mt h1, gcC_rel m mt h2⟩
theorem gcBox_rel {c : Cx} {w : World} {bx : Box} {k : Nat} (m mt : Nat) (h : BoxRel c w bx k) : BoxRel (c.cut m mt) w (gcBox m mt bx) k := by
  cases bx with
  | cells ty cs => obtain ⟨us, rest, e, h1, h2, h3⟩ := h; exact ⟨us, rest, e, h1, gcC_rel m mt h2, h3⟩
  | map es => exact h
  | row z es => exact h
  | iter s pos => exact h
  | gone => trivial
theorem cut_has {c : Cx} {m mt k : Nat} (h : (c.cut m mt).has k) : c.has k :=
  h.imp (fun h => List.mem_of_mem_take h) fun ⟨t, x, ht, e⟩ => ⟨t, x, take_get ht, e⟩
theorem cut_owns {c : Cx} {m mt k : Nat} (h : (c.cut m mt).owns k) : c.owns k :=
  h.imp (fun h => ⟨List.mem_of_mem_take h.1, h.2⟩) fun ⟨t, x, ht, e⟩ => ⟨t, x, take_get ht, e⟩
theorem gc_good {L : Held σ} {c : Cx} {boxes : List Box} {s : σ} {X : Nat → Prop} {w : World} (hG : Good L c boxes s X w) (m mt : Nat) (hd : ∀ k ∈ c.dead, ∃ i, i < m ∧ c.β[i]? = some k) :
    Good L (c.cut m mt) ((boxes.take m).map (gcBox m mt)) s X w := by
  have h := hG.ok
  refine ⟨⟨h.ro, by simp [Cx.cut, h.len], fun i bx k hb hk => ?_, (List.take_sublist m c.β).nodup h.nodup, fun k hk => h.lt k (cut_has hk), fun k hk hkd o => h.robox k (List.mem_of_mem_take hk) hkd o, by simp [Cx.cut, h.tlen], fun t n g cap z hn ht => ?_,
    fun t t' x x' h1 h2 hne => h.tdis t t' x x' (take_get h1) (take_get h2) hne, fun t x ht hm => h.tbox t x (take_get ht) (List.mem_of_mem_take hm), fun k hk => ?_⟩,
    hG.held, fun k hk ho => hG.apart k hk (cut_owns ho)⟩
  · rw [List.getElem?_map, Option.map_eq_some_iff] at hb
    obtain ⟨b, hb, rfl⟩ := hb
    exact gcBox_rel m mt (h.box i b k (take_get hb) (take_get hk))
  · exact h.tok t n g cap z (take_get hn) (take_get ht)
  · obtain ⟨i, hi, hk'⟩ := hd k hk
    obtain ⟨j, q1, q2⟩ := h.dead k hk
    have : i = j := inj_of_nodup h.nodup hk' q1
    subst this
    exact ⟨i, get_take hk' hi, by rw [List.getElem?_map, get_take q2 hi]; rfl⟩
theorem cut_le {c c1 : Cx} (h : c.le c1) {m mt : Nat} (h1 : c.β.length ≤ m) (h2 : c.toks.length ≤ mt) : c.le (c1.cut m mt) where
  ro := h.ro
  box := fun i k _ e => get_take (h.box i k trivial e) (Nat.lt_of_lt_of_le (List.getElem?_eq_some_iff.1 e).1 h1)
  tok := fun i n _ e => by
    obtain ⟨n', q1, q2, q3⟩ := h.tok i n trivial e
    have hi : i < mt := Nat.lt_of_lt_of_le (List.getElem?_eq_some_iff.1 e).1 h2
    refine ⟨n', get_take q1 hi, q2, fun e => ?_⟩
    have := q3 e
    simp only [id, Cx.cut] at this ⊢
    rw [List.getElem?_take, if_pos hi]; exact this
  l := h.l
theorem gc_evo {X0 X : Nat → Prop} {c0 c : Cx} {w0 w : World} (hE : EvoX X0 c0 w0 X c w) {m mt : Nat} (h1 : c0.β.length ≤ m) (h2 : c0.toks.length ≤ mt) : EvoX X0 c0 w0 X (c.cut m mt) w :=
  ⟨cut_le hE.le h1 h2, hE.os, hE.tape, hE.output, hE.size, hE.keep, fun k hk => hE.new k (cut_owns hk), hE.newX, hE.ronew, hE.dead⟩
theorem Post.gc {L : Held σ} {X : Nat → Prop} {c : Cx} {w : World} {z : Nat × List Deferred} {rnd : Bool} {ex : Ex} {st : St σ} {e : Exit} {a : Act} {w' : World} {m mt : Nat} (h1 : c.β.length ≤ m) (h2 : c.toks.length ≤ mt) (hd : ∀ k ∈ c.dead, ∃ i : Nat, c.β[i]? = some k)
    (h : Post L X c w z rnd ex st e a w') : Post L X c w z rnd ex (gcSt m mt st) e a w' := by
  obtain ⟨hx, c', X', hG, hE, ht, hA, hM⟩ := h
  refine ⟨hx, c'.cut m mt, X', gc_good hG m mt (fun k hk => ?_), gc_evo hE h1 h2, ?_, gcL_rel m mt hA, fun hr => ?_⟩
  · rw [hE.dead] at hk
    obtain ⟨i, hi⟩ := hd k hk
    exact ⟨i, Nat.lt_of_lt_of_le (List.getElem?_eq_some_iff.1 hi).1 h1, hE.le.box i k trivial hi⟩
  · simp only [Cx.cut, gcSt, ht]
  · obtain ⟨q0, Ds, q1, q2, q3⟩ := hM hr
    exact ⟨q0, Ds, q1, q2, fun D hD => ⟨(q3 D hD).1, fun ho => (q3 D hD).2.1 (cut_owns ho), (q3 D hD).2.2⟩⟩
theorem good_gone {L : Held σ} {c : Cx} {boxes : List Box} {s : σ} {X : Nat → Prop} {w : World} (hG : Good L c boxes s X w) : Good L c (boxes.map fun _ => Box.gone) s X w := by
  have h := hG.ok
  refine ⟨⟨h.ro, by simp [h.len], fun i bx k hb hk => ?_, h.nodup, h.lt, h.robox, h.tlen, h.tok, h.tdis, h.tbox, fun k hk => ?_⟩, hG.held, hG.apart⟩
  · rw [List.getElem?_map, Option.map_eq_some_iff] at hb
    obtain ⟨b, _, rfl⟩ := hb
    trivial
  · obtain ⟨i, q1, q2⟩ := h.dead k hk
    exact ⟨i, q1, by rw [List.getElem?_map, q2]; rfl⟩
theorem gone_good {L : Held σ} {c : Cx} {boxes : List Box} {s : σ} {X : Nat → Prop} {w : World} (hG : Good L c boxes s X w) (m mt : Nat) (hd : ∀ k ∈ c.dead, ∃ i, i < m ∧ c.β[i]? = some k) :
    Good L (c.cut m mt) ((boxes.take m).map fun _ => Box.gone) s X w := by
  have := good_gone (gc_good hG m mt hd)
  rwa [List.map_map] at this
theorem undef_rel {c : Cx} : ∀ {xs : List AV} {us : List Value}, ARels c xs us → ARels c (xs.map fun _ => AV.undef) us
  | [], _, h => h
  | x :: xs, _, h => by
    obtain ⟨u, us', e, h1, h2⟩ := h
    exact ⟨u, us', e, by simp only [ARel], undef_rel h2⟩
theorem Post.pan {L : Held σ} {X : Nat → Prop} {c : Cx} {w : World} {z : Nat × List Deferred} {rnd : Bool} {ex : Ex} {st : St σ} {e : Exit} {a : Act} {w' : World} {m mt : Nat} (C : Cfg) (f : FuncId) (h1 : c.β.length ≤ m) (h2 : c.toks.length ≤ mt) (hd : ∀ k ∈ c.dead, ∃ i : Nat, c.β[i]? = some k)
    (h : Post L X c w z rnd ex st e a w') : Post L X c w z rnd ex (panSt C f m mt st) e a w' := by
  obtain ⟨hx, c', X', hG, hE, ht, hA, hM⟩ := h
  have hdd : ∀ k ∈ c'.dead, ∃ i, i < m ∧ c'.β[i]? = some k := fun k hk => by
    rw [hE.dead] at hk
    obtain ⟨i, hi⟩ := hd k hk
    exact ⟨i, Nat.lt_of_lt_of_le (List.getElem?_eq_some_iff.1 hi).1 h1, hE.le.box i k trivial hi⟩
  refine ⟨hx, c'.cut m mt, X', ?_, gc_evo hE h1 h2, ?_, ?_, fun hr => ?_⟩
  · simp only [panSt]
    split
    · exact gc_good hG m mt hdd
    · exact gone_good hG m mt hdd
  · simp only [Cx.cut, panSt, ht]
  · have := undef_rel (gcL_rel m mt hA)
    rwa [List.map_map] at this
  · obtain ⟨q0, Ds, q1, q2, q3⟩ := hM hr
    exact ⟨q0, Ds, q1, q2, fun D hD => ⟨(q3 D hD).1, fun ho => (q3 D hD).2.1 (cut_owns ho), (q3 D hD).2.2⟩⟩
theorem clean_rel {c : Cx} : ∀ {xs : List AV} {us : List Value} (ks : List Nat) (i : Nat), ARels c xs us → ARels c (cleanFrom ks i xs) us
  | [], _, ks, i, h => by simpa [cleanFrom] using h
  | x :: xs, _, [], i, h => by
    obtain ⟨u, us', e, h1, h2⟩ := h
    exact ⟨u, us', e, by simp only [ARel], clean_rel [] (i + 1) h2⟩
  | x :: xs, _, k :: ks, i, h => by
    obtain ⟨u, us', e, h1, h2⟩ := h
    simp only [cleanFrom]
    split
    · exact ⟨u, us', e, h1, clean_rel ks (i + 1) h2⟩
    · exact ⟨u, us', e, by simp only [ARel], clean_rel (k :: ks) (i + 1) h2⟩
theorem cleanSt_rel {c : Cx} {st : St σ} {us : List Value} (ks : Option (List Nat)) (h : ARels c st.env us) : ARels c (cleanSt ks st).env us := by
  cases ks with
  | none => exact h
  | some ks => exact clean_rel ks 0 h
theorem cleanSt_boxes (ks : Option (List Nat)) (st : St σ) : (cleanSt ks st).boxes = st.boxes ∧ (cleanSt ks st).toks = st.toks ∧ (cleanSt ks st).s = st.s := by
  cases ks <;> exact ⟨rfl, rfl, rfl⟩
theorem Post.clean {L : Held σ} {X : Nat → Prop} {c : Cx} {w : World} {z : Nat × List Deferred} {rnd : Bool} {ex : Ex} {st : St σ} {e : Exit} {a : Act} {w' : World} (ks : Option (List Nat)) (h : Post L X c w z rnd ex st e a w') : Post L X c w z rnd ex (cleanSt ks st) e a w' := by
  obtain ⟨hx, c', X', hG, hE, ht, hA, hM⟩ := h
  obtain ⟨k1, k2, k3⟩ := cleanSt_boxes ks st
  exact ⟨hx, c', X', by rw [k1, k3]; exact hG, hE, by rw [k2]; exact ht, cleanSt_rel ks hA, hM⟩
theorem Post.leave {L : Held σ} {X : Nat → Prop} {c : Cx} {w : World} {z : Nat × List Deferred} {rnd : Bool} {ex : Ex} {st : St σ} {e : Exit} {a : Act} {w' : World} {m mt : Nat} (ks : Option (List Nat)) (h1 : c.β.length = m) (h2 : c.toks.length = mt) (hd : ∀ k ∈ c.dead, ∃ i : Nat, c.β[i]? = some k)
    (h : Post L X c w z rnd ex st e a w') : Post L X c w z rnd ex (leaveSt ks m mt st) e a w' := by
  cases ks with
  | none => exact h
  | some ks => exact Post.gc (Nat.le_of_eq h1) (Nat.le_of_eq h2) hd (Post.clean (some ks) h)
theorem ACells.setNil {c c' : Cx} (h : c.le c') {v : AV} (hv : ARel c' v (.slice none 0 0)) : ∀ {cs : List AV} {us : List Value} {off : Nat}, ACells c cs us → cs[off]? = some .nsl → ACells c' (cs.set off v) us
  | [], _, off, _, e => by simp at e
  | x :: cs, _, 0, hx, e => by
    obtain ⟨u, us', rfl, h0, h1, h2⟩ := hx
    simp at e
    subst e
    simp only [ARel] at h1
    subst h1
    exact ⟨_, us', rfl, h0, hv, ACells.mono h h2⟩
  | x :: cs, _, off + 1, hx, e => by
    obtain ⟨u, us', rfl, h0, h1, h2⟩ := hx
    exact ⟨u, us', rfl, h0, ARel.mono h h1, ACells.setNil h hv h2 (by simpa using e)⟩
theorem EvoX.of_evo {X : Nat → Prop} {c c' : Cx} {w w' : World} (hE : Evo c w c' w') : EvoX X c w X c' w' :=
  ⟨hE.le, hE.os, hE.tape, hE.output, hE.size, fun k h1 h2 _ => hE.keep k h1 h2, hE.new, fun _ h => .inl h, fun b o h0 h1 => (hE.ronew b o h0 h1).imp id .inr, hE.dead⟩
theorem ownSt_good {L : Held σ} {X : Nat → Prop} {w : World} {us : List Value} : ∀ (l : List (Nat × Nat × Bool)) {c : Cx} {st : St σ}, Good L c st.boxes st.s X w → c.toks = st.toks → ARels c st.env us →
    ∃ c', Good L c' (ownSt l st).boxes (ownSt l st).s X w ∧ EvoX X c w X c' w ∧ c'.toks = (ownSt l st).toks ∧ ARels c' (ownSt l st).env us
  | [], c, st, hG, ht, hA => ⟨c, hG, EvoX.refl _ _ _, ht, hA⟩
  | (i, off, byt) :: r, c, st, hG, ht, hA => by
    unfold ownSt
    split
    · rename_i ty cs hb
      split
      · rename_i hcs
        have hle : c.le c.addNil := Cx.le_addNil hG.ok.tlen
        have hN : ∀ A, NilTok c.addNil c.toks.length (.slice A 0 0) := NilTok.new hG.ok.tlen
        have hv : ARel c.addNil (if byt = true then AV.obs st.toks.length .empty else .osl st.toks.length []) (.slice none 0 0) := by
          rw [← ht]
          split <;> simp only [ARel]
          · exact .inr ⟨by trivial, by trivial, hN none⟩
          · exact .inr ⟨by trivial, hN none⟩
        have hW : WOk c.addNil (st.boxes.set i (.cells ty (cs.set off (if byt = true then AV.obs st.toks.length .empty else .osl st.toks.length [])))) w := by
          have h := hG.ok.addNil
          refine ⟨h.ro, by simpa using h.len, fun j bx k hj hk => ?_, h.nodup, h.lt, h.robox, h.tlen, h.tok, h.tdis, h.tbox, fun k hk => ?_⟩
          · by_cases hji : i = j
            · subst hji
              have hil : i < st.boxes.length := (List.getElem?_eq_some_iff.1 hb).1
              simp [hil] at hj
              subst hj
              obtain ⟨us', rest, e, q1, q2, q3⟩ := hG.ok.box i _ k hb hk
              exact ⟨us', rest, e, q1, ACells.setNil hle hv q2 hcs, q3⟩
            · rw [List.getElem?_set_ne hji] at hj
              exact h.box j bx k hj hk
          · obtain ⟨j, q1, q2⟩ := h.dead k hk
            refine ⟨j, q1, ?_⟩
            rw [List.getElem?_set_ne (fun e => ?_)]
            · exact q2
            · subst e; rw [hb] at q2; cases q2
        have hG1 : Good L c.addNil (st.boxes.set i (.cells ty (cs.set off (if byt = true then AV.obs st.toks.length .empty else .osl st.toks.length [])))) st.s X w :=
          ⟨hW, hG.held, fun k hk ho => hG.apart k hk (addNil_owns ho)⟩
        obtain ⟨c', q1, q2, q3, q4⟩ := ownSt_good r (c := c.addNil) (st := { st with boxes := st.boxes.set i (.cells ty (cs.set off (if byt = true then AV.obs st.toks.length .empty else .osl st.toks.length []))), toks := st.toks ++ [0] }) hG1 (by simp [Cx.addNil, ht]) (ARels.mono hle hA)
        exact ⟨c', q1, (EvoX.of_evo (Evo.addNil hG.ok.tlen)).trans q2, q3, q4⟩
      · exact ownSt_good r hG ht hA
    · exact ownSt_good r hG ht hA
theorem hookSt_good {C : Cfg} {f id : Nat} {L : Held σ} {X : Nat → Prop} {w : World} {us : List Value} {c : Cx} {st : St σ} (hG : Good L c st.boxes st.s X w) (ht : c.toks = st.toks) (hA : ARels c st.env us) :
    ∃ c', Good L c' (hookSt C f id st).boxes (hookSt C f id st).s X w ∧ EvoX X c w X c' w ∧ c'.toks = (hookSt C f id st).toks ∧ ARels c' (hookSt C f id st).env us := by
  obtain ⟨k1, k2, k3⟩ := cleanSt_boxes (C.live f id) st
  exact ownSt_good (C.own f id) (st := cleanSt (C.live f id) st) (by rw [k1, k3]; exact hG) (by rw [k2]; exact ht) (cleanSt_rel _ hA)
end Ev
