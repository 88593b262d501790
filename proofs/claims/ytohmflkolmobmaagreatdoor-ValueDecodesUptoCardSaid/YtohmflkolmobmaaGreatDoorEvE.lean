/- What functions of the program compute, as plain Lean functions, each with its proof by a proved reader; plain laws about them (EvE). -/
import Derived.Test.YtohmflkolmobmaaGreatDoorEvC
set_option linter.unusedSimpArgs false
set_option linter.unusedVariables false
namespace Ev
open Go Go.RowKit
variable {σ : Type} {P : Program} {glob : Nat → Option (List D)}
theorem putBack_all {α : Type} {x : α} : ∀ (ps : List (Nat × α)) (l : List α) (i : Nat), (∀ p ∈ ps, p.2 = x) → i < l.length → (∃ p ∈ ps, p.1 = i) → (putBack l ps)[i]? = some x
  | [], _, _, _, _, h => by obtain ⟨p, hp, _⟩ := h; cases hp
  | (j, y) :: r, l, i, h, hi, he => by
    simp only [putBack]
    by_cases ht : ∃ p ∈ r, p.1 = i
    · exact putBack_all r _ i (fun p hp => h p (List.mem_cons_of_mem _ hp)) (by simpa using hi) ht
    · obtain ⟨p, hp, hpi⟩ := he
      rcases List.mem_cons.1 hp with rfl | hp
      · simp only at hpi
        subst hpi
        rw [putBack_other _ _ _ (fun q hq e => ht ⟨q, hq, e⟩)]
        have := h (j, y) (by simp)
        simp only at this
        subst this
        simp [hi]
      · exact (ht ⟨p, hp, hpi⟩).elim
mutual
theorem noYld_ren (b t : Nat → Nat) : ∀ x : AV, noYld (x.ren b t) = noYld x
  | .d _ | .nsl | .osl _ _ | .obs _ _ | .ptr _ _ | .ept _ _ | .gptr _ _ | .msl _ _ _ | .rsb _ _ _ _ | .rsl _ _ _ | .rpt _ _ _ _ | .fsl _ _ _ _ | .iter _ | .msb _ _ _ | .mpv _ | .yld | .undef => by simp [AV.ren, noYld]
  | .func _ x y => by simp [AV.ren, noYld, noYldL_ren b t x, noYldL_ren b t y]
  | .ifc _ x => by simp [AV.ren, noYld, noYld_ren b t x]
  | .agg cs => by simp [AV.ren, noYld, noYldL_ren b t cs]
  | .tup cs => by simp [AV.ren, noYld, noYldL_ren b t cs]
theorem noYldL_ren (b t : Nat → Nat) : ∀ xs : List AV, noYldL (renL b t xs) = noYldL xs
  | [] => rfl
  | x :: xs => by simp [renL, noYldL, noYld_ren b t x, noYldL_ren b t xs]
end
theorem noYldB_ren (b t : Nat → Nat) (x : Box) : noYldB (x.ren b t) = noYldB x := by
  cases x <;> simp [Box.ren, noYldB, noYldL_ren]
theorem WOk.relabel {c c' : Cx} {boxes : List Box} {w : World} (h : WOk c boxes w) (h1 : c'.β = c.β) (h2 : c'.τ = c.τ) (h3 : c'.toks = c.toks) (h4 : c'.ro = c.ro) (h5 : c'.dead = c.dead) (hn : ∀ b ∈ boxes, noYldB b = true) : WOk c' boxes w := by
  refine ⟨by rw [h4]; exact h.ro, by rw [h1]; exact h.len, fun i bx k hb hk => ?_, by rw [h1]; exact h.nodup, fun k hk => h.lt k (by simpa [Cx.has, h1, h2] using hk), fun k hk hd o => by rw [h4]; exact h.robox k (h1 ▸ hk) (h5 ▸ hd) o, by rw [h2, h3]; exact h.tlen, fun t n g cap z hn' ht => ?_, by rw [h2]; exact h.tdis, by rw [h1, h2]; exact h.tbox, by rw [h5, h1]; exact h.dead⟩
  · exact BoxRel.relabel h1 h2 h3 h4 (hn bx (List.mem_of_getElem? hb)) (h.box i bx k hb (h1 ▸ hk))
  · obtain ⟨q1, cur, e, q2, q3, q4⟩ := h.tok t n g cap z (h3 ▸ hn') (h2 ▸ ht)
    exact ⟨q1, cur, e, q2, q3, by rw [h4]; exact q4⟩
theorem range_sound {H : Hd} (hH : HSound P glob H) {L : Held σ} {Y : Yd σ} {evA evB : St σ → Option (Ex × St σ)} {assign body : Code} (hA : CodeSound P glob assign evA L Y true) (hB : CodeSound P glob body evB L Y true) {g : Operand} {ps : Array Tmp} :
    CodeSound P glob (.rangeFunc g ps assign body) (evIter H evA evB g ps.toList) L Y false := by
  intro st ex st' e c X w a rd z hG htk hE hY hr
  obtain ⟨hdead, rfl, hM⟩ := hr rfl
  unfold evIter at e
  split at e
  case h_2 => cases e
  rename_i f caps hg
  dsimp only at e
  generalize hrs : lentB caps st.boxes = rs at e
  split at e
  case isFalse => cases e
  rename_i hlo
  simp only [Bool.and_eq_true] at hlo
  obtain ⟨⟨hlo, hny⟩, hnb⟩ := hlo
  split at e
  case h_2 => cases e
  rename_i v0 bs tk0 bs1 tk1 s1 pe hv
  split at e
  case isTrue => cases e
  rename_i hback
  simp only [Bool.or_eq_true, not_or] at hback
  obtain ⟨⟨⟨hb1, hb2⟩, hb3⟩, hpnc⟩ := hback
  have hL := lent_of hlo
  rw [← htk] at hL
  have hgv := operand_rel hE g
  rw [hg] at hgv
  simp only [ARel, ARels] at hgv
  obtain ⟨fs, cs, hgv, hfs, hcs⟩ := hgv
  subst hfs
  obtain ⟨henter, hcall⟩ := hH _ _ (roundHeld L c X (rs.map (fun i => c.β.getD i 0)) w.heap.size (w.heap.size + 1) w.heap.size (recOf 0 #[] #[] .skip .skip 0)) f _ _ _ _ _ _ _ _ hv
  clear hcall
  refine wpIn_rangeFunc (fun fn hfn => ?_)
  obtain ⟨W1, hW1⟩ : ∃ W1, (w.alloc (.deferred (some []))).alloc (.loop (recOf fn a.tmps ps assign body w.heap.size none)) = W1 := ⟨_, rfl⟩
  have hsz1 : W1.heap.size = w.heap.size + 2 := by rw [← hW1]; simp
  have hold : ∀ k, k < w.heap.size → W1.heap[k]? = w.heap[k]? := fun k hk => by
    rw [← hW1, heap_alloc_ne _ _ _ (by simp; omega), heap_alloc_ne _ _ _ hk]
  have hl1 : W1.heap[w.heap.size + 1]? = some (.loop (recOf fn a.tmps ps assign body w.heap.size none)) := by
    rw [← hW1]; have := World.alloc_heap_new (w.alloc (.deferred (some []))) (.loop (recOf fn a.tmps ps assign body w.heap.size none)); rwa [World.size_alloc] at this
  have hD1 : W1.heap[w.heap.size]? = some (.deferred (some [])) := by
    rw [← hW1, heap_alloc_ne _ _ _ (by simp)]; exact World.alloc_heap_new w _
  have hcsA : ARels c caps cs := hcs
  refine ⟨w.heap.size + 1, [{ target := .collected w.heap.size, args := #[] }], W1, { target := .fn (.func f) cs.toArray, args := #[.func (.yield (w.heap.size + 1)) #[] #[]] }, W1, f, (.func (.yield (w.heap.size + 1)) #[] #[] :: cs).toArray, W1, ?_, ?_, fun _ _ => trivial, ?_, fun h => by simp [FW, Fence.wide] at h, ?_⟩
  · rw [← hW1]; exact run_enterLoop_outer _ _ _ _ _
  · simp only [resolve, hgv, Deferred.ofValue, Sem.run_pure]
    simp [Act.eval]
  · simp only [invoke]
    have : (#[Value.func (.yield (w.heap.size + 1)) #[] #[]] : Array Value) ++ cs.toArray = (Value.func (.yield (w.heap.size + 1)) #[] #[] :: cs).toArray := by apply Array.ext'; simp
    rw [this]; exact henter _ _
  · 
    have hDl : w.heap.size ≠ w.heap.size + 1 := by omega
    have hgone : ∀ i ∈ rs, st.boxes[i]? ≠ some Box.gone := fun i hi e => by
      refine hL.ng _ (List.mem_map.2 ⟨i, hi, rfl⟩) ?_
      rw [List.getD_eq_getElem?_getD, e]; rfl
    have hget : ∀ i ∈ rs, st.boxes[i]? = some (st.boxes.getD i .gone) := fun i hi => by rw [List.getD_eq_getElem?_getD, List.getElem?_eq_getElem (hL.rlt i hi)]; simp
    have hβ : ∀ i ∈ rs, c.β[i]? = some (c.β.getD i 0) := fun i hi => by
      have : i < c.β.length := by rw [hG.ok.len]; exact hL.rlt i hi
      rw [List.getD_eq_getElem?_getD, List.getElem?_eq_getElem this]; simp
    have hro1 : c.ro.holds W1 := ⟨fun b o v e => by
      rw [cell_of_block (hold b (World.block_lt_of_cell? w ⟨b, o, none⟩ (hG.ok.ro b o v e)))]; exact hG.ok.ro b o v e, fun b n e => (hG.ok.ro.whole b n e).same (hold b (hG.ok.ro.whole b n e).lt), hG.ok.ro.known, fun b n e => (hG.ok.ro.big b n e).same (hold b (hG.ok.ro.big b n e).lt)⟩
    have hG1 : Good L c st.boxes st.s X W1 := hG.stay (ro' := c.ro) (RO.le_refl _) hro1 (by omega) (fun k hk => hold k (hk.elim (fun q => hG.ok.lt k q.has) (L.lt hG.held k))) (fun b o h0 h1 => (h1 h0).elim)
    have hto0 : c.to (c.sub rs [] c.l) (indexOf · rs) id (· ∈ rs) (· ∈ ([] : List Nat)) :=
      ⟨RO.le_refl _, fun i k hi e => by rw [sub_β' hG.ok hL.rlt (indexOf_get hi)]; exact e, fun i n hi => (by cases hi), rfl⟩
    have hsubG := sub_good hG1 hL hto0
    have hsub1 : Good (roundHeld L c X (rs.map (fun i => c.β.getD i 0)) w.heap.size (w.heap.size + 1) w.heap.size (recOf fn a.tmps ps assign body w.heap.size)) (c.sub rs [] (some (w.heap.size + 1)))
        ((rs.map fun i => st.boxes.getD i .gone).map (Box.ren (indexOf · rs) id)) (putBack st.boxes (rs.map fun i => (i, Box.gone)), st.toks, st.s, none)
        (span { c with dead := rs.map (fun i => c.β.getD i 0) } X (w.heap.size + 1) w.heap.size) W1 := by
      have hlb : ∀ k, k ∈ rs.map (fun i => c.β.getD i 0) → ∃ i ∈ rs, c.β[i]? = some k := fun k hk => by
        obtain ⟨i, hi, rfl⟩ := List.mem_map.1 hk
        exact ⟨i, hi, hβ i hi⟩
      have hback : ∀ i ∈ rs, ∀ k, c.β[i]? = some k → k ∈ rs.map (fun i => c.β.getD i 0) := fun i hi k hk => List.mem_map.2 ⟨i, hi, by rw [hβ i hi] at hk; exact Option.some.inj hk⟩
      have hkin : ∀ i ∈ rs, (putBack st.boxes (rs.map fun i => (i, Box.gone)))[i]? = some Box.gone := fun i hi => putBack_all _ _ i (fun p hp => by obtain ⟨j, _, rfl⟩ := List.mem_map.1 hp; rfl) (hL.rlt i hi) ⟨(i, .gone), List.mem_map.2 ⟨i, hi, rfl⟩, rfl⟩
      have hkout : ∀ i, i ∉ rs → (putBack st.boxes (rs.map fun i => (i, Box.gone)))[i]? = st.boxes[i]? := fun i hi => putBack_other _ _ _ (fun p hp e => by
        obtain ⟨j, hj, rfl⟩ := List.mem_map.1 hp
        simp only at e
        subst e; exact hi hj)
      have hleck : c.le { c with dead := rs.map (fun i => c.β.getD i 0) } := ⟨RO.le_refl _, fun _ _ _ e => e, fun _ n _ e => ⟨n, e, Nat.le_refl _, fun _ => rfl⟩, rfl⟩
      have hown : ∀ k, ({ c with dead := rs.map (fun i => c.β.getD i 0) } : Cx).owns k → c.owns k := fun k hk => hk.imp (fun q => ⟨q.1, by rw [hdead]; simp⟩) id
      have hokk : WOk { c with dead := rs.map (fun i => c.β.getD i 0) } (putBack st.boxes (rs.map fun i => (i, Box.gone))) W1 := by
        refine ⟨hro1, by rw [length_putBack]; exact hG.ok.len, fun i bx k hb hk => ?_, hG.ok.nodup, hG1.ok.lt, fun k hk hd o => hG.ok.robox k hk (by rw [hdead]; simp) o, hG.ok.tlen, fun t n g cap z hn ht => hG1.ok.tok t n g cap z hn ht, hG.ok.tdis, hG.ok.tbox, fun k hk => ?_⟩
        · by_cases hi : i ∈ rs
          · rw [hkin i hi] at hb; cases hb; trivial
          · rw [hkout i hi] at hb
            exact (hG1.ok.box i bx k hb hk).mono hleck rfl
        · obtain ⟨i, hi, e⟩ := hlb k hk
          exact ⟨i, e, hkin i hi⟩
      refine ⟨hsubG.ok.relabel rfl rfl rfl rfl rfl (fun b hb => ?_), ⟨{ c with dead := rs.map (fun i => c.β.getD i 0) }, X, rfl, rfl, ⟨hokk, hG1.held, fun k hk ho => hG.apart k hk (hown k ho)⟩, hleck, fun k hk => .inl (hown k hk), fun k hk => .inl hk, htk, rfl, hD1, hl1, fun q => ?_, fun q => ?_, fun q => ?_, fun q => ?_⟩, fun k hk ho => ?_⟩
      · obtain ⟨b0, hb0, rfl⟩ := List.mem_map.1 hb
        rw [noYldB_ren]
        exact List.all_eq_true.1 hnb b0 hb0
      · have := hG.ok.lt _ (hown _ q).has; omega
      · have := L.lt hG.held _ q; omega
      · have := hG.ok.lt _ (hown _ q).has; omega
      · have := L.lt hG.held _ q; omega
      · obtain ⟨q1, q2⟩ := sub_owns hG.ok hL.rlt hgone hL.tlt ho
        rcases hk with hk | hk | hk | hk
        · rcases q2 with ⟨j, i, r1, r2⟩ | ⟨j, i, x, r1, _, _⟩
          · have hi := List.mem_of_getElem? r1
            rcases hk with ⟨hk, hkd⟩ | ⟨t, x, hx, rfl⟩
            · exact hkd (hback i hi k r2)
            · exact hG.ok.tbox t x hx (List.mem_of_getElem? r2)
          · simp at r1
        · exact hG.apart k hk q1
        · have := hG.ok.lt k q1.has; omega
        · have := hG.ok.lt k q1.has; omega
    have hargs : ARels (c.sub rs [] (some (w.heap.size + 1))) (.yld :: renL (indexOf · rs) id caps) (Value.func (.yield (w.heap.size + 1)) #[] #[] :: cs) := by
      refine ⟨_, _, rfl, ?_, ?_⟩
      · simp only [ARel]; exact ⟨_, rfl, rfl⟩
      · exact ARels.relabel (c := c.sub rs [] c.l) (c' := c.sub rs [] (some (w.heap.size + 1))) rfl rfl rfl rfl _ (by rw [noYldL_ren]; exact hny) (ARels.ren hto0 caps hL.ar hL.at' hcsA)
    obtain ⟨_, hcall⟩ := hH _ _ (roundHeld L c X (rs.map (fun i => c.β.getD i 0)) w.heap.size (w.heap.size + 1) w.heap.size (recOf fn a.tmps ps assign body w.heap.size)) f _ _ _ _ _ _ _ _ hv
    have hc := hcall _ W1 _ _ (by simp [Cx.sub]) rfl hsub1 hargs ⟨hY.gl, fun l hl => by
      have : l = w.heap.size + 1 := by simpa [Cx.sub] using hl.symm
      subst this
      exact round_sound hA hB hY hE hDl hG.ok.len (by rw [htk]) (fun k hk => by
        obtain ⟨i, hi, rfl⟩ := List.mem_map.1 hk
        exact ⟨i, hβ i hi⟩)⟩
    refine callsIn_FW (Calls.mono hc ?_)
    rintro e' W2 ⟨c2, X2, u, rfl, hg2, hE2, ht2, hu⟩
    obtain ⟨ck, Xk, hckro, hckd, hGk, hleck, hown, hXk, htkk, hX2, hD2, hl2, n1, n2, n3, n4⟩ := hg2.held
    simp only at hGk htkk hl2
    have hc2l : c2.l = some (w.heap.size + 1) := hE2.le.l
    have hc2d : c2.dead = [] := hE2.dead
    have hckβ : ∀ i k, c.β[i]? = some k → ck.β[i]? = some k := fun i k e => hleck.box i k trivial e
    have hnd : ∀ i k, i ∉ rs → ck.β[i]? = some k → k ∉ ck.dead := fun i k hi hk hd => by
      rw [hckd] at hd
      obtain ⟨i', hi', rfl⟩ := List.mem_map.1 hd
      exact hi (inj_of_nodup hGk.ok.nodup hk (hckβ i' _ (hβ i' hi')) ▸ hi')
    have hsp : ∀ k, c2.owns k → ¬ ck.owns k := fun k h1 h2 => hg2.apart k (by rw [hX2]; exact .inl h2) h1
    have hR : Rest ck bs1 rs [] c2 [] W2 := by
      refine ⟨hGk.ok.len, hGk.ok.tlen, hGk.ok.nodup, hGk.ok.tdis, hGk.ok.tbox, hL.rn, List.nodup_nil, fun i hi => ?_, by simp, hGk.ok.lt, fun i bx k _ hb hk => hGk.ok.box i bx k hb hk, fun i k hi hk _ o => ?_, fun t n g cap z _ hn ht => ?_, fun k i ho hi hk => hsp k ho (.inl ⟨List.mem_of_getElem? hk, hnd i k hi hk⟩), fun k t x ho _ hx e => hsp k ho (.inr ⟨t, x, hx, e⟩), fun j i hj => ?_, fun j i n hj => by simp at hj, by rw [hckro]; exact RO.le_refl _, by simp, hc2d⟩
      · rw [← hGk.ok.len]; exact (List.getElem?_eq_some_iff.1 (hckβ i _ (hβ i hi))).1
      · rw [← hckro]; exact hGk.ok.robox k (List.mem_of_getElem? hk) (hnd i k hi hk) o
      · rw [← hckro]; exact hGk.ok.tok t n g cap z hn ht
      · have hi := List.mem_of_getElem? hj
        have h1 := sub_β' (ts := []) (l := some (w.heap.size + 1)) hG.ok hL.rlt hj
        rw [hβ i hi] at h1
        have h3 : c2.β[j]? = some (c.β.getD i 0) := hE2.le.box j _ trivial h1
        rw [h3, hckβ i _ (hβ i hi)]
    have hckl : ck.l = c.l := hleck.l
    have hto2 : ({ c2 with l := ck.l } : Cx).to (ck.back rs [] c2 false false []) (backIdx rs 0) id (· < rs.length) (fun _ => False) :=
      ⟨RO.le_refl _, fun j k hj e => by
        have h1 := merge_new (l := ck.β) (b := c2.β) (keep := false) hL.rn (fun i hi => by rw [hGk.ok.len]; exact hR.rlt i hi) hR.mlen j (.inl hj)
        have h2 : backIdx rs 0 j = backIdx rs ck.β.length j := by unfold backIdx; rw [if_pos hj, if_pos hj]
        simp only [Cx.back]
        rw [h2, h1]; exact e, fun _ _ hf => hf.elim, rfl⟩
    have hok := back_ok (kb := false) (kt := false) hR hg2.ok (bf := backIdx rs 0) (tf := id) (fun j k b hj hbj hb => by
      have hjl : j < rs.length := hj.resolve_right (by simp)
      have hm : b ∈ bs.take rs.length := List.mem_of_getElem? (by rw [List.getElem?_take, if_pos hjl]; exact hbj)
      have hyl : noYldB b = true := by
        have : (bs.take rs.length).all noYldB = true := by simpa using hb3
        exact List.all_eq_true.1 this b hm
      refine BoxRel.ren hto2 (BoxRel.relabel (c := c2) (c' := { c2 with l := ck.l }) rfl rfl rfl rfl hyl hb) (fun ty cs hcs => ⟨fun i hi => ?_, fun i hi => ?_⟩)
      · have : ¬ rs.length ≤ i := fun hle => hb1 (List.any_eq_true.2 ⟨i, List.mem_flatMap.2 ⟨b, hm, by rw [hcs]; exact hi⟩, by simpa using hle⟩)
        omega
      · have hem : (bs.take rs.length).flatMap Box.tks = [] := by simpa using hb2
        have : i ∈ (bs.take rs.length).flatMap Box.tks := List.mem_flatMap.2 ⟨b, hm, by rw [hcs]; exact hi⟩
        rw [hem] at this; cases this)
    have hsub : ∀ k, (c.sub rs [] (some (w.heap.size + 1))).owns k → c.owns k := fun k hk => (sub_owns hG.ok hL.rlt hgone hL.tlt hk).1
    have hspan0 : ∀ k, span { c with dead := rs.map (fun i => c.β.getD i 0) } X (w.heap.size + 1) w.heap.size k → c.owns k ∨ X k ∨ w.heap.size ≤ k := fun k hk => by
      rcases hk with hk | hk | hk | hk
      · exact .inl (hk.imp (fun q => ⟨q.1, by rw [hdead]; simp⟩) id)
      · exact .inr (.inl hk)
      · exact .inr (.inr (by omega))
      · exact .inr (.inr (by omega))
    have hcfown : ∀ k, (ck.back rs [] c2 false false []).owns k → ck.owns k ∨ c2.owns k := fun k hk => by
      rcases back_owns hR hg2.ok.tlen hk with ⟨i, r1, r2, _⟩ | ⟨t, x, _, r2, rfl⟩ | r
      · exact .inl (.inl ⟨List.mem_of_getElem? r2, hnd i k r1 r2⟩)
      · exact .inl (.inr ⟨t, x, r2, rfl⟩)
      · exact .inr r
    have hlt2 := lt_of_heap hl2
    obtain ⟨pend, hpend⟩ : ∃ pend, pend = (recOf fn a.tmps ps assign body w.heap.size pe).pending := ⟨_, rfl⟩
    have hend := run_endLoop (P := P) hl2 (by cases pe <;> simp [recOf])
    rw [← hpend] at hend
    have hnl : ¬ (ck.back rs [] c2 false false []).owns (w.heap.size + 1) := fun q => by
      rcases hcfown _ q with q | q
      · exact n3 q
      · exact hg2.apart _ (by rw [hX2]; exact .inr (.inr (.inl rfl))) q
    have hnD : ¬ (ck.back rs [] c2 false false []).owns w.heap.size := fun q => by
      rcases hcfown _ q with q | q
      · exact n1 q
      · exact hg2.apart _ (by rw [hX2]; exact .inr (.inr (.inr rfl))) q
    have hGf : Good L (ck.back rs [] c2 false false []) (merge bs1 rs (bs.map (Box.ren (backIdx rs 0) id)) false) s1 Xk W2 :=
      ⟨hok, by have := hGk.held; rw [hckro] at this; exact this, fun k hk ho => by
        rcases hcfown k ho with q | q
        · exact hGk.apart k hk q
        · exact hg2.apart k (by rw [hX2]; exact .inr (.inl hk)) q⟩
    have hG4 := hGf.putObj (o := .loop { recOf fn a.tmps ps assign body w.heap.size pe with state := .exhausted }) hl2 hnl n4
    have hEf : EvoX X c w Xk (ck.back rs [] c2 false false []) (W2.putObj (w.heap.size + 1) (.loop { recOf fn a.tmps ps assign body w.heap.size pe with state := .exhausted })) := by
      refine ⟨Cx.le_trans hleck (back_le hR hg2.ok.tlen), ?_, ?_, ?_, ?_, fun k hk h1 h2 => ?_, fun k hk => ?_, fun k hk => hXk k hk, fun b o h0 h1 => ?_, hdead.symm⟩
      · exact hE2.os.trans (by rw [← hW1]; rfl)
      · exact hE2.tape.trans (by rw [← hW1]; rfl)
      · exact hE2.output.trans (by rw [← hW1]; rfl)
      · have := hE2.size; simp; omega
      · rw [World.putObj_heap_other (by omega), hE2.keep k (by omega) (fun q => h1 (hsub k q)) (fun q => by
          rcases hspan0 k q with q | q | q
          · exact h1 q
          · exact h2 q
          · omega), hold k hk]
      · rcases hcfown k hk with q | q
        · exact hown k q
        · rcases hE2.new k q with q | q
          · exact .inl (hsub k q)
          · exact .inr (by omega)
      · rcases hE2.ronew b o h0 h1 with q | q | q
        · exact .inl (hsub b q)
        · exact hspan0 b q
        · exact .inr (.inr (by omega))
    have hpost : ∀ e3, exitIs ex e3 → Post L X c w z false ex st' e3 { a with defers := [{ target := .collected w.heap.size, args := #[] }] ++ a.defers } (W2.putObj (w.heap.size + 1) (.loop { recOf fn a.tmps ps assign body w.heap.size pe with state := .exhausted })) := fun e3 hx => by
      simp only [Option.some.injEq, Prod.mk.injEq] at e
      obtain ⟨_, rfl⟩ := e
      refine ⟨hx, _, Xk, hG4, hEf, ?_, ARels.mono hEf.le hE, fun _ => ?_⟩
      · simp only [Cx.back, merge]
        simpa [putBack] using htkk
      · obtain ⟨d0, Ds, d1, d2, d3⟩ := hM
        have hD0 : w.heap.size ∉ Ds := fun hm => by have := lt_of_heap (d3 _ hm).1; omega
        obtain ⟨d0', Ds', d1', d2', d3'⟩ := Marked.evo ⟨d0, Ds, d1, d2, d3⟩ hEf
        refine ⟨d0', w.heap.size :: Ds, List.nodup_cons.2 ⟨hD0, d1⟩, by simp [d2], fun D hD => ?_⟩
        rcases List.mem_cons.1 hD with rfl | hD
        · exact ⟨(World.putObj_heap_other (by omega)).trans hD2, hnD, n2, d0⟩
        · obtain ⟨r1, r2, r3⟩ := evo_other hEf (d3 D hD).1 (d3 D hD).2.1 (d3 D hD).2.2.1
          exact ⟨r1, r2, r3, (d3 D hD).2.2.2⟩
    refine ⟨pend, _, hend, ?_⟩
    have hex : ex = pe.getD .normal := by
      simp only [Option.some.injEq, Prod.mk.injEq] at e
      exact e.1.symm
    cases pe with
    | none =>
      have : pend = none := hpend
      subst this
      simp only
      exact hpost .normal (by rw [hex]; trivial)
    | some ex' =>
      have : pend = some (codeOf ex') := hpend
      subst this
      simp only
      have hex' : ex = ex' := hex
      subst hex'
      cases ex with
      | normal => exact wpIn_skip (hpost .normal trivial)
      | ret => exact wpIn_ret (hpost .ret trivial)
      | exit id => exact wpIn_exit (hpost (.exit id) rfl)
      | panic v => exact (hpnc rfl).elim
end Ev
