/- What functions of the program compute, as plain Lean functions, each with its proof by a proved reader; plain laws about them (EvN). -/
import Derived.Test.YtohmflkolmobmaaGreatDoorEvM
set_option linter.unusedSimpArgs false
set_option linter.unusedVariables false
namespace Ev
open Go Go.RowKit
variable {σ : Type} {P : Program} {glob : Nat → Option (List D)}
theorem rest_of {L : Held σ} {c c2 : Cx} {boxes : List Box} {s s' : σ} {X X2 : Nat → Prop} {w w' : World} {rs ts : List Nat} {args : List AV} {l : Option Nat} (hG : Good L c boxes s X w)
    (hL : Lent rs ts args (rs.map fun i => boxes.getD i .gone) boxes c.toks) (hE : EvoX X (c.sub rs ts l) w X2 c2 w') : Rest c boxes rs ts c2 c.dead w' := by
  have hgone : ∀ i ∈ rs, boxes[i]? ≠ some Box.gone := fun i hi e => by
    refine hL.ng _ (List.mem_map.2 ⟨i, hi, rfl⟩) ?_
    rw [List.getD_eq_getElem?_getD, e]; rfl
  have hno : ∀ i k, i ∉ rs → c.β[i]? = some k → ¬ (c.sub rs ts l).owns k := fun i k hi hk ho => by
    rcases (sub_owns hG.ok hL.rlt hgone hL.tlt ho).2 with ⟨j, i', h1, h2⟩ | ⟨j, i', x, h1, h2, rfl⟩
    · exact hi (inj_of_nodup hG.ok.nodup hk h2 ▸ List.mem_of_getElem? h1)
    · exact hG.ok.tbox i' x h2 (List.mem_of_getElem? hk)
  have hnt : ∀ t x, t ∉ ts → c.τ[t]? = some (some x) → ¬ (c.sub rs ts l).owns x.1 := fun t x ht hx ho => by
    rcases (sub_owns hG.ok hL.rlt hgone hL.tlt ho).2 with ⟨j, i', h1, h2⟩ | ⟨j, i', x', h1, h2, e⟩
    · exact hG.ok.tbox t x hx (List.mem_of_getElem? h2)
    · refine hG.ok.tdis t i' x x' hx h2 (fun e' => ht ?_) e.symm
      subst e'; exact List.mem_of_getElem? h1
  have hro : ∀ k o, c.has k → ¬ (c.sub rs ts l).owns k → c.owns k → c.ro k o = none → c2.ro k o = none := fun k o hh h1 h2 h0 => by
    cases e : c2.ro k o with
    | none => rfl
    | some v =>
      rcases hE.ronew k o h0 (by simp [e]) with q | q | q
      · exact (h1 q).elim
      · exact (hG.apart k q h2).elim
      · have := hG.ok.lt k hh; omega
  refine ⟨hG.ok.len, hG.ok.tlen, hG.ok.nodup, hG.ok.tdis, hG.ok.tbox, hL.rn, hL.tn, hL.rlt, hL.tlt, fun k hk => Nat.lt_of_lt_of_le (hG.ok.lt k hk) hE.size, fun i bx k hi hb hk => ?_, fun i k hi hk hd o => ?_, fun t n g cap z ht hn hx => ?_, fun k i ho hi hk => ?_, fun k t x ho ht hx e => ?_, fun j i hj => ?_, fun j i n hj hn => ?_, hE.le.ro, fun k hk => ?_, hE.dead⟩
  · by_cases hg : bx = Box.gone
    · subst hg; trivial
    · have hm := List.mem_of_getElem? hk
      have ho : c.owns k := .inl ⟨hm, hG.ok.live hb hg hk⟩
      exact (hG.ok.box i bx k hb hk).mono (Cx.le_refl c) (hE.keep k (hG.ok.lt k (.inl hm)) (hno i k hi hk) (fun hx => hG.apart k hx ho))
  · have hm := List.mem_of_getElem? hk
    exact hro k o (.inl hm) (hno i k hi hk) (.inl ⟨hm, hd⟩) (hG.ok.robox k hm hd o)
  · obtain ⟨h1, cur, e, h2, h3, h4⟩ := hG.ok.tok t n g cap z hn hx
    have ho : c.owns g := .inr ⟨t, _, hx, rfl⟩
    have hn' := hnt t _ ht hx
    exact ⟨h1, cur, e, (hE.keep g (hG.ok.lt g ho.has) hn' (fun hx => hG.apart g hx ho)).trans h2, h3, fun o hz => hro g o ho.has hn' ho (h4.1 o hz), fun q => by rw [hE.le.ro.pin]; exact h4.2 q⟩
  · rcases hE.new k ho with q | q
    · exact hno i k hi hk q
    · have := hG.ok.lt k (.inl (List.mem_of_getElem? hk)); omega
  · subst e
    rcases hE.new x.1 ho with q | q
    · exact hnt t x ht hx q
    · have := hG.ok.lt x.1 (.inr ⟨t, x, hx, rfl⟩); omega
  · have hi : i < c.β.length := by rw [hG.ok.len]; exact hL.rlt i (List.mem_of_getElem? hj)
    have h1 := sub_β' (ts := ts) (l := l) hG.ok hL.rlt hj
    rw [List.getElem?_eq_getElem hi] at h1 ⊢
    exact hE.le.box j _ trivial h1
  · obtain ⟨h1, h2⟩ := sub_τ' (rs := rs) (l := l) hG.ok hL.tlt hj
    obtain ⟨n', q1, q2, q3⟩ := hE.le.tok j n trivial (by rw [h2]; exact hn)
    exact ⟨n', q1, q2, fun e => (q3 e).trans h1⟩
  · obtain ⟨i, h1, h2⟩ := hG.ok.dead k hk
    exact ⟨i, fun hi => hgone i hi h2, h1, h2⟩
theorem sub_good {L : Held σ} {c : Cx} {boxes : List Box} {s : σ} {X : Nat → Prop} {w : World} {rs ts : List Nat} {args : List AV} {l : Option Nat} (hG : Good L c boxes s X w)
    (hL : Lent rs ts args (rs.map fun i => boxes.getD i .gone) boxes c.toks) {bf tf : Nat → Nat} (hto : c.to (c.sub rs ts l) bf tf (· ∈ rs) (· ∈ ts)) :
    Good L (c.sub rs ts l) ((rs.map fun i => boxes.getD i .gone).map (Box.ren bf tf)) s X w := by
  have hgone : ∀ i ∈ rs, boxes[i]? ≠ some Box.gone := fun i hi e => by
    refine hL.ng _ (List.mem_map.2 ⟨i, hi, rfl⟩) ?_
    rw [List.getD_eq_getElem?_getD, e]; rfl
  exact ⟨sub_ok hG.ok hL rfl hto, hG.held, fun k hk ho => hG.apart k hk (sub_owns hG.ok hL.rlt hgone hL.tlt ho).1⟩
theorem lend_sound {H : Hd} (hH : HSound P glob H) : LendSound P glob H := by
  intro σ Y L f args boxes toks s v b' t' s' e
  unfold lend at e
  dsimp only at e
  generalize hrs : lentB args boxes = rs at e
  generalize hts : lentT args (rs.map fun i => boxes.getD i .gone) = ts at e
  split at e
  case isFalse => cases e
  rename_i hlo
  split at e
  case h_2 => cases e
  rename_i v0 bs tk s0 hv0
  obtain ⟨he, hp⟩ := hH _ _ L _ _ _ _ _ _ _ _ _ hv0
  generalize hvv : v0.val = vv at e
  refine ⟨he, fun c w X us ht hG hA hY => ?_⟩
  subst ht
  have hL := lent_of hlo
  have hto := sub_to (rs := rs) (ts := ts) (l := c.l) hG.ok hL.rlt hL.tlt rfl
  refine Calls.mono (hp (c.sub rs ts c.l) w X us rfl rfl (sub_good hG hL hto) (ARels.ren hto args hL.ar hL.at' hA) ⟨hY.gl, hY.yd⟩) ?_
  rintro e' w' ⟨c2, X2, u, rfl, hg2, hE2, ht2, hu⟩
  have hR := rest_of (s' := s0) hG hL hE2
  have hgone : ∀ i ∈ rs, boxes[i]? ≠ some Box.gone := fun i hi e => by
    refine hL.ng _ (List.mem_map.2 ⟨i, hi, rfl⟩) ?_
    rw [List.getD_eq_getElem?_getD, e]; rfl
  have hsub : ∀ k, (c.sub rs ts c.l).owns k → c.owns k := fun k hk => (sub_owns hG.ok hL.rlt hgone hL.tlt hk).1
  simp only [Option.some.injEq, Prod.mk.injEq] at e
  obtain ⟨e1, e2, e3, e4⟩ := e
  generalize hkb : (vv.refs ++ (bs.take rs.length).flatMap Box.refs).any (fun x => decide (rs.length ≤ x)) = kb at e2 e3
  generalize hkt : (vv.tks ++ (if kb = true then bs else bs.take rs.length).flatMap Box.tks).any (fun x => decide (ts.length ≤ x)) = kt at e3
  have hl2 : c2.l = c.l := hE2.le.l
  have htf := back_to (kb := kb) (kt := kt) hR hg2.ok.tlen hl2
  have hkb' : ∀ i, i ∈ vv.refs ++ (bs.take rs.length).flatMap Box.refs → i < rs.length ∨ kb = true := fun i hi => by
    cases kb with
    | true => exact .inr rfl
    | false =>
      have := List.any_eq_false.1 hkb i hi
      simp at this; exact .inl this
  have hkt' : ∀ i, i ∈ vv.tks ++ (if kb = true then bs else bs.take rs.length).flatMap Box.tks → i < ts.length ∨ kt = true := fun i hi => by
    cases kt with
    | true => exact .inr rfl
    | false =>
      have := List.any_eq_false.1 hkt i hi
      simp at this; exact .inl this
  have hok := back_ok (kb := kb) (kt := kt) hR hg2.ok (bf := backIdx rs boxes.length) (tf := backIdx ts c.toks.length) (fun j k b hjk hj hb => BoxRel.ren htf hb (fun ty cs hcs => by
    subst hcs
    refine ⟨fun i hi => ?_, fun i hi => ?_⟩
    · cases kb with
      | true => exact .inr rfl
      | false =>
        have hjl : j < rs.length := hjk.resolve_right (by simp)
        exact hkb' i (List.mem_append_right _ (List.mem_flatMap.2 ⟨.cells ty cs, List.mem_of_getElem? (by rw [List.getElem?_take, if_pos hjl]; exact hj), hi⟩))
    · refine hkt' i (List.mem_append_right _ (List.mem_flatMap.2 ⟨.cells ty cs, ?_, hi⟩))
      cases kb with
      | true => exact List.mem_of_getElem? hj
      | false =>
        have hjl : j < rs.length := hjk.resolve_right (by simp)
        exact List.mem_of_getElem? (by simp only [Bool.false_eq_true, if_false]; rw [List.getElem?_take, if_pos hjl]; exact hj)))
  refine ⟨c.back rs ts c2 kb kt c.dead, X2, u, by rw [← e1]; cases v0 <;> rfl, ⟨by rw [← e2]; exact hok, by rw [← e4]; exact hg2.held, fun k hk ho => ?_⟩,
    ⟨back_le hR hg2.ok.tlen, hE2.os, hE2.tape, hE2.output, hE2.size, fun k h1 h2 h3 => hE2.keep k h1 (fun ho => h2 (hsub k ho)) h3, fun k ho => ?_, hE2.newX, fun b o h0 h1 => (hE2.ronew b o h0 h1).imp (hsub b) id, rfl⟩, ?_, ?_⟩
  · rcases back_owns hR hg2.ok.tlen ho with ⟨i, _, h2, h3⟩ | ⟨t, x, _, h2, rfl⟩ | h
    · have hm := List.mem_of_getElem? h2
      rcases hE2.newX k hk with q | q
      · exact hG.apart k q (.inl ⟨hm, h3⟩)
      · have := hG.ok.lt k (.inl hm); omega
    · have ho : c.owns x.1 := .inr ⟨t, x, h2, rfl⟩
      rcases hE2.newX x.1 hk with q | q
      · exact hG.apart x.1 q ho
      · have := hG.ok.lt x.1 ho.has; omega
    · exact hg2.apart k hk h
  · rcases back_owns hR hg2.ok.tlen ho with ⟨i, _, h2, h3⟩ | ⟨t, x, _, h2, rfl⟩ | h
    · exact .inl (.inl ⟨List.mem_of_getElem? h2, h3⟩)
    · exact .inl (.inr ⟨t, x, h2, rfl⟩)
    · exact (hE2.new k h).imp (hsub k) id
  · rw [← e3, ← ht2]; rfl
  · rw [← e1]
    have hu : ARel c2 vv u := by rw [← hvv]; exact hu
    have hvr : (v0.ren (backIdx rs boxes.length) (backIdx ts c.toks.length)).val = vv.ren (backIdx rs boxes.length) (backIdx ts c.toks.length) := by rw [← hvv]; cases v0 <;> rfl
    rw [hvr]
    exact ARel.ren htf vv (fun i hi => hkb' i (List.mem_append_left _ hi)) (fun i hi => hkt' i (List.mem_append_left _ hi)) hu
end Ev
