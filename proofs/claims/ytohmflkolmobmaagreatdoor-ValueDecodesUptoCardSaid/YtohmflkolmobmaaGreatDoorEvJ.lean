/- What functions of the program compute, as plain Lean functions, each with its proof by a proved reader; plain laws about them (EvJ). -/
import Derived.Test.YtohmflkolmobmaaGreatDoorEvO
import Derived.OrdersIn
set_option linter.unusedSimpArgs false
set_option linter.unusedVariables false
namespace Ev
open Go Go.RowKit
variable {σ : Type} {P : Program} {glob : Nat → Option (List D)}
def runI (C : Cfg) (H : Hd) (Y : Yd σ) (all : List Oper) : List Nat → St σ → Option (St σ)
  | [], st => some st
  | i :: r, st => match all[i]? with
    | some o => match step1 C H Y true all o st with
      | some (.normal, st) => runI C H Y all r st
      | _ => none
    | none => none
theorem runI_cons {C : Cfg} {H : Hd} {Y : Yd σ} {all : List Oper} {i : Nat} {r : List Nat} {st stf : St σ} (h : runI C H Y all (i :: r) st = some stf) : ∃ o st1, all[i]? = some o ∧ step1 C H Y true all o st = some (.normal, st1) ∧ runI C H Y all r st1 = some stf := by
  simp only [runI] at h
  split at h
  · rename_i o ho
    split at h
    · rename_i st1 h1; exact ⟨o, st1, ho, h1, h⟩
    · cases h
  · cases h
theorem runI_of {C : Cfg} {H : Hd} {Y : Yd σ} {all : List Oper} {i : Nat} {r : List Nat} {st st1 stf : St σ} {o : Oper} (ho : all[i]? = some o) (h1 : step1 C H Y true all o st = some (.normal, st1)) (h2 : runI C H Y all r st1 = some stf) : runI C H Y all (i :: r) st = some stf := by
  simp only [runI, ho, h1, h2]
theorem runI_evOps {C : Cfg} {H : Hd} {Y : Yd σ} {all : List Oper} : ∀ (l : List Oper) (k : Nat) {st stf : St σ}, (∀ j, l[j]? = all[k + j]?) → evOps C H Y true all l st = some (.normal, stf) → runI C H Y all (List.range' k l.length) st = some stf
  | [], _, _, _, _, h => by cases h; rfl
  | o :: l, k, st, stf, hl, h => by
    obtain ⟨st1, h1, h2⟩ := evOps_cons rfl h
    simp only [forgetSt, if_true] at h2
    have h0 : all[k]? = some o := by simpa using (hl 0).symm
    simp only [List.length_cons, List.range'_succ]
    exact runI_of h0 h1 (runI_evOps l (k + 1) (fun j => by have := hl (j + 1); simpa [Nat.add_assoc, Nat.add_comm 1 j] using this) h2)
theorem runI_keeps {C : Cfg} {H : Hd} {Y : Yd σ} {all : List Oper} {t : Nat} : ∀ {r : List Nat} {st stf : St σ}, runI C H Y all r st = some stf → (∀ i ∈ r, ∀ o, all[i]? = some o → o.dst ≠ some t) → stf.env.getD t .undef = st.env.getD t .undef
  | [], st, stf, h, _ => by cases h; rfl
  | i :: r, st, stf, h, hn => by
    obtain ⟨o, st1, ho, h1, h2⟩ := runI_cons h
    obtain ⟨v, e, _⟩ := step1_does h1
    rw [runI_keeps h2 (fun j hj => hn j (List.mem_cons_of_mem _ hj)), e, putA_getD (fun u e1 e2 => hn i (by simp) o ho (by rw [e1, e2]))]
def PairOk (P : Program) (env : List AV) (all : List Oper) (i j : Nat) (a b : Oper) : Prop :=
  edgeT all 4 i b = true ∨ (apartD all a b = true ∧ ((classOf P a.op).clash (classOf P b.op) = false ∨ farOff P env (all.drop i) (all.drop j) a b = true))
theorem freeOf_pair {env : List AV} {all : List Oper} {i : Nat} {la : List Oper} {a : Oper} : ∀ {r : List Oper} {k : Nat}, (∀ j, r[j]? = all[k + j]?) → freeOf P env all i la a r = true → la = all.drop i →
    ∀ (j : Nat) (b : Oper), k ≤ j → all[j]? = some b → PairOk P env all i j a b
  | [], k, hr, _, _, j, b, hj, hb => by
    have := hr (j - k)
    rw [show k + (j - k) = j by omega, hb] at this
    simp at this
  | b0 :: r, k, hr, h, hla, j, b, hj, hb => by
    simp only [freeOf, Bool.and_eq_true, Bool.or_eq_true] at h
    obtain ⟨h1, h2⟩ := h
    have h0 : all[k]? = some b0 := by simpa using (hr 0).symm
    by_cases hjk : j = k
    · subst hjk
      rw [h0] at hb; cases hb
      have hdrop : b0 :: r = all.drop j := by
        apply List.ext_getElem?
        intro m
        rw [List.getElem?_drop]; exact hr m
      rcases h1 with ⟨q1, q2⟩ | q
      · refine .inr ⟨q1, ?_⟩
        rcases q2 with q2 | q2
        · exact .inl (by simpa using q2)
        · refine .inr ?_
          rw [← hla, ← hdrop]; exact q2
      · exact .inl q
    · exact freeOf_pair (k := k + 1) (fun m => by have := hr (m + 1); simpa [Nat.add_assoc, Nat.add_comm 1 m] using this) h2 hla j b (by omega) hb
theorem drawOk_facts {env : List AV} {all : List Oper} : ∀ {r : List Oper} {k : Nat}, (∀ j, r[j]? = all[k + j]?) → drawOk P env all k r = true →
    (∀ (i : Nat) (a : Oper), k ≤ i → all[i]? = some a → ∀ e ∈ a.after, Region.binds .any e = true → e.on < i) ∧ ∀ (i j : Nat) (a b : Oper), k ≤ i → i < j → all[i]? = some a → all[j]? = some b → PairOk P env all i j a b
  | [], k, hr, _ => by
    have hno : ∀ i a, k ≤ i → all[i]? ≠ some a := fun i a hi e => by
      have := hr (i - k)
      rw [show k + (i - k) = i by omega, e] at this
      simp at this
    exact ⟨fun i a hi ha => (hno i a hi ha).elim, fun i j a b hi _ ha => (hno i a hi ha).elim⟩
  | a0 :: r, k, hr, h => by
    simp only [drawOk, Bool.and_eq_true] at h
    obtain ⟨⟨h1, h2⟩, h3⟩ := h
    have h0 : all[k]? = some a0 := by simpa using (hr 0).symm
    have hr' : ∀ j, r[j]? = all[k + 1 + j]? := fun m => by have := hr (m + 1); simpa [Nat.add_assoc, Nat.add_comm 1 m] using this
    obtain ⟨q1, q2⟩ := drawOk_facts hr' h3
    have hdrop : a0 :: r = all.drop k := by
      apply List.ext_getElem?
      intro m
      rw [List.getElem?_drop]; exact hr m
    refine ⟨fun i a hi ha e he hbe => ?_, fun i j a b hi hij ha hb => ?_⟩
    · by_cases hik : i = k
      · subst hik
        rw [h0] at ha; cases ha
        have := List.all_eq_true.1 h1 e (by simpa using he)
        simpa [hbe] using this
      · exact q1 i a (by omega) ha e he hbe
    · by_cases hik : i = k
      · subst hik
        rw [h0] at ha; cases ha
        exact freeOf_pair hr' h2 hdrop j b (by omega) hb
      · exact q2 i j a b (by omega) hij ha hb
theorem noDst_drop {all : List Oper} {t k i : Nat} {o : Oper} (h : noDst t (all.drop k) = true) (hi : k ≤ i) (ho : all[i]? = some o) : o.dst ≠ some t := fun e => by
  have hm : o ∈ all.drop k := List.mem_of_getElem? (i := i - k) (by rw [List.getElem?_drop, show k + (i - k) = i by omega]; exact ho)
  have := List.all_eq_true.1 h o hm
  simp [e] at this
theorem bubble {C : Cfg} {H : Hd} {Y : Yd σ} {all : List Oper} {i : Nat} {b : Oper} (hb : all[i]? = some b) {B : List Nat} {stf : St σ} (hB : ∀ j ∈ B, i < j) :
    ∀ {A : List Nat} {st : St σ}, runI C H Y all (A ++ i :: B) st = some stf → A.Pairwise (· < ·) → (∀ j ∈ A, j < i) → (∀ j ∈ A, ∀ a, all[j]? = some a → PairOk C.P stf.env all j i a b ∧ edgeT all 4 j b = false) → runI C H Y all (i :: (A ++ B)) st = some stf
  | [], st, h, _, _, _ => h
  | j :: A, st, h, hs, hlt, hp => by
    obtain ⟨a, st1, ha, h1, h2⟩ := runI_cons h
    have h3 := bubble hb hB h2 (List.pairwise_cons.1 hs).2 (fun k hk => hlt k (List.mem_cons_of_mem _ hk)) (fun k hk => hp k (List.mem_cons_of_mem _ hk))
    obtain ⟨b', st2, hb', h4, h5⟩ := runI_cons h3
    rw [hb] at hb'; cases hb'
    obtain ⟨hpair, hed⟩ := hp j (by simp) a ha
    have hji := hlt j (by simp)
    have hrest : ∀ k ∈ j :: (i :: (A ++ B)), j ≤ k := fun k hk => by
      rcases List.mem_cons.1 hk with rfl | hk
      · exact Nat.le_refl _
      rcases List.mem_cons.1 hk with rfl | hk
      · omega
      rcases List.mem_append.1 hk with hk | hk
      · exact Nat.le_of_lt ((List.pairwise_cons.1 hs).1 k hk)
      · have := hB k hk; omega
    have hall : runI C H Y all (j :: i :: (A ++ B)) st = some stf := runI_of ha h1 h3
    have hx : ∀ t, noDst t (all.drop j) = true → stf.env.getD t .undef = st.env.getD t .undef := fun t ht => runI_keeps hall (fun k hk o ho => noDst_drop ht (hrest k hk) ho)
    have hy : ∀ t, noDst t (all.drop i) = true → t ∈ looks all b → stf.env.getD t .undef = st.env.getD t .undef := fun t ht hl => runI_keeps hall (fun k hk o ho => by
      by_cases hki : i ≤ k
      · exact noDst_drop ht hki ho
      · have hkA : k ∈ j :: A := by
          rcases List.mem_cons.1 hk with rfl | hk
          · simp
          rcases List.mem_cons.1 hk with rfl | hk
          · omega
          rcases List.mem_append.1 hk with hk | hk
          · exact List.mem_cons_of_mem _ hk
          · have := hB k hk; omega
        obtain ⟨q1, q2⟩ := hp k hkA o ho
        rcases q1 with q1 | ⟨q1, _⟩
        · rw [q1] at q2; cases q2
        · intro e
          simp only [apartD, e, Bool.and_eq_true] at q1
          exact notIn q1.1.1 hl)
    rcases hpair with q | ⟨q1, q2⟩
    · rw [q] at hed; cases hed
    · obtain ⟨st1', h6, h7⟩ := commute h1 h4 q1 (by
        rcases q2 with q2 | q2
        · exact .inl q2
        · refine .inr ?_
          unfold farOff at q2
          split at q2
          · rename_i t x t' y z hao hbo
            simp only [Bool.and_eq_true] at q2
            obtain ⟨⟨r1, r2⟩, r3⟩ := q2
            refine .inl ⟨t, .tmp x, t', .tmp y, z, hao, hbo, ?_⟩
            simp only [operand]
            rw [← hx x r1, ← hy y r2 (List.mem_append_left _ (List.mem_flatMap.2 ⟨.tmp y, by simp [hbo, Op.operands], by simp [tmpOf]⟩))]
            exact r3
          · rename_i t' y z t x hao hbo
            simp only [Bool.and_eq_true] at q2
            obtain ⟨⟨r1, r2⟩, r3⟩ := q2
            refine .inr (.inl ⟨t, .tmp x, t', .tmp y, z, hao, hbo, ?_⟩)
            simp only [operand]
            rw [← hx y r1, ← hy x r2 (List.mem_append_left _ (List.mem_flatMap.2 ⟨.tmp x, by simp [hbo, Op.operands], by simp [tmpOf]⟩))]
            exact r3
          · rename_i t x t' hao hbo
            exact .inr (.inr ⟨t, x, t', hao, hbo⟩)
          · cases q2)
      exact runI_of hb h6 (runI_of ha h7 h5)
theorem ready_mem {ops : Array Oper} {listed : Array Bool} {i : Nat} (h : i ∈ Region.ready .any ops listed) : ∃ o, ops[i]? = some o ∧ listed.getD i true = false ∧ ∀ j, edge j o = true → listed.getD j false = true := by
  simp only [Region.ready, List.mem_filter, List.mem_range, Bool.and_eq_true, Bool.not_eq_eq_eq_not, Bool.not_true] at h
  obtain ⟨h1, h2, h3⟩ := h
  have ho : ops[i]? = some ops[i] := Array.getElem?_eq_getElem h1
  refine ⟨ops[i], ho, h2, fun j hj => ?_⟩
  rw [ho] at h3
  simp only [Option.map_some, Option.getD_some] at h3
  simp only [edge, List.any_eq_true, Bool.and_eq_true, beq_iff_eq] at hj
  obtain ⟨e, he, rfl, hb⟩ := hj
  have := Array.all_eq_true'.1 h3 e (by simpa using he)
  simp only [hb, Bool.not_true, Bool.false_or] at this
  exact this
theorem ready_first {ops : Array Oper} {listed : Array Bool} {i : Nat} {o : Oper} (ho : ops[i]? = some o) (hl : listed.getD i true = false) (h : ∀ e ∈ o.after, Region.binds .any e = true → listed.getD e.on false = true) : i ∈ Region.ready .any ops listed := by
  simp only [Region.ready, List.mem_filter, List.mem_range, Bool.and_eq_true, Bool.not_eq_eq_eq_not, Bool.not_true]
  refine ⟨(Array.getElem?_eq_some_iff.1 ho).1, hl, ?_⟩
  rw [ho]
  simp only [Option.map_some, Option.getD_some]
  refine Array.all_eq_true'.2 (fun e he => ?_)
  cases hb : Region.binds .any e with
  | false => simp
  | true => simp [h e he hb]
def Shut (ops : Array Oper) (listed : Array Bool) : Prop := ∀ (m : Nat) (o : Oper), ops[m]? = some o → listed.getD m false = true → ∀ j, edge j o = true → listed.getD j false = true
theorem Shut.all {ops : Array Oper} {listed : Array Bool} (h : Shut ops listed) : ∀ (n : Nat) (o : Oper), (∀ j, edge j o = true → listed.getD j false = true) → ∀ j, edgeT ops.toList n j o = true → listed.getD j false = true
  | 0, o, ho, j, hj => ho j hj
  | n + 1, o, ho, j, hj => by
    simp only [edgeT, Bool.or_eq_true, List.any_eq_true, Bool.and_eq_true] at hj
    rcases hj with hj | ⟨e, he, hb, hj⟩
    · exact ho j hj
    · split at hj
      · rename_i c hc
        have h1 : listed.getD e.on false = true := ho e.on (by
          simp only [edge, List.any_eq_true, Bool.and_eq_true, beq_iff_eq]
          exact ⟨e, he, rfl, hb⟩)
        exact h.all n c (fun k hk => h e.on c (by simpa using hc) h1 k hk) j hj
      · cases hj
theorem Shut.start (ops : Array Oper) (n : Nat) : Shut ops (Array.replicate n false) := by
  intro m o _ hm
  rw [Array.getD_eq_getD_getElem?] at hm
  by_cases h : m < n <;> simp [h] at hm
theorem Shut.next {ops : Array Oper} {listed : Array Bool} (h : Shut ops listed) {i : Nat} {o : Oper} (ho : ops[i]? = some o) (hed : ∀ j, edge j o = true → listed.getD j false = true) : Shut ops (listed.setIfInBounds i true) := by
  have hup : ∀ j, listed.getD j false = true → (listed.setIfInBounds i true).getD j false = true := fun j hj => by
    rw [Array.getD_eq_getD_getElem?] at hj ⊢
    by_cases hji : i = j
    · subst hji
      by_cases hl : i < listed.size
      · simp [hl]
      · simp [hl] at hj
    · rw [Array.getElem?_setIfInBounds_ne hji]; exact hj
  intro m c hc hm j hj
  by_cases hmi : m = i
  · subst hmi
    rw [ho] at hc; cases hc
    exact hup j (hed j hj)
  · refine hup j (h m c hc ?_ j hj)
    rw [Array.getD_eq_getD_getElem?] at hm ⊢
    rw [Array.getElem?_setIfInBounds_ne (fun e => hmi e.symm)] at hm
    exact hm
variable {L : Held σ} {X0 : Nat → Prop} {c0 : Cx} {w0 : World}
def left (n : Nat) (listed : Array Bool) : List Nat := (List.range n).filter fun i => !listed.getD i true
theorem any_sound {C : Cfg} (hC : C.P = P ∧ C.glob = glob ∧ OddSound P glob C.odd) {H : Hd} (hH : HSound P glob H) {Y : Yd σ} (hY : Env P glob L Y c0) {ops : Array Oper} {rd : Option Nat} {Q : Exit → Act → World → Prop} {ds : List Deferred} {stf : St σ}
    (hok : drawOk C.P stf.env ops.toList 0 ops.toList = true) (hQ : ∀ (a' : Act) (w' : World), a'.defers = ds → Now L X0 c0 w0 stf a'.tmps w' → Q .normal a' w') :
    ∀ (n : Nat) (listed : Array Bool) (a : Act) (w : World) (st : St σ), listed.size = ops.size → Shut ops listed → (left ops.size listed).length = n → runI C H Y ops.toList (left ops.size listed) st = some stf → a.defers = ds → Now L X0 c0 w0 st a.tmps w →
      wpAnyIn (FW rd) 0 P .any ops Q n listed a w := by
  obtain ⟨hback, hpairs⟩ := drawOk_facts (k := 0) (fun j => by simp) hok
  have hmem : ∀ {listed : Array Bool} {i : Nat}, i ∈ left ops.size listed ↔ i < ops.size ∧ listed.getD i true = false := fun {listed i} => by
    simp [left]
  have hempty : ∀ (listed : Array Bool) (a : Act) (w : World) (st : St σ), left ops.size listed = [] → runI C H Y ops.toList (left ops.size listed) st = some stf → a.defers = ds → Now L X0 c0 w0 st a.tmps w → Region.ready .any ops listed = [] ∧ Q .normal a w := fun listed a w st h0 hr hd hN => by
    rw [h0] at hr
    cases hr
    refine ⟨List.eq_nil_iff_forall_not_mem.2 (fun i hi => ?_), hQ a w hd hN⟩
    obtain ⟨o, ho, hl, _⟩ := ready_mem hi
    have : i ∈ left ops.size listed := hmem.2 ⟨(Array.getElem?_eq_some_iff.1 ho).1, hl⟩
    rw [h0] at this; cases this
  intro n
  induction n with
  | zero =>
    intro listed a w st hs hsh hn hr hd hN
    exact hempty listed a w st (List.eq_nil_of_length_eq_zero hn) hr hd hN
  | succ n ih =>
    intro listed a w st hs hsh hn hr hd hN
    refine ⟨fun h0 => ?_, fun i hi => ?_⟩
    · 
      exfalso
      cases hlf : left ops.size listed with
      | nil => rw [hlf] at hn; cases hn
      | cons i r =>
        have hi : i ∈ left ops.size listed := by rw [hlf]; simp
        obtain ⟨q1, q2⟩ := hmem.1 hi
        have ho : ops[i]? = some ops[i] := Array.getElem?_eq_getElem q1
        have : i ∈ Region.ready .any ops listed := ready_first ho q2 (fun e he hbe => by
          have hlt := hback i ops[i] (Nat.zero_le _) (by simp) e he hbe
          cases hg : listed.getD e.on false with
          | true => rfl
          | false =>
            have hel : e.on < ops.size := by omega
            have hin : e.on ∈ left ops.size listed := hmem.2 ⟨hel, by
              rw [Array.getD_eq_getD_getElem?] at hg ⊢
              rw [Array.getElem?_eq_getElem (by omega)] at hg ⊢
              simpa using hg⟩
            have hsorted : (left ops.size listed).Pairwise (· < ·) := List.Pairwise.filter _ List.pairwise_lt_range
            rw [hlf] at hin hsorted
            rcases List.mem_cons.1 hin with e1 | e1
            · omega
            · have := (List.pairwise_cons.1 hsorted).1 _ e1; omega)
        rw [h0] at this; cases this
    · obtain ⟨o, ho, hl, hed⟩ := ready_mem hi
      have hil : i < ops.size := (Array.getElem?_eq_some_iff.1 ho).1
      have hin : i ∈ left ops.size listed := hmem.2 ⟨hil, hl⟩
      have hsorted : (left ops.size listed).Pairwise (· < ·) := List.Pairwise.filter _ List.pairwise_lt_range
      obtain ⟨A, B, hAB⟩ := List.append_of_mem hin
      have hsAB := hsorted
      rw [hAB, List.pairwise_append] at hsAB
      obtain ⟨hA, hiB, hAB'⟩ := hsAB
      have hAi : ∀ j ∈ A, j < i := fun j hj => hAB' j hj i (by simp)
      have hBi : ∀ j ∈ B, i < j := fun j hj => (List.pairwise_cons.1 hiB).1 j hj
      rw [hAB] at hr
      have hto : ops.toList[i]? = some o := by simpa using ho
      have hbub := bubble hto hBi hr hA hAi (fun j hj a ha => by
        refine ⟨hpairs j i a o (Nat.zero_le _) (hAi j hj) ha hto, ?_⟩
        cases hg : edgeT ops.toList 4 j o with
        | false => rfl
        | true =>
          have h1 := hsh.all 4 o hed j hg
          have h2 := (hmem.1 (show j ∈ left ops.size listed by rw [hAB]; simp [hj])).2
          have hjl : j < listed.size := by have := hAi j hj; omega
          rw [Array.getD_eq_getD_getElem?, Array.getElem?_eq_getElem hjl] at h1 h2
          simp at h1 h2
          rw [h1] at h2; cases h2)
      have hleft : left ops.size (listed.setIfInBounds i true) = A ++ B := by
        have : left ops.size (listed.setIfInBounds i true) = (left ops.size listed).filter (fun j => j != i) := by
          unfold left
          rw [List.filter_filter]
          apply List.filter_congr
          intro j hj
          have hjl : j < listed.size := by rw [hs]; simpa using hj
          rw [Array.getD_eq_getD_getElem?, Array.getD_eq_getD_getElem?]
          by_cases hji : j = i
          · subst hji; simp [hjl]
          · rw [Array.getElem?_setIfInBounds_ne (fun e => hji e.symm)]
            simp [hji]
        rw [this, hAB, List.filter_append, List.filter_cons]
        simp only [bne_self_eq_false, Bool.false_eq_true, if_false]
        congr 1
        · exact List.filter_eq_self.2 (fun j hj => by have := hAi j hj; simp; omega)
        · exact List.filter_eq_self.2 (fun j hj => by have := hBi j hj; simp; omega)
      obtain ⟨o', st1, ho', h1, h2⟩ := runI_cons hbub
      rw [hto] at ho'; cases ho'
      unfold wpOpIn
      simp only [ho]
      refine step_sound hC hH (lend_sound hH) hY h1 hN (fun u w' hN' => ?_)
      refine ih _ _ _ st1 (by simp [hs]) (hsh.next ho hed) ?_ (by rw [hleft]; exact h2) (by rw [put_defers]; exact hd) hN'
      rw [hleft]
      have := hn
      rw [hAB] at this
      simp at this ⊢
      omega
theorem draw_sound {C : Cfg} (hC : C.P = P ∧ C.glob = glob ∧ OddSound P glob C.odd) (hm : P.follows .mixedOrders = true) {H : Hd} (hH : HSound P glob H) {Y : Yd σ} (hY : Env P glob L Y c0) {ops : Array Oper} {rd : Option Nat} {Q : Exit → Act → World → Prop} {id : Nat} {st stf : St σ}
    (e : evOps C H Y true ops.toList ops.toList st = some (.normal, stf)) (hok : drawOk C.P stf.env ops.toList 0 ops.toList = true) {a : Act} {w : World} (hN : Now L X0 c0 w0 st a.tmps w.drew)
    (hQ : ∀ (a' : Act) (w' : World), a'.defers = a.defers → Now L X0 c0 w0 stf a'.tmps w' → Q .normal a' w') : (Code.region id ops true).wpIn (FW rd) 0 P Q a w := by
  have hlf : left ops.size (Array.replicate ops.size false) = List.range ops.size := by
    unfold left
    refine List.filter_eq_self.2 (fun i hi => ?_)
    have : i < ops.size := by simpa using hi
    simp [Array.getD_eq_getD_getElem?, this]
  refine wpIn_region_any hm (any_sound hC hH hY hok hQ ops.size _ a _ st (by simp) (Shut.start _ _) (by rw [hlf]; simp) ?_ rfl hN)
  rw [hlf, List.range_eq_range', ← Array.length_toList]
  exact runI_evOps ops.toList 0 (by simp) e
end Ev
