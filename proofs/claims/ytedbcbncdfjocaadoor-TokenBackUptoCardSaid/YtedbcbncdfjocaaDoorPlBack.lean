/- What functions of the program compute, as plain Lean functions, each with its proof by the reader (PlBack); printed by a tool of this work. -/
import Derived.Test.YtedbcbncdfjocaaDoorPlSpell
set_option linter.unusedSimpArgs false
set_option linter.unusedVariables false
namespace Ev
open Go
variable {x q : ByteArray}
theorem rAt_0 {s : ByteArray} (h : 0 < s.size) (ha : bt s 0 < 128) : rAt s 0 = (bt s 0 : Int) := by
  unfold rAt
  rw [show rus s = runesL s 0 from rfl, runesL_cons h]
  show rn s 0 = _
  unfold rn
  rw [dec_ascii ha, if_neg (by intro h; have := congrArg Prod.fst h; dsimp only at this; omega)]
theorem rus_pos {s : ByteArray} (h : 0 < s.size) : 0 < (rus s).length := by
  rw [show rus s = runesL s 0 from rfl, runesL_cons h]; simp
theorem rus_le (s : ByteArray) : (rus s).length ≤ s.size := by
  have := runesL_length (s := s) s.size 0 (by omega)
  exact Nat.le_trans this (by omega)
theorem off_lt {s : ByteArray} {k : Nat} (h : k < (rus s).length) : offAt s k < offAt s (k + 1) ∧ offAt s k < s.size := by
  obtain ⟨o, _, h2, h3, _, h5⟩ := ru_at h
  have := wd_pos s o
  omega
theorem off_z {s : ByteArray} {k : Nat} (h : k ≤ (rus s).length) (hz : offAt s k = 0) : k = 0 := by
  cases k with
  | zero => rfl
  | succ k =>
    have := (off_lt (s := s) (k := k) (by omega)).1
    omega
theorem off_e {s : ByteArray} {k : Nat} (h : k ≤ (rus s).length) (hz : offAt s k = s.size) : k = (rus s).length := by
  by_cases hk : k < (rus s).length
  · have := (off_lt hk).2
    omega
  · omega
theorem ext_right (a b : ByteArray) (i j : Nat) : (a ++ b).extract (a.size + i) (a.size + j) = b.extract i j := ByteArray.extract_append_size_add
theorem ext_left (a b : ByteArray) (i j : Nat) (h : j ≤ a.size) : (a ++ b).extract i j = a.extract i j := by
  rw [ByteArray.extract_append, show j - a.size = 0 by omega]
  have : (b.extract (i - a.size) 0) = (⟨#[]⟩ : ByteArray) := by
    apply ByteArray.ext
    apply Array.ext'
    simp
  rw [this]
  exact app_noB _
theorem wordT_shift (hA : Al x q) (i j : Nat) : wordT (x ++ q) ((rus x).length + i) ((rus x).length + j) = wordT q i j := by
  unfold wordT; rw [offAt_right hA, offAt_right hA, ext_right]
theorem sil_shift (hA : Al x q) {i j : Nat} (h : Sil q i j) : Sil (x ++ q) ((rus x).length + i) ((rus x).length + j) := by
  have hr := fun k => rAt_right hA k
  have hn := nr_app hA
  induction h with
  | @stop i h =>
    refine .stop ?_
    rcases h with h | ⟨h1, h2⟩
    · left; rw [hn]; omega
    · right; rw [hr, Nat.add_assoc, hr]; exact ⟨h1, h2⟩
  | @blank i j h hb r ih => exact .blank (by rw [hn]; omega) (by rw [hr]; exact hb) (by rw [Nat.add_assoc]; exact ih)
  | @com i m j h h1 h2 hm hmn hc he r ih =>
    refine .com (m := (rus x).length + m) (by rw [hn]; omega) (by rw [hr]; exact h1) (by rw [Nat.add_assoc, hr]; exact h2) (by omega) (by rw [hn]; omega) (fun k hk1 hk2 => ?_) ?_ ih
    · obtain ⟨d, rfl⟩ : ∃ d, k = (rus x).length + d := ⟨k - (rus x).length, by omega⟩
      rw [hr]; exact hc d (by omega) (by omega)
    · rw [hr, hn]
      exact he.imp (fun h => by omega) id
theorem word_shift (hA : Al x q) {i j : Nat} (h : Word q i j) : Word (x ++ q) ((rus x).length + i) ((rus x).length + j) := by
  have hr := fun k => rAt_right hA k
  have hn := nr_app hA
  refine ⟨by have := h.le; omega, by have := h.lt; omega, fun k hk1 hk2 => ?_, ?_⟩
  · obtain ⟨d, rfl⟩ : ∃ d, k = (rus x).length + d := ⟨k - (rus x).length, by omega⟩
    rw [hr]; exact h.all d (by omega) (by omega)
  · rw [hr, hn]
    exact h.stop.imp (fun h => by omega) id
theorem eqAt_shift (o : Nat) : eqAt (x ++ q) (x.size + o) = eqAt q o := by
  unfold eqAt
  rw [show bl (x ++ q) = bl x ++ bl q from app_data x q, List.getElem?_append_right (by show (bl x).length ≤ _; rw [show (bl x).length = x.size from (size_list x).symm]; omega)]
  rw [show (bl x).length = x.size from (size_list x).symm, show x.size + o + 1 - x.size = o + 1 by omega]
theorem lex_shift (hA : Al x q) {i j : Nat} {k v : Int} {t : ByteArray} (h : Lex q i k t v j) : Lex (x ++ q) ((rus x).length + i) k t v ((rus x).length + j) := by
  have hr := fun k => rAt_right hA k
  have hn := nr_app hA
  cases h with
  | name h hl hw hnm =>
    have e := wordT_shift hA i j
    rw [← e]
    exact .name (by omega) (by rw [hr]; exact hl) (word_shift hA hw) (by rw [e]; exact hnm)
  | int h hl hd hw hv =>
    have e := wordT_shift hA i j
    exact .int (by omega) (by rw [hr]; exact hl) (by rw [hr]; exact hd) (word_shift hA hw) (by rw [e]; exact hv)
  | sym h h35 hl hw ht hf hnm =>
    have e := wordT_shift hA (i + 1) j
    rw [← e] at ht hf hnm ⊢
    exact .sym (by omega) (by rw [hr]; exact h35) (by rw [Nat.add_assoc, hr]; exact hl) (word_shift hA hw) ht hf hnm
  | @mark m h hl hd h35 hm =>
    rw [← Nat.add_assoc]
    refine .mark (by omega) (by rw [hr]; exact hl) (by rw [hr]; exact hd) (by rw [hr]; exact h35) ?_
    rw [offAt_right hA, eqAt_shift, get_app, if_neg (by omega), show x.size + offAt q i - x.size = offAt q i by omega]
    exact hm
theorem scan_shift (hA : Al x q) {i : Nat} {ts : List PTok} (h : ScanR q i ts) : ScanR (x ++ q) ((rus x).length + i) ts := by
  induction h with
  | fin h he => exact .fin (sil_shift hA h) (by rw [nr_app hA]; omega)
  | tok h hl r ih => exact .tok (sil_shift hA h) (lex_shift hA hl) ih
theorem scan_pre {s : ByteArray} {i i' : Nat} {ts : List PTok} (hp : ∀ j, Sil s i j → Sil s i' j) (h : ScanR s i ts) : ScanR s i' ts := by
  cases h with
  | fin h he => exact .fin (hp _ h) he
  | tok h hl r => exact .tok (hp _ h) hl r
def Bl (q : ByteArray) : Prop := q.size = 0 ∨ (0 < q.size ∧ (bt q 0 = 9 ∨ bt q 0 = 10 ∨ bt q 0 = 13 ∨ bt q 0 = 32))
theorem bl_al (x : ByteArray) {q : ByteArray} (h : Bl q) : Al x q := al_sep (h.imp id fun h => by omega)
theorem bl_end {x q : ByteArray} (h : Bl q) : (rus (x ++ q)).length = (rus x).length ∨ (((rus x).length < (rus (x ++ q)).length) ∧ blB (rAt (x ++ q) ((rus x).length)) = true ∧ restB (rAt (x ++ q) ((rus x).length)) = false ∧ rAt (x ++ q) ((rus x).length) ≠ 47) := by
  have hA := bl_al x h
  have hn := nr_app hA
  rcases h with h | ⟨h, hb⟩
  · left
    have := rus_le q
    omega
  · right
    have hp := rus_pos h
    have e : rAt (x ++ q) ((rus x).length) = (bt q 0 : Int) := by
      have := rAt_right hA 0
      rw [Nat.add_zero] at this
      rw [this, rAt_0 h (by omega)]
    refine ⟨by omega, ?_⟩
    rw [e]
    rcases hb with hb | hb | hb | hb <;> (rw [hb]; exact ⟨by decide, by decide, by decide⟩)
theorem word_left {i : Nat} (hq : Bl q) (h : Word x i ((rus x).length)) : Word (x ++ q) i ((rus x).length) := by
  have hA := bl_al x hq
  have hn := nr_app hA
  refine ⟨h.le, by omega, fun k hk1 hk2 => ?_, ?_⟩
  · rw [rAt_left hA hk2]; exact h.all k hk1 hk2
  · rcases bl_end (x := x) hq with e | ⟨_, _, e, _⟩
    · exact .inl e.symm
    · exact .inr e
theorem wordT_left {i : Nat} (hA : Al x q) (hi : i ≤ (rus x).length) : wordT (x ++ q) i ((rus x).length) = wordT x i ((rus x).length) := by
  unfold wordT
  rw [offAt_left hA hi, offAt_left hA (Nat.le_refl _), ext_left _ _ _ _ (off_le _)]
theorem eqAt_left (hq : Bl q) (h : 0 < x.size) : eqAt (x ++ q) 0 = eqAt x 0 := by
  unfold eqAt
  have e1 : (bl x).length = x.size := (size_list x).symm
  rw [show bl (x ++ q) = bl x ++ bl q from app_data x q]
  by_cases h1 : 1 < x.size
  · rw [List.getElem?_append_left (by omega)]
  · rw [List.getElem?_append_right (by omega), List.getElem?_eq_none (l := bl x) (by omega), e1, show 0 + 1 - x.size = 0 by omega]
    rcases hq with hq | ⟨hq, hb⟩
    · rw [List.getElem?_eq_none (by rw [show (bl q).length = q.size from (size_list q).symm]; omega)]
    · cases hd : (bl q)[0]? with
      | none => rfl
      | some y =>
        have : bt q 0 = y.toNat := by
          unfold bt
          rw [get_bang_eq, show q.data.toList[0]? = some y from hd]; rfl
        have hy : y ≠ 61 := by
          rintro rfl
          have : bt q 0 = 61 := this
          omega
        simp [hy]
structure Whole (x : ByteArray) (p : PTok) : Prop where
  lex : Lex x 0 p.1 p.2.1 p.2.2 ((rus x).length)
  sil : blB (rAt x 0) = false ∧ ¬ (rAt x 0 = 47 ∧ rAt x 1 = 47)
theorem lex_left {k v : Int} {t : ByteArray} (hq : Bl q) {j : Nat} (hj : j = (rus x).length) (h : Lex x 0 k t v j) : Lex (x ++ q) 0 k t v j := by
  have hA := bl_al x hq
  have hn := nr_app hA
  have hx : 0 < (rus x).length → 0 < x.size := fun h => Nat.lt_of_lt_of_le h (rus_le x)
  cases h with
  | name h hl hw hnm =>
    subst hj
    have e := wordT_left hA (i := 0) (Nat.zero_le _)
    rw [← e] at hnm ⊢
    exact .name (by omega) (by rw [rAt_left hA h]; exact hl) (word_left hq hw) hnm
  | int h hl hd hw hv =>
    subst hj
    have e := wordT_left hA (i := 0) (Nat.zero_le _)
    rw [← e] at hv
    exact .int (by omega) (by rw [rAt_left hA h]; exact hl) (by rw [rAt_left hA h]; exact hd) (word_left hq hw) hv
  | sym h h35 hl hw ht hf hnm =>
    subst hj
    have h1 : 0 + 1 < (rus x).length := by
      have := hw.le
      by_cases h1 : 0 + 1 < (rus x).length
      · exact h1
      · have : rAt x (0 + 1) = 0 := by unfold rAt; rw [List.getElem?_eq_none (by omega)]
        rw [this] at hl; exact absurd hl (by decide)
    have e := wordT_left hA (i := 0 + 1) (by omega)
    rw [← e] at ht hf hnm ⊢
    exact .sym (by omega) (by rw [rAt_left hA h]; exact h35) (by rw [rAt_left hA h1]; exact hl) (word_left hq hw) ht hf hnm
  | mark h hl hd h35 hm =>
    have g : (x ++ q).get! 0 = x.get! 0 := by rw [get_app, if_pos (hx h)]
    refine .mark (by omega) (by rw [rAt_left hA h]; exact hl) (by rw [rAt_left hA h]; exact hd) (by rw [rAt_left hA h]; exact h35) ?_
    rw [offAt_0] at hm ⊢
    rw [eqAt_left hq (hx h), g]
    exact hm
theorem sil_left {p : PTok} (hq : Bl q) (h : Whole x p) : Sil (x ++ q) 0 0 := by
  have hA := bl_al x hq
  have hn := nr_app hA
  have hp := (lex_lt h.lex).1
  refine .stop (.inr ?_)
  rw [rAt_left hA hp]
  refine ⟨h.sil.1, fun hc => ?_⟩
  by_cases h1 : 1 < (rus x).length
  · rw [rAt_left hA h1] at hc
    exact h.sil.2 hc
  · obtain hx1 : (rus x).length = 1 := by omega
    rcases bl_end (x := x) hq with e | ⟨_, _, _, e⟩
    · have : rAt (x ++ q) (0 + 1) = 0 := by unfold rAt; rw [List.getElem?_eq_none (by omega)]
      rw [this] at hc
      exact absurd hc.2 (by decide)
    · rw [hx1] at e
      exact e hc.2
theorem scan_tok {p : PTok} {ts : List PTok} (hq : Bl q) (h : Whole x p) (r : ScanR q 0 ts) : ScanR (x ++ q) 0 (p :: ts) := by
  have := scan_shift (bl_al x hq) r
  rw [Nat.add_zero] at this
  exact .tok (sil_left hq h) (lex_left hq rfl h.lex) this
theorem sil_0 {s : ByteArray} {j : Nat} (h : Sil s 0 j) (hb : blB (rAt s 0) = false) (h47 : rAt s 0 ≠ 47) : j = 0 := by
  cases h with
  | stop => rfl
  | blank _ hb' _ => rw [hb] at hb'; cases hb'
  | com _ h1 _ _ _ _ _ _ => exact absurd h1 h47
theorem sil_00 {s : ByteArray} (h : Sil s 0 0) (hl : 0 < (rus s).length) : blB (rAt s 0) = false ∧ ¬ (rAt s 0 = 47 ∧ rAt s 1 = 47) := by
  cases h with
  | stop h => exact h.resolve_left (by omega)
  | blank _ _ r => exact absurd (sil_le r) (by omega)
  | com _ _ _ hm _ _ _ r => exact absurd (sil_le r) (by omega)
theorem asc_runes {s : ByteArray} (h : ∀ k, k < s.size → bt s k < 128) : ∀ (d i : Nat), s.size - i ≤ d → i ≤ s.size → (runesL s i).length = s.size - i ∧ ∀ k, i + k < s.size → ∃ r, (runesL s i)[k]? = some r ∧ r.1 = (bt s (i + k) : Int) := by
  intro d
  induction d with
  | zero =>
    intro i hd hi
    rw [runesL_nil (by omega)]
    exact ⟨by simp; omega, fun k hk => by omega⟩
  | succ d ih =>
    intro i hd hi
    by_cases hlt : i < s.size
    · have e := dec_ascii (h i hlt)
      have w : wd s i = 1 := by unfold wd; rw [e]
      have r : rn s i = (bt s i : Int) := by
        have := h i hlt
        unfold rn
        rw [e, if_neg (by intro q; have := congrArg Prod.fst q; dsimp only at this; omega)]
      obtain ⟨q1, q2⟩ := ih (i + 1) (by omega) (by omega)
      rw [runesL_cons hlt, w, r]
      refine ⟨by rw [List.length_cons, q1]; omega, fun k hk => ?_⟩
      cases k with
      | zero => exact ⟨_, rfl, rfl⟩
      | succ k =>
        obtain ⟨r', e1, e2⟩ := q2 k (by omega)
        exact ⟨r', e1, by rw [e2, show i + (k + 1) = i + 1 + k by omega]⟩
    · rw [runesL_nil (by omega)]
      exact ⟨by simp; omega, fun k hk => by omega⟩
theorem asc_len {s : ByteArray} (h : ∀ k, k < s.size → bt s k < 128) : (rus s).length = s.size := (asc_runes h s.size 0 (by omega) (by omega)).1
theorem asc_at {s : ByteArray} (h : ∀ k, k < s.size → bt s k < 128) {k : Nat} (hk : k < s.size) : rAt s k = (bt s k : Int) := by
  obtain ⟨r, e1, e2⟩ := (asc_runes h s.size 0 (by omega) (by omega)).2 k (by omega)
  rw [Nat.zero_add] at e2
  unfold rAt
  rw [show (rus s)[k]? = some r from e1]
  exact e2
theorem bt_list {l : List UInt8} {k : Nat} (hk : k < l.length) : bt (⟨l.toArray⟩ : ByteArray) k = (l[k]).toNat := by
  unfold bt
  rw [get_bang_eq, List.toList_toArray, List.getElem?_eq_getElem hk]
  rfl
theorem ext_size {s : ByteArray} {i j : Nat} : (wordT s i j).size = offAt s j - offAt s i := by
  unfold wordT; rw [ByteArray.size_extract]; have := off_le (s := s) j; omega
theorem whole_of {p : PTok} (hv : i64 p.2.2) (hx : x = spS p.1 p.2.1 p.2.2) (h : ScanR x 0 [p]) : Whole x p := by
  obtain ⟨k, t, v⟩ := p
  dsimp only at hv hx
  cases h with
  | @tok i j j' _ _ _ _ hs hl r =>
    have hlt := (lex_lt hl).1
    have hle := sil_le hs
    have key : j = 0 → j' = (rus x).length → Whole x (k, t, v) := by
      rintro rfl rfl
      exact ⟨hl, sil_00 hs hlt⟩
    have hxs : 0 < x.size := Nat.lt_of_lt_of_le (by omega) (rus_le x)
    have hl' := hl
    cases hl with
    | name h hl hw hn =>
      have e : x.size = offAt x j' - offAt x j := by
        have := congrArg ByteArray.size hx
        rw [this]; exact ext_size
      have := off_le (s := x) j'
      exact key (off_z (s := x) (by omega) (by omega)) (off_e hw.lt (by omega))
    | sym h h35 hl hw ht hf hn =>
      have e : x.size = 1 + (offAt x j' - offAt x (j + 1)) := by
        have := congrArg ByteArray.size hx
        rw [this]
        show ((⟨#[35]⟩ : ByteArray) ++ wordT x (j + 1) j').size = _
        rw [app_size, ext_size]; rfl
      have := off_le (s := x) j'
      have := (off_lt h).1
      have := off_leL (s := x) hw.le
      exact key (off_z (s := x) (by omega) (by omega)) (off_e hw.lt (by omega))
    | @mark m h hl hd h35 hm =>
      have hx : x = (⟨m.toArray⟩ : ByteArray) := hx
      have hsz : x.size = m.length := by rw [hx]; rfl
      have hmem := List.mem_of_find?_eq_some hm
      have hpre := List.find?_some hm
      have ho := (off_lt h).2
      have hoff : offAt x j + m.length ≤ x.size := by
        rcases pMs_ok m hmem with ⟨a, rfl⟩ | ⟨a, rfl⟩
        · show _ + 1 ≤ _; omega
        · simp only [preB, Bool.and_eq_true, eqAt, beq_iff_eq] at hpre
          have := (List.getElem?_eq_some_iff.1 hpre.2).1
          rw [show (bl x).length = x.size from (size_list x).symm] at this
          show _ + 2 ≤ _; omega
      have hj := off_z (s := x) (k := j) (by omega) (by omega)
      subst hj
      refine key rfl ?_
      have hall : ∀ k, k < x.size → bt x k < 128 := by
        intro k hk
        have e : bt x k = (m[k]'(by omega)).toNat := by
          have := bt_list (l := m) (k := k) (by omega)
          rw [← hx] at this
          exact this
        rw [e]
        have : ∀ m ∈ pMs, ∀ b ∈ m, b.toNat < 128 := by decide
        exact this m hmem _ (List.getElem_mem _)
      rw [asc_len hall, hsz]; omega
    | @int j' v h hl hd hw hv' =>
      have hx : x = (⟨(Lib.itoa v).toArray⟩ : ByteArray) := hx
      by_cases hn : v < 0
      · exfalso
        have hi : Lib.itoa v = 45 :: Lib.decDigits v.natAbs := by unfold Lib.itoa; rw [if_pos hn]
        have hb : bt x 0 = 45 := by
          have := bt_list (l := Lib.itoa v) (k := 0) (by rw [hi]; simp)
          rw [← hx] at this
          rw [this]; simp [hi]
        have hr := rAt_0 hxs (by omega)
        rw [hb] at hr
        have := sil_0 hs (by rw [hr]; decide) (by rw [hr]; decide)
        subst this
        rw [hr] at hd
        exact absurd hd (by decide)
      · have hi : Lib.itoa v = Lib.decDigits v.toNat := by unfold Lib.itoa; rw [if_neg hn]
        have hdg := dec_digs v.toNat
        have hb : ∀ k, k < x.size → 48 ≤ bt x k ∧ bt x k ≤ 57 := by
          intro k hk
          have hk' : k < (Lib.itoa v).length := by rw [hx] at hk; exact hk
          have e := bt_list (l := Lib.itoa v) (k := k) hk'
          rw [← hx] at e
          rw [e]
          have hall : ∀ c ∈ Lib.itoa v, isDig c := by rw [hi]; exact hdg
          exact hall _ (List.getElem_mem hk')
        have hall : ∀ k, k < x.size → bt x k < 128 := fun k hk => by have := hb k hk; omega
        have hlen := asc_len hall
        have hat : ∀ k, k < x.size → 48 ≤ rAt x k ∧ rAt x k ≤ 57 := fun k hk => by
          rw [asc_at hall hk]
          have := hb k hk
          omega
        have h0 := hat 0 hxs
        have hz := sil_0 hs (by
          unfold blB
          rw [beq_eq_false_iff_ne.2 (show rAt x 0 ≠ 32 by omega), beq_eq_false_iff_ne.2 (show rAt x 0 ≠ 9 by omega), beq_eq_false_iff_ne.2 (show rAt x 0 ≠ 10 by omega), beq_eq_false_iff_ne.2 (show rAt x 0 ≠ 13 by omega)]
          rfl) (by omega)
        refine key hz ?_
        by_cases hjn : j' = (rus x).length
        · exact hjn
        rcases hw.stop with q | q
        · exact q
        · exfalso
          have hjl : j' < (rus x).length := by
            have := hw.lt
            exact Nat.lt_of_le_of_ne hw.lt hjn
          have := hat j' (by omega)
          unfold restB at q
          rw [decide_eq_true (show rAt x j' ≥ 48 by omega), decide_eq_true (show rAt x j' ≤ 57 by omega)] at q
          cases hlb : letB (rAt x j') <;> (rw [hlb] at q; exact absurd q (by simp))
theorem one_asc {b : UInt8} (hb : b.toNat < 128) : ∀ k, k < (⟨#[b]⟩ : ByteArray).size → bt (⟨#[b]⟩ : ByteArray) k < 128 := by
  intro k hk
  have hk : k < 1 := hk
  obtain rfl : k = 0 := by omega
  exact hb
theorem gap_blank {b : UInt8} {ts : List PTok} (hb : b = 9 ∨ b = 10 ∨ b = 13 ∨ b = 32) (r : ScanR q 0 ts) : ScanR ((⟨#[b]⟩ : ByteArray) ++ q) 0 ts := by
  have hb' : b.toNat < 128 := by rcases hb with rfl | rfl | rfl | rfl <;> decide
  have hA : Al (⟨#[b]⟩ : ByteArray) q := al_end hb'
  have hl : (rus (⟨#[b]⟩ : ByteArray)).length = 1 := asc_len (one_asc hb')
  have h := scan_shift hA r
  rw [hl] at h
  refine scan_pre (fun j hs => .blank (by rw [nr_app hA, hl]; omega) ?_ hs) h
  rw [rAt_left hA (by omega), rAt_0 (s := (⟨#[b]⟩ : ByteArray)) (by show 0 < 1; omega) hb']
  rcases hb with rfl | rfl | rfl | rfl <;> decide
def cB : ByteArray := ⟨#[47, 47, 32, 35, 32, 33, 32, 195, 169]⟩
theorem cB_rus : (rus cB).map (·.1) = [47, 47, 32, 35, 32, 33, 32, 233] := by kernel_rfl
theorem cB_len : (rus cB).length = 8 := by
  have := congrArg List.length cB_rus
  rwa [List.length_map] at this
theorem cB_at (k : Nat) (hk : k < 8) : rAt cB k = ([47, 47, 32, 35, 32, 33, 32, 233] : List Int)[k]'hk := by
  have h := cB_rus
  have e : ((rus cB).map (·.1))[k]? = some (([47, 47, 32, 35, 32, 33, 32, 233] : List Int)[k]'hk) := by rw [h]; exact List.getElem?_eq_getElem hk
  rw [List.getElem?_map] at e
  unfold rAt
  cases hq : (rus cB)[k]? with
  | none => rw [hq] at e; cases e
  | some r => rw [hq] at e; exact Option.some.inj e
theorem gap_com {ts : List PTok} (h0 : 0 < q.size) (h10 : bt q 0 = 10) (r : ScanR q 0 ts) : ScanR (cB ++ q) 0 ts := by
  have hA : Al cB q := al_sep (.inr (by omega))
  have hl := cB_len
  have h := scan_shift hA r
  have hN := nr_app hA
  rw [hl, Nat.add_zero] at h
  refine scan_pre (fun j hs => .com (m := 8) (by omega) ?_ ?_ (by omega) (by omega) (fun k _ hk => ?_) (.inr ?_) hs) h
  · rw [rAt_left hA (by omega), cB_at 0 (by omega)]; rfl
  · rw [rAt_left hA (by omega), cB_at 1 (by omega)]; rfl
  · rw [rAt_left hA (by omega), cB_at k hk]
    have : ∀ k, ∀ hk : k < 8, ([47, 47, 32, 35, 32, 33, 32, 233] : List Int)[k]'hk ≠ 10 := by decide
    exact this k hk
  · have := rAt_right hA 0
    rw [hl, Nat.add_zero] at this
    rw [this, rAt_0 h0 (by omega), h10]; rfl
def gapB (n : Int) : ByteArray := bif (n == 1) then (⟨#[9, 32]⟩ : ByteArray) else (bif (n == 2) then (⟨#[32, 47, 47, 32, 35, 32, 33, 32, 195, 169, 10]⟩ : ByteArray) else (bif (n == 3) then (⟨#[13, 10]⟩ : ByteArray) else (⟨#[32]⟩ : ByteArray)))
theorem gap_cases (n : Int) : gapB n = (⟨#[9, 32]⟩ : ByteArray) ∨ gapB n = (⟨#[32, 47, 47, 32, 35, 32, 33, 32, 195, 169, 10]⟩ : ByteArray) ∨ gapB n = (⟨#[13, 10]⟩ : ByteArray) ∨ gapB n = (⟨#[32]⟩ : ByteArray) := by
  unfold gapB
  cases (n == 1) <;> cases (n == 2) <;> cases (n == 3) <;> simp
theorem bl_of {b : UInt8} {l : List UInt8} (hb : b = 9 ∨ b = 10 ∨ b = 13 ∨ b = 32) (q : ByteArray) : Bl ((⟨(b :: l).toArray⟩ : ByteArray) ++ q) := by
  refine .inr ⟨by rw [app_size, size_mk]; simp; omega, ?_⟩
  have e : bt ((⟨(b :: l).toArray⟩ : ByteArray) ++ q) 0 = b.toNat := by
    rw [bt_app, if_pos (by rw [size_mk]; simp)]
    exact bt_list (l := b :: l) (k := 0) (by simp)
  rw [e]
  rcases hb with rfl | rfl | rfl | rfl <;> decide
theorem gap_scan (n : Int) {ts : List PTok} (r : ScanR q 0 ts) : ScanR (gapB n ++ q) 0 ts ∧ Bl (gapB n ++ q) := by
  rcases gap_cases n with h | h | h | h <;> rw [h]
  · refine ⟨?_, bl_of (b := 9) (l := [32]) (by decide) q⟩
    rw [show (⟨#[9, 32]⟩ : ByteArray) = ⟨#[9]⟩ ++ ⟨#[32]⟩ from rfl, app_as]
    exact gap_blank (by decide) (gap_blank (by decide) r)
  · refine ⟨?_, bl_of (b := 32) (l := [47, 47, 32, 35, 32, 33, 32, 195, 169, 10]) (by decide) q⟩
    rw [show (⟨#[32, 47, 47, 32, 35, 32, 33, 32, 195, 169, 10]⟩ : ByteArray) = ⟨#[32]⟩ ++ (cB ++ ⟨#[10]⟩) from rfl, app_as, app_as]
    refine gap_blank (by decide) (gap_com ?_ ?_ (gap_blank (by decide) r))
    · rw [app_size]; show 0 < 1 + _; omega
    · rw [bt_app, if_pos (by show 0 < 1; omega)]; rfl
  · refine ⟨?_, bl_of (b := 13) (l := [10]) (by decide) q⟩
    rw [show (⟨#[13, 10]⟩ : ByteArray) = ⟨#[13]⟩ ++ ⟨#[10]⟩ from rfl, app_as]
    exact gap_blank (by decide) (gap_blank (by decide) r)
  · exact ⟨gap_blank (by decide) r, bl_of (b := 32) (l := []) (by decide) q⟩
theorem scan_noB : ScanR noB 0 [] := .fin (.stop (.inl (by have := rus_le noB; have e : noB.size = 0 := rfl; omega))) (by have := rus_le noB; have e : noB.size = 0 := rfl; omega)
def tsOf : List Tok → List PTok
  | [] => []
  | t :: r => bif (t.1 == 0) then tsOf r else pT t :: tsOf r
def textS (f : Nat → Int) : List ByteArray → Nat → ByteArray
  | [], _ => noB
  | x :: r, k => x ++ (gapB (f k) ++ textS f r (k + 1))
theorem join_scan (f : Nat → Int) : ∀ (l : List Tok) (xs : List ByteArray), (∀ t ∈ l, okT t) → joinTk l = some xs → ScanR (textJ xs) 0 (tsOf l) ∧ ScanR (tailJ xs) 0 (tsOf l) ∧ Bl (tailJ xs) ∧ (∀ k, ScanR (textS f xs k) 0 (tsOf l)) ∧ ((l.map pT = tsOf l ∧ ∀ t ∈ l, t.1 ≠ 0) ∨ (l.map pT = tsOf l ++ [endT] ∧ ∃ r t, l = r ++ [t] ∧ t.1 = 0))
  | [], xs, _, h => by
    cases h
    exact ⟨scan_noB, scan_noB, .inl rfl, fun _ => scan_noB, .inl ⟨rfl, by simp⟩⟩
  | t :: r, xs, ho, h => by
    simp only [joinTk] at h
    cases hsp : spT t with
    | none => rw [hsp] at h; cases h
    | some x =>
      rw [hsp] at h
      simp only at h
      cases hc : ((t.1 == 0) && !r.isEmpty) with
      | true => rw [hc] at h; cases h
      | false =>
        rw [hc, cond_false] at h
        obtain ⟨ys, h1, rfl⟩ := Option.map_eq_some_iff.1 h
        obtain ⟨q1, q2, q3, q4, q5⟩ := join_scan f r ys (fun q hq => ho q (by simp [hq])) h1
        have hspc := (spT_spec (ho t (by simp))).2.2 x hsp
        have hbl : ∀ q, Bl (spB ++ q) := fun q => bl_of (b := 32) (l := []) (by decide) q
        rcases hspc.2 with hsc | ⟨he, hx⟩
        · have hw := whole_of (p := pT t) (ho t (by simp)).2 hspc.1 hsc
          have hk : t.1 ≠ 0 := scanR_ne hsc (pT t) (by simp)
          have hts : tsOf (t :: r) = pT t :: tsOf r := by
            show (bif (t.1 == 0) then _ else _) = _
            rw [beq_eq_false_iff_ne.2 hk, cond_false]
          rw [hts]
          have hT : ScanR (textJ (x :: ys)) 0 (pT t :: tsOf r) := scan_tok q3 hw q2
          refine ⟨hT, gap_blank (by decide) hT, hbl _, fun k => ?_, ?_⟩
          · obtain ⟨g1, g2⟩ := gap_scan (f k) (q4 (k + 1))
            exact scan_tok g2 hw g1
          · rcases q5 with ⟨e1, e2⟩ | ⟨e1, rr, tt, e2, e3⟩
            · exact .inl ⟨by rw [List.map_cons, e1], fun q hq => (List.mem_cons.1 hq).elim (fun e => e ▸ hk) (e2 q)⟩
            · exact .inr ⟨by rw [List.map_cons, e1]; rfl, t :: rr, tt, by rw [e2]; rfl, e3⟩
        · have hk : t.1 = 0 := congrArg (fun p : PTok => p.1) he
          have hr : r = [] := by
            rw [hk] at hc
            cases r with
            | nil => rfl
            | cons => cases hc
          subst hr
          cases h1
          subst hx
          have hts : tsOf [t] = [] := by
            show (bif (t.1 == 0) then _ else _) = _
            rw [hk]; rfl
          rw [hts]
          have hT : ScanR (textJ [noB]) 0 [] := scan_noB
          refine ⟨hT, gap_blank (by decide) hT, hbl _, fun k => ?_, .inr ⟨by rw [List.map_cons, he]; rfl, [], t, rfl, hk⟩⟩
          show ScanR (noB ++ (gapB (f k) ++ noB)) 0 []
          rw [noB_app]
          exact (gap_scan (f k) scan_noB).1
def strip (t : Tok) : Tok := (t.1, (0, 0, 0), t.2.2.1, t.2.2.2)
theorem strip_pT {a b : List Tok} (h : a.map pT = b.map pT) : a.map strip = b.map strip := by
  have : ∀ l : List Tok, l.map strip = (l.map pT).map fun p => ((p.1, (0, 0, 0), p.2.1, p.2.2) : Tok) := fun l => by rw [List.map_map]; rfl
  rw [this, this, h]
theorem toks_len {s : ByteArray} {ts : List PTok} {toks : List Tok} (hs : s.size ≤ 67108864) (h : ScanR s 0 ts) (e : toks.map pT = ts ++ [endT]) : toks.length ≤ 67108868 := by
  have h1 := scanR_len h
  have h2 := N_le hs
  have := congrArg List.length e
  rw [List.length_map, List.length_append, List.length_singleton] at this
  omega
end Ev
