/- What functions of the program compute, as plain Lean functions, each with its proof by the reader (PlLex); printed by a tool of this work. -/
import Derived.Test.YtedbcbncdfjocaaDoorPlLoc
set_option linter.unusedSimpArgs false
set_option linter.unusedVariables false
namespace Ev
open Go
def blB (r : Int) : Bool := (bif (bif (bif (r == 32) then true else (r == 9)) then true else (r == 10)) then true else (r == 13))
inductive Sil (u : ByteArray) : Nat → Nat → Prop
  | stop {i : Nat} (h : ¬ i < (rus u).length ∨ (blB (rAt u i) = false ∧ ¬ (rAt u i = 47 ∧ rAt u (i + 1) = 47))) : Sil u i i
  | blank {i j : Nat} (h : i < (rus u).length) (hb : blB (rAt u i) = true) (r : Sil u (i + 1) j) : Sil u i j
  | com {i m j : Nat} (h : i < (rus u).length) (h1 : rAt u i = 47) (h2 : rAt u (i + 1) = 47) (hm : i < m) (hn : m ≤ (rus u).length) (hc : ∀ k, i ≤ k → k < m → rAt u k ≠ 10) (he : m = (rus u).length ∨ rAt u m = 10) (r : Sil u m j) : Sil u i j
structure Word (u : ByteArray) (i j : Nat) : Prop where
  le : i ≤ j
  lt : j ≤ (rus u).length
  all : ∀ k, i ≤ k → k < j → restB (rAt u k) = true
  stop : j = (rus u).length ∨ restB (rAt u j) = false
def digB (r : Int) : Bool := bif (decide (r ≥ 48)) then (decide (r ≤ 57)) else false
def wordT (u : ByteArray) (i j : Nat) : ByteArray := u.extract (offAt u i) (offAt u j)
inductive Lex (u : ByteArray) (i : Nat) : Int → ByteArray → Int → Nat → Prop
  | name {j : Nat} (h : i < (rus u).length) (hl : letB (rAt u i) = true) (hw : Word u i j) (hn : isName (wordT u i j) = true) : Lex u i 1 (wordT u i j) 0 j
  | int {j : Nat} {v : Int} (h : i < (rus u).length) (hl : letB (rAt u i) = false) (hd : digB (rAt u i) = true) (hw : Word u i j) (hv : n42 (wordT u i j) = some (v, 0)) : Lex u i 2 (⟨#[]⟩ : ByteArray) v j
  | sym {j : Nat} (h : i < (rus u).length) (h35 : rAt u i = 35) (hl : letB (rAt u (i + 1)) = true) (hw : Word u (i + 1) j) (ht : sEq (wordT u (i + 1) j) tT = false) (hf : sEq (wordT u (i + 1) j) tF = false) (hn : isName (wordT u (i + 1) j) = true) : Lex u i 3 (wordT u (i + 1) j) 0 j
  | mark {m : List UInt8} (h : i < (rus u).length) (hl : letB (rAt u i) = false) (hd : digB (rAt u i) = false) (h35 : rAt u i ≠ 35) (hm : fmB pMs (u.get! (offAt u i)) (eqAt u (offAt u i)) = some m) : Lex u i 4 (⟨m.toArray⟩ : ByteArray) 0 (i + m.length)
variable {s : ByteArray}
theorem com_run (hs : s.size ≤ 67108864) {m : Nat} (hm : m ≤ (rus s).length) (he : m = (rus s).length ∨ rAt s m = 10) : ∀ (d n k : Nat), m - k ≤ d → d < n → k ≤ m → (∀ l, k ≤ l → l < m → rAt s l ≠ 10) → L60_3 n (s, Tl s, (k : Int)) () = some (O60_3.x0 s (Tl s) (m : Int), ()) := by
  have hN := N_le hs
  intro d
  induction d with
  | zero =>
    intro n k hd hn hk hc
    obtain ⟨n, rfl⟩ : ∃ m, n = m + 1 := ⟨n - 1, by omega⟩
    obtain rfl : k = m := by omega
    rw [L60_3_step, T_len]
    rcases he with he | he
    · rw [decide_eq_false (by omega), cond_false, ask_of rfl]
    · by_cases h : k < (rus s).length
      · rw [decide_eq_true (by omega), cond_true, n87_0 k _ (by omega), Option.bind_some]
        dsimp only
        rw [he, show ((10 : Int) != 10) = false from rfl, cond_false, ask_of rfl]
      · rw [decide_eq_false (by omega), cond_false, ask_of rfl]
  | succ d ih =>
    intro n k hd hn hk hc
    by_cases hkm : k = m
    · exact ih n k (by omega) (by omega) hk hc
    obtain ⟨n, rfl⟩ : ∃ m, n = m + 1 := ⟨n - 1, by omega⟩
    have h10 := hc k (Nat.le_refl _) (by omega)
    rw [L60_3_step, T_len, decide_eq_true (show (k : Int) < (((rus s).length : Nat) : Int) by omega), cond_true, n87_0 k _ (by omega), Option.bind_some, w1k (show k ≤ 300000000 by omega)]
    dsimp only
    rw [show (rAt s k != 10) = true from bne_iff_ne.2 h10, cond_true, ask_of rfl]
    exact ih n (k + 1) (by omega) (by omega) (by omega) (fun l h1 h2 => hc l (by omega) h2)
theorem sil_le {i j : Nat} (h : Sil s i j) : i ≤ j := by
  induction h with
  | stop => exact Nat.le_refl _
  | blank _ _ _ ih => omega
  | com _ _ _ hm _ _ _ _ ih => omega
theorem sil_top {i j : Nat} (h : Sil s i j) : j = i ∨ j ≤ (rus s).length := by
  induction h with
  | stop => exact .inl rfl
  | blank _ _ _ ih => omega
  | com _ _ _ hm _ _ _ _ ih => omega
theorem sil_run (hs : s.size ≤ 67108864) {i j : Nat} (h : Sil s i j) : ∀ n, (rus s).length + 1 - i < n → i ≤ 67108868 → ∃ o, L60_0 n (s, Tl s, (i : Int)) () = some (o, ()) ∧ of60 o = (s, Tl s, (j : Int)) := by
  have hN := N_le hs
  induction h with
  | @stop i h =>
    intro n hn hi
    obtain ⟨n, rfl⟩ : ∃ m, n = m + 1 := ⟨n - 1, by omega⟩
    rw [L60_step, T_len]
    by_cases hlt : i < (rus s).length
    · rcases h with h | ⟨hb, hc⟩
      · exact (h hlt).elim
      rw [decide_eq_true (by omega), cond_true, n87_0 i _ (by omega), Option.bind_some]
      dsimp only
      rw [show (bif (bif (bif (rAt s i == 32) then true else (rAt s i == 9)) then true else (rAt s i == 10)) then true else (rAt s i == 13)) = false from hb, cond_false]
      by_cases h47 : rAt s i = 47
      · have h2 : ¬ rAt s (i + 1) = 47 := fun q => hc ⟨h47, q⟩
        rw [show (rAt s i == 47) = true from beq_iff_eq.2 h47, cond_true, n87_1 i _ (by omega), Option.bind_some]
        dsimp only
        rw [show (rAt s (i + 1) == 47) = false from beq_eq_false_iff_ne.2 h2, cond_false, ask_of rfl]
        exact ⟨_, rfl, rfl⟩
      · rw [show (rAt s i == 47) = false from beq_eq_false_iff_ne.2 h47, cond_false, ask_of rfl]
        exact ⟨_, rfl, rfl⟩
    · rw [decide_eq_false (by omega), cond_false, ask_of rfl]
      exact ⟨_, rfl, rfl⟩
  | @blank i j h hb r ih =>
    intro n hn hi
    obtain ⟨n, rfl⟩ : ∃ m, n = m + 1 := ⟨n - 1, by omega⟩
    rw [L60_step, T_len, decide_eq_true (by omega), cond_true, n87_0 i _ (by omega), Option.bind_some]
    dsimp only
    rw [show (bif (bif (bif (rAt s i == 32) then true else (rAt s i == 9)) then true else (rAt s i == 10)) then true else (rAt s i == 13)) = true from hb, cond_true, ask_of rfl, w1k (show i ≤ 300000000 by omega)]
    exact ih n (by omega) (by omega)
  | @com i m j h h1 h2 hm hmn hc he r ih =>
    intro n hn hi
    obtain ⟨n, rfl⟩ : ∃ m, n = m + 1 := ⟨n - 1, by omega⟩
    rw [L60_step, T_len, decide_eq_true (by omega), cond_true, n87_0 i _ (by omega), Option.bind_some]
    dsimp only
    rw [h1, show (bif (bif (bif ((47 : Int) == 32) then true else ((47 : Int) == 9)) then true else ((47 : Int) == 10)) then true else ((47 : Int) == 13)) = false from rfl, cond_false, show ((47 : Int) == 47) = true from rfl, cond_true, n87_1 i _ (by omega), Option.bind_some]
    dsimp only
    rw [h2, show ((47 : Int) == 47) = true from rfl, cond_true, ask_of rfl, com_run hs hmn he ((rus s).length) 1000000000000 i (by omega) (by omega) (by omega) hc, Option.bind_some]
    dsimp only
    rw [ask_of rfl]
    exact ih n (by omega) (by omega)
theorem n60_run (hs : s.size ≤ 67108864) {i j : Nat} (h : Sil s i j) (hi : i ≤ 67108868) : n60 (s, Tl s, (i : Int), (Tl s).length) = some (s, Tl s, (j : Int), (Tl s).length) := by
  have hN := N_le hs
  obtain ⟨o, h1, h2⟩ := sil_run hs h 1000000000000 (by omega) hi
  show (ask (([(Tl s).length] : List Nat) = [(Tl s).length]) ((L60_0 1000000000000 (s, Tl s, (i : Int)) ()).bind fun p26 => match p26.1 with | .x0 z27 z28 z29 => (some (z27, z28, z29, z28.length)) | .x1 z34 z35 z36 => (some (z34, z35, z36, z35.length)))) = _
  rw [ask_of rfl, h1, Option.bind_some]
  cases o <;> (simp only [of60, Prod.mk.injEq] at h2; obtain ⟨rfl, rfl, rfl⟩ := h2; rfl)
theorem word_run (hs : s.size ≤ 67108864) (v : Int) {j : Nat} : ∀ (d n k : Nat), j - k ≤ d → d < n → Word s k j → L89_0 n (v, s, Tl s, (k : Int)) () = some (O89_0.x0 v s (Tl s) (j : Int), ()) := by
  have hN := N_le hs
  intro d
  induction d with
  | zero =>
    intro n k hd hn hw
    obtain ⟨n, rfl⟩ : ∃ m, n = m + 1 := ⟨n - 1, by omega⟩
    have h1 := hw.le
    have h2 := hw.lt
    obtain rfl : k = j := by omega
    rw [L89_step, T_len]
    by_cases h : k < (rus s).length
    · rcases hw.stop with q | q
      · omega
      rw [decide_eq_true (by omega), cond_true, n87_0 k _ (by omega), Option.bind_some, n109_eq, Option.bind_some]
      dsimp only
      rw [q, cond_false, ask_of rfl]
    · rw [decide_eq_false (by omega), cond_false, ask_of rfl]
  | succ d ih =>
    intro n k hd hn hw
    have h1 := hw.le
    have h2 := hw.lt
    by_cases hkj : k = j
    · exact ih n k (by omega) (by omega) hw
    obtain ⟨n, rfl⟩ : ∃ m, n = m + 1 := ⟨n - 1, by omega⟩
    rw [L89_step, T_len, decide_eq_true (show (k : Int) < (((rus s).length : Nat) : Int) by omega), cond_true, n87_0 k _ (by omega), Option.bind_some, n109_eq, Option.bind_some, w1k (show k ≤ 300000000 by omega)]
    dsimp only
    rw [hw.all k (Nat.le_refl _) (by omega), cond_true, ask_of rfl]
    exact ih n (k + 1) (by omega) (by omega) ⟨by omega, h2, fun l q1 q2 => hw.all l (by omega) q2, hw.stop⟩
theorem off_monoL {i : Nat} : ∀ (t : Nat), offAt s i ≤ offAt s (i + t)
  | 0 => Nat.le_refl _
  | t + 1 => Nat.le_trans (off_monoL t) off_mono
theorem off_leL {i j : Nat} (h : i ≤ j) : offAt s i ≤ offAt s j := by
  have := off_monoL (s := s) (i := i) (j - i)
  rwa [show i + (j - i) = j by omega] at this
theorem n89_run (hs : s.size ≤ 67108864) {i j : Nat} (hw : Word s i j) : n89 (s, Tl s, (i : Int), (Tl s).length) = some (wordT s i j, s, Tl s, (j : Int), (Tl s).length) := by
  have hN := N_le hs
  have h1 := hw.lt
  have hjs := off_le (s := s) j
  have hij := off_leL (s := s) hw.le
  show ((n88 (s, Tl s, (i : Int), (Tl s).length)).bind fun y4 => (ask (([(Tl s).length] : List Nat) = [(Tl s).length]) ((L89_0 1000000000000 (y4.1, s, Tl s, (i : Int)) ()).bind fun p15 => match p15.1 with | .x0 z16 z17 z18 z19 => ((n88 (z17, z18, z19, z18.length)).bind fun y20 => (ask (cutOk z16 y20.1 z17.size) (some ((z17.extract (Int.toNat z16) (Int.toNat y20.1)), z17, z18, z19, z18.length))))))) = _
  rw [n88_eq hs, Option.bind_some, spAt_off, ask_of rfl, word_run hs _ ((rus s).length) 1000000000000 i (by omega) (by omega) hw]
  show ((n88 (s, Tl s, (j : Int), (Tl s).length)).bind fun y20 => (ask (cutOk (offAt s i : Int) y20.1 s.size) (some ((s.extract (Int.toNat (offAt s i : Int)) (Int.toNat y20.1)), s, Tl s, (j : Int), (Tl s).length)))) = _
  rw [n88_eq hs, Option.bind_some, spAt_off, ask_of ⟨by omega, by omega, by omega⟩, Int.toNat_natCast, Int.toNat_natCast]
  rfl
theorem wordT_size (hs : s.size ≤ 67108864) (i j : Nat) : (wordT s i j).size ≤ 67108864 := by
  unfold wordT; simp only [ByteArray.size_extract]
  have := off_le (s := s) j
  omega
theorem lex_run (hs : s.size ≤ 67108864) {i j : Nat} {k v : Int} {t : ByteArray} (h : Lex s i k t v j) : n61 (s, Tl s, (i : Int), (Tl s).length) = some (k, (spAt s i).1, (spAt s i).2.1, (spAt s i).2.2, t, v, 0, s, Tl s, (j : Int), (Tl s).length) := by
  have hN := N_le hs
  cases h with
  | name h hl hw hn =>
    rw [n61_head hs h, hl, cond_true, n89_run hs hw, Option.bind_some, n40_eq (wordT_size hs _ _), hn]
    rfl
  | int h hl hd hw hv =>
    rw [n61_head hs h, hl, cond_false, show (bif (decide (rAt s i ≥ 48)) then (decide (rAt s i ≤ 57)) else false) = true from hd, cond_true, n89_run hs hw, Option.bind_some]
    dsimp only
    rw [hv]
    rfl
  | sym h h35 hl hw ht hf hn =>
    rw [n61_head hs h, h35, let35, cond_false, show (bif (decide ((35 : Int) ≥ 48)) then (decide ((35 : Int) ≤ 57)) else false) = false from rfl, cond_false, show ((35 : Int) == 35) = true from rfl, cond_true, hl, cond_true, n89_run hs hw, Option.bind_some]
    dsimp only
    rw [ht, hf, n40_eq (wordT_size hs _ _), hn]
    rfl
  | mark h hl hd h35 hm =>
    rw [n61_head hs h, hl, cond_false, show (bif (decide (rAt s i ≥ 48)) then (decide (rAt s i ≤ 57)) else false) = false from hd, cond_false, show (rAt s i == 35) = false from beq_eq_false_iff_ne.2 h35, cond_false, marksP_eq hs h, hm]
theorem lex_lt {i j : Nat} {k v : Int} {t : ByteArray} (h : Lex s i k t v j) : i < (rus s).length ∧ i < j ∧ j ≤ (rus s).length + 2 ∧ k ≠ 0 := by
  cases h with
  | name h hl hw hn =>
    have := hw.le; have h2 := hw.lt
    refine ⟨h, ?_, by omega, by decide⟩
    rcases Nat.lt_or_ge i j with q | q
    · exact q
    · obtain rfl : j = i := by omega
      rcases hw.stop with q | q
      · omega
      · rw [let_rest hl] at q; cases q
  | int h hl hd hw hv =>
    have := hw.le; have h2 := hw.lt
    refine ⟨h, ?_, by omega, by decide⟩
    rcases Nat.lt_or_ge i j with q | q
    · exact q
    · obtain rfl : j = i := by omega
      rcases hw.stop with q | q
      · omega
      · rw [digit_rest hd] at q; cases q
  | sym h h35 hl hw ht hf hn =>
    have := hw.le; have h2 := hw.lt
    exact ⟨h, by omega, by omega, by decide⟩
  | mark h hl hd h35 hm =>
    have hmem := List.mem_of_find?_eq_some hm
    have hml := okM_len (pMs_ok _ hmem)
    exact ⟨h, by omega, by omega, by decide⟩
theorem word_ex (hs : s.size ≤ 67108864) : ∀ (d i : Nat), (rus s).length - i ≤ d → i ≤ (rus s).length → ∃ j, Word s i j := by
  intro d
  induction d with
  | zero => intro i hd hi; exact ⟨i, Nat.le_refl _, hi, fun k h1 h2 => by omega, .inl (by omega)⟩
  | succ d ih =>
    intro i hd hi
    by_cases h : i < (rus s).length
    · cases hr : restB (rAt s i) with
      | true =>
        obtain ⟨j, hw⟩ := ih (i + 1) (by omega) (by omega)
        refine ⟨j, by have := hw.le; omega, hw.lt, fun k h1 h2 => ?_, hw.stop⟩
        by_cases hk : k = i
        · subst hk; exact hr
        · exact hw.all k (by omega) h2
      | false => exact ⟨i, Nat.le_refl _, hi, fun k h1 h2 => by omega, .inr hr⟩
    · exact ⟨i, Nat.le_refl _, hi, fun k h1 h2 => by omega, .inl (by omega)⟩
theorem lex_or (hs : s.size ≤ 67108864) {i : Nat} (h : i < (rus s).length) : (∃ (e a c d : Int) (b : ByteArray), e ≠ 0 ∧ n61 (s, Tl s, (i : Int), (Tl s).length) = some (a, (spAt s i).1, (spAt s i).2.1, (spAt s i).2.2, b, c, e, s, Tl s, d, (Tl s).length)) ∨ ∃ k t v j, Lex s i k t v j := by
  have hN := N_le hs
  have e61 := n61_head hs h
  cases hl : letB (rAt s i) with
  | true =>
    obtain ⟨j, hw⟩ := word_ex hs ((rus s).length) i (by omega) (by omega)
    rw [hl, cond_true, n89_run hs hw, Option.bind_some] at e61
    dsimp only at e61
    rw [n40_eq (wordT_size hs _ _)] at e61
    cases hn : isName (wordT s i j) with
    | true => exact .inr ⟨_, _, _, _, .name h hl hw hn⟩
    | false => rw [hn] at e61; exact .inl ⟨21, _, _, _, _, by omega, e61⟩
  | false =>
    cases hd : digB (rAt s i) with
    | true =>
      obtain ⟨j, hw⟩ := word_ex hs ((rus s).length) i (by omega) (by omega)
      rw [hl, cond_false, show (bif (decide (rAt s i ≥ 48)) then (decide (rAt s i ≤ 57)) else false) = true from hd, cond_true, n89_run hs hw, Option.bind_some] at e61
      dsimp only at e61
      rcases n42_or (wordT s i j) (wordT_size hs _ _) with q | ⟨v, _, q⟩
      · rw [q] at e61; exact .inl ⟨22, _, _, _, _, by omega, e61⟩
      · exact .inr ⟨_, _, _, _, .int h hl hd hw q⟩
    | false =>
      rw [hl, cond_false, show (bif (decide (rAt s i ≥ 48)) then (decide (rAt s i ≤ 57)) else false) = false from hd, cond_false] at e61
      by_cases h35 : rAt s i = 35
      · rw [h35, show ((35 : Int) == 35) = true from rfl, cond_true] at e61
        cases hl2 : letB (rAt s (i + 1)) with
        | true =>
          have h1 : i + 1 < (rus s).length := by
            apply Nat.lt_of_not_le
            intro hh
            unfold rAt at hl2
            rw [List.getElem?_eq_none (by omega)] at hl2
            rw [let0] at hl2
            cases hl2
          obtain ⟨j, hw⟩ := word_ex hs ((rus s).length) (i + 1) (by omega) (by omega)
          rw [hl2, cond_true, n89_run hs hw, Option.bind_some] at e61
          dsimp only at e61
          rw [n40_eq (wordT_size hs _ _)] at e61
          cases ht : sEq (wordT s (i + 1) j) tT with
          | true => rw [ht] at e61; exact .inl ⟨21, _, _, _, _, by omega, e61⟩
          | false =>
            cases hf : sEq (wordT s (i + 1) j) tF with
            | true => rw [ht, hf] at e61; exact .inl ⟨21, _, _, _, _, by omega, e61⟩
            | false =>
              cases hn : isName (wordT s (i + 1) j) with
              | true => exact .inr ⟨_, _, _, _, .sym h h35 hl2 hw ht hf hn⟩
              | false => rw [ht, hf, hn] at e61; exact .inl ⟨21, _, _, _, _, by omega, e61⟩
        | false =>
          rw [hl2, cond_false, marksP_eq hs h, fm_none _ (.inl (by rw [bt_of h (by omega) (by omega), h35]; rfl))] at e61
          exact .inl ⟨90, _, _, _, _, by omega, e61⟩
      · rw [show (rAt s i == 35) = false from beq_eq_false_iff_ne.2 h35, cond_false, marksP_eq hs h] at e61
        cases hm : fmB pMs (s.get! (offAt s i)) (eqAt s (offAt s i)) with
        | some m => exact .inr ⟨_, _, _, _, .mark h hl hd h35 hm⟩
        | none => rw [hm] at e61; exact .inl ⟨90, _, _, _, _, by omega, e61⟩
theorem com_ex : ∀ (d k : Nat), (rus s).length - k ≤ d → k ≤ (rus s).length → ∃ m, k ≤ m ∧ m ≤ (rus s).length ∧ (∀ l, k ≤ l → l < m → rAt s l ≠ 10) ∧ (m = (rus s).length ∨ rAt s m = 10) := by
  intro d
  induction d with
  | zero => intro k hd hk; exact ⟨k, Nat.le_refl _, hk, fun l h1 h2 => by omega, .inl (by omega)⟩
  | succ d ih =>
    intro k hd hk
    by_cases h : k < (rus s).length
    · by_cases h10 : rAt s k = 10
      · exact ⟨k, Nat.le_refl _, hk, fun l h1 h2 => by omega, .inr h10⟩
      · obtain ⟨m, q1, q2, q3, q4⟩ := ih (k + 1) (by omega) (by omega)
        refine ⟨m, by omega, q2, fun l h1 h2 => ?_, q4⟩
        by_cases hl : l = k
        · subst hl; exact h10
        · exact q3 l (by omega) h2
    · exact ⟨k, Nat.le_refl _, hk, fun l h1 h2 => by omega, .inl (by omega)⟩
theorem sil_ex : ∀ (d i : Nat), (rus s).length - i ≤ d → ∃ j, Sil s i j := by
  intro d
  induction d with
  | zero => intro i hd; exact ⟨i, .stop (.inl (by omega))⟩
  | succ d ih =>
    intro i hd
    by_cases h : i < (rus s).length
    · cases hb : blB (rAt s i) with
      | true =>
        obtain ⟨j, q⟩ := ih (i + 1) (by omega)
        exact ⟨j, .blank h hb q⟩
      | false =>
        by_cases hc : rAt s i = 47 ∧ rAt s (i + 1) = 47
        · obtain ⟨m, q1, q2, q3, q4⟩ := com_ex (s := s) ((rus s).length) i (by omega) (by omega)
          have hm : i < m := by
            rcases Nat.lt_or_ge i m with q | q
            · exact q
            · obtain rfl : m = i := by omega
              rcases q4 with q4 | q4
              · omega
              · rw [hc.1] at q4; cases q4
          obtain ⟨j, q⟩ := ih m (by omega)
          exact ⟨j, .com h hc.1 hc.2 hm q2 q3 q4 q⟩
        · exact ⟨i, .stop (.inr ⟨hb, hc⟩)⟩
    · exact ⟨i, .stop (.inl h)⟩
end Ev
