/- Plain law: TextPads. -/
import Derived.Test.YtedbcbncdfjocaaDoorPlRun
import Derived.Test.YtedbcbncdfjocaaDoorPlDec
set_option linter.unusedSimpArgs false
set_option linter.unusedVariables false
namespace Ev
open Go

def blanks (k : Nat) : ByteArray := ⟨(List.replicate k (32 : UInt8)).toArray⟩
theorem blanks_size (k : Nat) : (blanks k).size = k := by show (List.replicate k (32 : UInt8)).toArray.size = k; simp
theorem app_size (a b : ByteArray) : (a ++ b).size = a.size + b.size := ByteArray.size_append
theorem app_data (a b : ByteArray) : (a ++ b).data.toList = a.data.toList ++ b.data.toList := by simp
theorem ba_ext {a b : ByteArray} (h : a.data.toList = b.data.toList) : a = b := ByteArray.ext (Array.toList_inj.1 h)
theorem blanks_succ (s : ByteArray) (k : Nat) : s ++ blanks (k + 1) = (s ++ (⟨#[32]⟩ : ByteArray)) ++ blanks k := by
  apply ba_ext
  simp only [app_data, blanks, List.append_assoc]
  congr 1
theorem blanks_zero (s : ByteArray) : s ++ blanks 0 = s := by
  apply ba_ext
  simp [blanks]
theorem L51_step (v5 : ByteArray) (v6 v7 : Int) (n : Nat) : L51_0 (n + 1) (v5, v6, v7) () = (bif (decide (v7 < v6)) then (ask (catOk v5 (⟨#[32]⟩ : ByteArray)) (L51_0 n ((v5 ++ (⟨#[32]⟩ : ByteArray)), v6, (w64 (v7 + 1))) ())) else (some (O51_0.x0 v5, ()))) := rfl
theorem L51 : ∀ (d n w : Nat) (s : ByteArray), d < n → w + d ≤ 2097152 → s.size + d ≤ 2097152 → L51_0 n (s, ((w + d : Nat) : Int), (w : Int)) () = some (O51_0.x0 (s ++ blanks d), ()) := by
  intro d
  induction d with
  | zero =>
    intro n w s hn _ _
    obtain ⟨m, rfl⟩ : ∃ m, n = m + 1 := ⟨n - 1, by omega⟩
    rw [L51_step, decide_eq_false (by omega), cond_false, blanks_zero]
  | succ d ih =>
    intro n w s hn hw hs
    obtain ⟨m, rfl⟩ : ∃ m, n = m + 1 := ⟨n - 1, by omega⟩
    have e1 : w64 ((w : Int) + 1) = ((w + 1 : Nat) : Int) := by rw [w64_id (by omega) (by omega)]; omega
    have e2 : ((w + (d + 1) : Nat) : Int) = ((w + 1 + d : Nat) : Int) := by omega
    have e3 : (s ++ (⟨#[32]⟩ : ByteArray)).size = s.size + 1 := app_size s _
    have hsz : (⟨#[32]⟩ : ByteArray).size = 1 := rfl
    rw [L51_step, decide_eq_true (by omega), cond_true, ask_of (catOk_of (by rw [hsz]; omega)), e1, e2, ih m (w + 1) _ (by omega) (by omega) (by omega), blanks_succ]
theorem L51_none (s : ByteArray) (a w : Int) (h : ¬ w < a) (n : Nat) (hn : 0 < n) : L51_0 n (s, a, w) () = some (O51_0.x0 s, ()) := by
  obtain ⟨m, rfl⟩ : ∃ m, n = m + 1 := ⟨n - 1, by omega⟩
  rw [L51_step, decide_eq_false h, cond_false]
theorem repeat_blank : ∀ c : Nat, Lib.repeatL [32] c = List.replicate c 32
  | 0 => rfl
  | c + 1 => by rw [Lib.repeatL, repeat_blank c]; rfl
/-- How many blanks are put behind. -/
def room (s : ByteArray) (a : Int) : Nat := (a - ((runesL s 0).length : Int)).toNat
theorem len_le (s : ByteArray) : (runesL s 0).length ≤ s.size := by have := runesL_length (s := s) s.size 0 (by omega); omega
theorem n51_eq {s : ByteArray} (hs : s.size ≤ 1048576) {a : Int} (h0 : 0 ≤ a) (h1 : a ≤ 4096) : n51 (s, a) = some (s ++ blanks (room s a), 0) := by
  have hl := len_le s
  show (bif (bif (decide (a < 0)) then true else (decide (a > 4096))) then (some ((⟨#[]⟩ : ByteArray), 23)) else ((n55 s).bind fun y4 => ((L51_0 1000000000000 (s, a, y4) ()).bind fun p9 => match p9.1 with | .x0 z10 => (some (z10, 0)))) : Option (ByteArray × Int)) = _
  rw [decide_eq_false (by omega), cond_false, decide_eq_false (by omega), cond_false, n55_eq hs, Option.bind_some]
  by_cases h : ((runesL s 0).length : Int) < a
  · have e : a = (((runesL s 0).length + room s a : Nat) : Int) := by unfold room; omega
    have hr : room s a ≤ 4096 := by unfold room; omega
    have := L51 (room s a) 1000000000000 (runesL s 0).length s (by omega) (by omega) (by omega)
    rw [← e] at this
    rw [this]; rfl
  · have e : room s a = 0 := by unfold room; omega
    rw [L51_none s a _ h _ (by omega), e, blanks_zero]; rfl
theorem n50_eq {s : ByteArray} (hs : s.size ≤ 1048576) {a : Int} (h0 : 0 ≤ a) (h1 : a ≤ 4096) : n50 (s, a) = some (s ++ blanks (room s a), 0) := by
  have hl := len_le s
  show (bif (bif (decide (a < 0)) then true else (decide (a > 4096))) then (some ((⟨#[]⟩ : ByteArray), 23)) else ((n52 s).bind fun y4 => ((n82 ((⟨#[32]⟩ : ByteArray), (if 0 > (w64 (a - y4)) then 0 else (w64 (a - y4))))).bind fun y5 => (ask (catOk s y5) (some ((s ++ y5), 0))))) : Option (ByteArray × Int)) = _
  rw [decide_eq_false (by omega), cond_false, decide_eq_false (by omega), cond_false, n52_eq hs, Option.bind_some, w64_id (by omega) (by omega)]
  have e : (if 0 > a - (((runesL s 0).length : Nat) : Int) then 0 else a - (((runesL s 0).length : Nat) : Int)) = ((room s a : Nat) : Int) := by
    unfold room; split <;> omega
  have hr : room s a ≤ 4096 := by unfold room; omega
  rw [e]
  have h32 : (⟨#[32]⟩ : ByteArray).size = 1 := rfl
  have hok : repOk ⟨#[32]⟩ ((room s a : Nat) : Int) := ⟨by omega, Nat.ble_eq_true_of_le (by omega), Nat.ble_eq_true_of_le (by rw [h32]; omega)⟩
  show (ask (repOk ⟨#[32]⟩ ((room s a : Nat) : Int)) (some (⟨(Lib.repeatL [32] (((room s a : Nat) : Int)).toNat).toArray⟩ : ByteArray))).bind _ = _
  rw [ask_of hok, Option.bind_some, Int.toNat_natCast, repeat_blank]
  show ask (catOk s (blanks (room s a))) _ = _
  rw [ask_of (catOk_of (by rw [blanks_size]; omega))]
  rfl
theorem n50_out {s : ByteArray} {a : Int} (h : a < 0 ∨ 4096 < a) : n50 (s, a) = some (⟨#[]⟩, 23) ∧ n51 (s, a) = some (⟨#[]⟩, 23) := by
  have e : (bif (decide (a < 0)) then true else (decide (a > 4096))) = true := by
    rcases h with h | h
    · rw [decide_eq_true h]; rfl
    · cases decide (a < 0) with
      | true => rfl
      | false => exact decide_eq_true h
  constructor
  · simp only [n50, e, cond_true]
  · simp only [n51, e, cond_true]

/-! how wide it is then -/
theorem decodeN_cong {n n' b0 b1 b2 b3 c1 c2 c3 : Nat} (h1 : (1 < n ∧ b1 / 64 = 2) ↔ (1 < n' ∧ c1 / 64 = 2)) (h2 : (2 < n ∧ b2 / 64 = 2) ↔ (2 < n' ∧ c2 / 64 = 2)) (h3 : (3 < n ∧ b3 / 64 = 2) ↔ (3 < n' ∧ c3 / 64 = 2))
    (e1 : (1 < n ∧ b1 / 64 = 2) → b1 = c1) (e2 : (2 < n ∧ b2 / 64 = 2) → b2 = c2) (e3 : (3 < n ∧ b3 / 64 = 2) → b3 = c3) : Lib.decodeN n b0 b1 b2 b3 = Lib.decodeN n' b0 c1 c2 c3 := by
  unfold Lib.decodeN
  by_cases k0 : b0 < 128
  · rw [if_pos k0, if_pos k0]
  rw [if_neg k0, if_neg k0]
  by_cases q1 : 1 < n ∧ b1 / 64 = 2
  · have := e1 q1
    subst this
    by_cases q2 : 2 < n ∧ b2 / 64 = 2
    · have := e2 q2
      subst this
      by_cases q3 : 3 < n ∧ b3 / 64 = 2
      · have := e3 q3
        subst this
        simp only [q1, q2, q3, h1.1 q1, h2.1 q2, h3.1 q3, and_true, true_and]
      · have q3' : ¬ (3 < n' ∧ c3 / 64 = 2) := fun h => q3 (h3.2 h)
        simp only [q1, q2, q3, q3', h1.1 q1, h2.1 q2, and_true, true_and, and_false, false_and, if_false]
    · have q2' : ¬ (2 < n' ∧ c2 / 64 = 2) := fun h => q2 (h2.2 h)
      simp only [q1, q2, q2', h1.1 q1, and_true, true_and, false_and, and_false, if_false]
  · have q1' : ¬ (1 < n' ∧ c1 / 64 = 2) := fun h => q1 (h1.2 h)
    simp only [q1, q1', false_and, and_false, if_false]
theorem get_bang_eq (s : ByteArray) (k : Nat) : s.get! k = (s.data.toList[k]?).getD 0 := by
  rw [← get_list]
  by_cases h : k < s.size
  · rw [get_bang h]; rfl
  · rw [getElem?_neg s k h]
    simp only [ByteArray.get!, Option.getD_none]
    rw [getElem!_neg s.data k (by simpa using h)]
    rfl
/-- Behind a text stand bytes that go on with no rune. -/
theorem decode_app {s t : ByteArray} (ht : ∀ k, bt t k / 64 ≠ 2) {i : Nat} (hi : i < s.size) : Utf8.decode (s ++ t) i = Utf8.decode s i := by
  have g : ∀ k, bt (s ++ t) k = if k < s.size then bt s k else bt t (k - s.size) := by
    intro k
    unfold bt
    rw [get_bang_eq, app_data]
    split
    · rename_i h
      rw [List.getElem?_append_left (by rw [← size_list]; exact h), ← get_bang_eq]
    · rename_i h
      rw [List.getElem?_append_right (by rw [← size_list]; omega), ← get_bang_eq, size_list]
  rw [Lib.decode_at, Lib.decode_at, app_size]
  have g0 : bt (s ++ t) i = bt s i := by rw [g, if_pos hi]
  show Lib.decodeN _ (bt (s ++ t) i) (bt (s ++ t) (i + 1)) (bt (s ++ t) (i + 2)) (bt (s ++ t) (i + 3)) = Lib.decodeN _ (bt s i) (bt s (i + 1)) (bt s (i + 2)) (bt s (i + 3))
  rw [g0]
  have key : ∀ k, ((k < s.size + t.size - i ∧ bt (s ++ t) (i + k) / 64 = 2) ↔ (k < s.size - i ∧ bt s (i + k) / 64 = 2)) ∧ ((k < s.size + t.size - i ∧ bt (s ++ t) (i + k) / 64 = 2) → bt (s ++ t) (i + k) = bt s (i + k)) := by
    intro k
    rw [g]
    split
    · rename_i h
      exact ⟨⟨fun q => ⟨by omega, q.2⟩, fun q => ⟨by omega, q.2⟩⟩, fun _ => rfl⟩
    · rename_i h
      exact ⟨⟨fun q => (ht _ q.2).elim, fun q => by omega⟩, fun q => (ht _ q.2).elim⟩
  exact decodeN_cong (key 1).1 (key 2).1 (key 3).1 (key 1).2 (key 2).2 (key 3).2
theorem bt_blanks (k j : Nat) : bt (blanks k) j / 64 ≠ 2 := by
  unfold bt
  rw [get_bang_eq, blanks, toList_mk, List.getElem?_replicate]
  split <;> decide
theorem wd_app {s t : ByteArray} (ht : ∀ k, bt t k / 64 ≠ 2) {i : Nat} (hi : i < s.size) : wd (s ++ t) i = wd s i := by unfold wd; rw [decode_app ht hi]
theorem len_app_head {s t : ByteArray} (ht : ∀ k, bt t k / 64 ≠ 2) : ∀ (d i : Nat), s.size - i ≤ d → i ≤ s.size → (runesL (s ++ t) i).length = (runesL s i).length + (runesL (s ++ t) s.size).length := by
  intro d
  induction d with
  | zero =>
    intro i hd hi
    have : i = s.size := by omega
    subst this
    rw [runesL_nil (s := s) (Nat.le_refl _)]; simp
  | succ d ih =>
    intro i hd hi
    by_cases h : i < s.size
    · have w1 := wd_pos s i
      have w2 := wd_le h
      rw [runesL_cons (s := s ++ t) (by rw [app_size]; omega), runesL_cons h, wd_app ht h, List.length_cons, List.length_cons, ih (i + wd s i) (by omega) w2]
      omega
    · have : i = s.size := by omega
      subst this
      rw [runesL_nil (s := s) (Nat.le_refl _)]; simp
theorem len_blanks {s : ByteArray} {k : Nat} : ∀ (d i : Nat), s.size + k - i ≤ d → s.size ≤ i → i ≤ s.size + k → (runesL (s ++ blanks k) i).length = s.size + k - i := by
  intro d
  induction d with
  | zero =>
    intro i hd h1 h2
    rw [runesL_nil (by rw [app_size, blanks_size]; omega)]; simp; omega
  | succ d ih =>
    intro i hd h1 h2
    by_cases h : i < s.size + k
    · have hb : bt (s ++ blanks k) i = 32 := by
        unfold bt
        rw [get_bang_eq, app_data, List.getElem?_append_right (by rw [← size_list]; omega), blanks, toList_mk, List.getElem?_replicate, if_pos (by rw [← size_list]; omega)]
        rfl
      have hw : wd (s ++ blanks k) i = 1 := by
        unfold wd
        rw [Lib.decode_at]
        show (Lib.decodeN _ (bt (s ++ blanks k) i) _ _ _).2 = 1
        rw [hb]; rfl
      rw [runesL_cons (by rw [app_size, blanks_size]; omega), List.length_cons, hw, ih (i + 1) (by omega) (by omega) (by omega)]
      omega
    · rw [runesL_nil (by rw [app_size, blanks_size]; omega)]; simp; omega
theorem len_pad (s : ByteArray) (k : Nat) : (runesL (s ++ blanks k) 0).length = (runesL s 0).length + k := by
  rw [len_app_head (bt_blanks k) s.size 0 (by omega) (by omega), len_blanks k s.size (by omega) (by omega) (by omega)]
  omega
theorem plain14 (a0 : ByteArray) (a1 : Int) (h : a0.size ≤ 1048576) (w : (Lit.int .i64 a1).wf = true) : n14 (a0, a1) = some true := by
  have b : ∀ x : Int, (x == x) = true := fun x => beq_iff_eq.2 rfl
  by_cases h0 : a1 < 0 ∨ 4096 < a1
  · obtain ⟨e1, e2⟩ := n50_out (s := a0) h0
    simp only [n14, e1, e2, Option.bind_some, n39, (sEq_iff _ _).2 rfl, cond_true, b, alive_true]
    rfl
  · have hl := len_le a0
    have hr : room a0 a1 ≤ 4096 := by unfold room; omega
    have e1 := n50_eq h (a := a1) (by omega) (by omega)
    have e2 := n51_eq h (a := a1) (by omega) (by omega)
    have e3 : n52 (a0 ++ blanks (room a0 a1)) = some ((((runesL a0 0).length + room a0 a1 : Nat)) : Int) := by
      have hsz : (a0 ++ blanks (room a0 a1)).size ≤ 1048576 + 4096 := by rw [app_size, blanks_size]; omega
      obtain ⟨j, hj⟩ := L52 (s := a0 ++ blanks (room a0 a1)) (by omega) (a0 ++ blanks (room a0 a1)).size 1000000000000 0 0 (by omega) (by omega) (by omega) (by omega)
      show ((L52_0 1000000000000 (0, (a0 ++ blanks (room a0 a1)), 0) ()).bind fun p8 => match p8.1 with | .x0 z9 z10 z11 => (some z9)) = _
      rw [show (0 : Int) = ((0 : Nat) : Int) from rfl, hj, Option.bind_some, Nat.zero_add, len_pad]
    have e4 : (((((runesL a0 0).length + room a0 a1 : Nat)) : Int) == (if (((runesL a0 0).length : Nat) : Int) > a1 then (((runesL a0 0).length : Nat) : Int) else a1)) = true := by
      rw [beq_iff_eq]; unfold room; split <;> omega
    simp only [n14, e1, e2, Option.bind_some, n39, (sEq_iff _ _).2 rfl, cond_true, b, e3, n52_eq h, e4, alive_true]
    rfl
end Ev
