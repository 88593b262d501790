/- What functions of the program compute, as plain Lean functions, each with its proof by a proved reader; plain laws about them (Pl8De). -/
import Derived.Test.YtohmflkolmobmaaGreatDoorLd1
import Derived.Lib.DecodeNEq
import Derived.Lib.TrimU
import Derived.Lib.QuoteLoop
set_option linter.unusedSimpArgs false
set_option linter.unusedVariables false
namespace Ev
open Go
theorem cond_some {α : Type} (c : Bool) (a b : α) : (bif c then some a else some b) = some (bif c then a else b) := by cases c <;> rfl
theorem cond_iff (c a b : Bool) : (bif c then a else b) = true ↔ (c = true ∧ a = true) ∨ (¬ c = true ∧ b = true) := by cases c <;> simp
theorem letter_eq (r : Int) : n165 r = n167 r := by
  simp only [n165, n167, n187, Option.bind_some, cond_some, Option.some.injEq]
  rw [Bool.eq_iff_iff]
  simp only [cond_iff, decide_eq_true_eq, beq_iff_eq, bne_iff_ne, ne_eq, and_true, Bool.false_eq_true, and_false, or_false]
  omega
theorem wu64_id {n : Int} (h0 : 0 ≤ n) (h1 : n < 18446744073709551616) : wu64 n = n := by
  simp only [wu64, IntKind.wrap, IntKind.signed, IntKind.bits]
  simp
  omega
theorem ask_of {p : Prop} [Decidable p] {β : Type} {x : Option β} (h : p) : ask p x = x := if_pos h
theorem w64_id {n : Int} (h0 : -9223372036854775808 ≤ n) (h1 : n ≤ 9223372036854775807) : w64 n = n := by
  simp only [w64, IntKind.wrap, IntKind.signed, IntKind.bits]
  simp
  omega
theorem sidx_nat (s : ByteArray) (i : Nat) : sidx s (i : Int) = s[i]? := by
  unfold sidx
  rw [if_pos (by omega), Int.toNat_natCast]
theorem cont_eq (s : ByteArray) (i : Nat) (lo hi : Int) : n204 (s, (i : Int), lo, hi) = some (match s[i]? with | some c => decide (lo ≤ (c.toNat : Int)) && decide ((c.toNat : Int) ≤ hi) | none => false) := by
  simp only [n204, sidx_nat]
  cases hc : s[i]? with
  | none =>
    have : ¬ i < s.size := fun h => by rw [getElem?_pos s i h] at hc; cases hc
    rw [decide_eq_false (by omega : ¬ (i : Int) < (s.size : Int)), cond_false]
  | some c =>
    have : i < s.size := by
      rcases Nat.lt_or_ge i s.size with h | h
      · exact h
      · rw [getElem?_neg s i (by omega)] at hc; cases hc
    rw [decide_eq_true (by omega : (i : Int) < (s.size : Int)), cond_true, Option.bind_some, Option.bind_some]
    by_cases h : lo ≤ (c.toNat : Int)
    · simp [h]
    · simp [h]
theorem sEq_iff (a b : ByteArray) : sEq a b = true ↔ a = b := by
  unfold sEq
  rw [beq_iff_eq]
  constructor
  · intro h
    have : a.data.toList = b.data.toList := by
      have e : ∀ x : ByteArray, x.toList = x.data.toList := fun x => by simp [ByteArray.toList_eq]
      rw [e, e] at h
      exact h
    exact ByteArray.ext (Array.toList_inj.1 this)
  · intro h; rw [h]
theorem and_facts : ∀ n : Nat, n < 256 → bAnd .u8 n 31 = ((n % 32 : Nat) : Int) ∧ bAnd .u8 n 15 = ((n % 16 : Nat) : Int) ∧ bAnd .u8 n 7 = ((n % 8 : Nat) : Int) ∧ bAnd .u8 n 63 = ((n % 64 : Nat) : Int) := by decide +kernel
theorem bOr_add {k a b : Nat} (hb : b < 2 ^ k) (h : 2 ^ k * a + b < 9223372036854775808) : bOr .i64 ((2 ^ k * a : Nat) : Int) (b : Int) = ((2 ^ k * a + b : Nat) : Int) := by
  have h1 : (BitVec.ofInt 64 ((2 ^ k * a : Nat) : Int)) = BitVec.ofNat 64 (2 ^ k * a) := BitVec.ofInt_natCast ..
  have h2 : (BitVec.ofInt 64 (b : Int)) = BitVec.ofNat 64 b := BitVec.ofInt_natCast ..
  show w64 (((BitVec.ofInt 64 ((2 ^ k * a : Nat) : Int)) ||| (BitVec.ofInt 64 (b : Int))).toNat : Int) = _
  rw [h1, h2, BitVec.toNat_or, BitVec.toNat_ofNat, BitVec.toNat_ofNat, Nat.mod_eq_of_lt (by omega), Nat.mod_eq_of_lt (by omega), ← Nat.two_pow_add_eq_or_of_lt hb, w64_id (by omega) (by omega)]
def rn (s : ByteArray) (i : Nat) : Int := if Utf8.decode s i = (65533, 1) then -1 else ((Utf8.decode s i).1 : Int)
def wd (s : ByteArray) (i : Nat) : Nat := (Utf8.decode s i).2
section
variable {s : ByteArray} {i : Nat}
abbrev bt (s : ByteArray) (k : Nat) : Nat := (s.get! k).toNat
theorem get_bang {k : Nat} (h : k < s.size) : s[k]? = some (s.get! k) := by
  rw [getElem?_pos s k h]
  congr 1
  simp [ByteArray.get!, h]
  rfl
theorem bt_lt (k : Nat) : bt s k < 256 := UInt8.toNat_lt _
theorem cont_at (k : Nat) (lo hi : Int) : n204 (s, ((i + k : Nat) : Int), lo, hi) = some (decide (k < s.size - i ∧ lo ≤ (bt s (i + k) : Int) ∧ (bt s (i + k) : Int) ≤ hi)) := by
  rw [cont_eq]
  by_cases h : i + k < s.size
  · rw [get_bang h]
    congr 1
    have : k < s.size - i := by omega
    simp [this]
  · rw [getElem?_neg s (i + k) (by omega)]
    congr 1
    have : ¬ k < s.size - i := by omega
    simp [this]
theorem sidx_at {k : Nat} (h : k < s.size - i) : sidx s ((i + k : Nat) : Int) = some (s.get! (i + k)) := by
  rw [sidx_nat, get_bang (by omega)]
theorem w_and31 (k : Nat) : w64 (bAnd .u8 (((s.get! k).toNat : Nat) : Int) 31) = ((bt s k % 32 : Nat) : Int) := by
  rw [(and_facts _ (bt_lt k)).1, w64_id (by omega) (by omega)]
theorem w_and15 (k : Nat) : w64 (bAnd .u8 (((s.get! k).toNat : Nat) : Int) 15) = ((bt s k % 16 : Nat) : Int) := by
  rw [(and_facts _ (bt_lt k)).2.1, w64_id (by omega) (by omega)]
theorem w_and7 (k : Nat) : w64 (bAnd .u8 (((s.get! k).toNat : Nat) : Int) 7) = ((bt s k % 8 : Nat) : Int) := by
  rw [(and_facts _ (bt_lt k)).2.2.1, w64_id (by omega) (by omega)]
theorem w_and63 (k : Nat) : w64 (bAnd .u8 (((s.get! k).toNat : Nat) : Int) 63) = ((bt s k % 64 : Nat) : Int) := by
  rw [(and_facts _ (bt_lt k)).2.2.2, w64_id (by omega) (by omega)]
theorem w_mul {a m : Nat} (h : a * m < 9223372036854775808) : w64 ((a : Int) * (m : Int)) = ((a * m : Nat) : Int) := by
  rw [w64_id (by omega) (by omega)]; omega
theorem put2 (j k : Nat) : bOr .i64 (w64 ((w64 (bAnd .u8 ((s.get! j).toNat : Int) 31)) * 2 ^ (min (Int.toNat 6) 64))) (w64 (bAnd .u8 ((s.get! k).toNat : Int) 63)) = ((bt s j % 32 * 64 + bt s k % 64 : Nat) : Int) := by
  rw [w_and31, w_and63, show ((2 : Int) ^ (min (Int.toNat 6) 64)) = ((64 : Nat) : Int) from rfl, w_mul (by omega)]
  have := bOr_add (k := 6) (a := bt s j % 32) (b := bt s k % 64) (by omega) (by omega)
  rw [show bt s j % 32 * 64 = 2 ^ 6 * (bt s j % 32) by omega, this]
theorem put3 (j k l : Nat) : bOr .i64 (bOr .i64 (w64 ((w64 (bAnd .u8 ((s.get! j).toNat : Int) 15)) * 2 ^ (min (Int.toNat 12) 64))) (w64 ((w64 (bAnd .u8 ((s.get! k).toNat : Int) 63)) * 2 ^ (min (Int.toNat 6) 64)))) (w64 (bAnd .u8 ((s.get! l).toNat : Int) 63)) = ((bt s j % 16 * 4096 + bt s k % 64 * 64 + bt s l % 64 : Nat) : Int) := by
  rw [w_and15, w_and63, w_and63, show ((2 : Int) ^ (min (Int.toNat 12) 64)) = ((4096 : Nat) : Int) from rfl, show ((2 : Int) ^ (min (Int.toNat 6) 64)) = ((64 : Nat) : Int) from rfl, w_mul (by omega), w_mul (by omega)]
  have h1 := bOr_add (k := 12) (a := bt s j % 16) (b := bt s k % 64 * 64) (by omega) (by omega)
  rw [show bt s j % 16 * 4096 = 2 ^ 12 * (bt s j % 16) by omega, h1]
  have h2 := bOr_add (k := 6) (a := bt s j % 16 * 64 + bt s k % 64) (b := bt s l % 64) (by omega) (by omega)
  rw [show 2 ^ 12 * (bt s j % 16) + bt s k % 64 * 64 = 2 ^ 6 * (bt s j % 16 * 64 + bt s k % 64) by omega, h2]
theorem put4 (j k l m : Nat) : bOr .i64 (bOr .i64 (bOr .i64 (w64 ((w64 (bAnd .u8 ((s.get! j).toNat : Int) 7)) * 2 ^ (min (Int.toNat 18) 64))) (w64 ((w64 (bAnd .u8 ((s.get! k).toNat : Int) 63)) * 2 ^ (min (Int.toNat 12) 64)))) (w64 ((w64 (bAnd .u8 ((s.get! l).toNat : Int) 63)) * 2 ^ (min (Int.toNat 6) 64)))) (w64 (bAnd .u8 ((s.get! m).toNat : Int) 63)) = ((bt s j % 8 * 262144 + bt s k % 64 * 4096 + bt s l % 64 * 64 + bt s m % 64 : Nat) : Int) := by
  rw [w_and7, w_and63, w_and63, w_and63, show ((2 : Int) ^ (min (Int.toNat 18) 64)) = ((262144 : Nat) : Int) from rfl, show ((2 : Int) ^ (min (Int.toNat 12) 64)) = ((4096 : Nat) : Int) from rfl, show ((2 : Int) ^ (min (Int.toNat 6) 64)) = ((64 : Nat) : Int) from rfl, w_mul (by omega), w_mul (by omega), w_mul (by omega)]
  have h1 := bOr_add (k := 18) (a := bt s j % 8) (b := bt s k % 64 * 4096) (by omega) (by omega)
  rw [show bt s j % 8 * 262144 = 2 ^ 18 * (bt s j % 8) by omega, h1]
  have h2 := bOr_add (k := 12) (a := bt s j % 8 * 64 + bt s k % 64) (b := bt s l % 64 * 64) (by omega) (by omega)
  rw [show 2 ^ 18 * (bt s j % 8) + bt s k % 64 * 4096 = 2 ^ 12 * (bt s j % 8 * 64 + bt s k % 64) by omega, h2]
  have h3 := bOr_add (k := 6) (a := bt s j % 8 * 4096 + bt s k % 64 * 64 + bt s l % 64) (b := bt s m % 64) (by omega) (by omega)
  rw [show 2 ^ 12 * (bt s j % 8 * 64 + bt s k % 64) + bt s l % 64 * 64 = 2 ^ 6 * (bt s j % 8 * 4096 + bt s k % 64 * 64 + bt s l % 64) by omega, h3]
def tail2 (s : ByteArray) (i : Nat) (lo hi : Int) : Option (Int × Int × Int) := (n204 (s, (w64 ((i : Int) + 1)), lo, hi)).bind fun y6 => (bif y6 then ((sidx s (w64 ((i : Int) + 1))).bind fun c7 => (some ((bOr .i64 (w64 ((w64 (bAnd .u8 ((s.get! i).toNat : Int) 31)) * 2 ^ (min (Int.toNat 6) 64))) (w64 (bAnd .u8 (c7.toNat : Int) 63))), (i : Int), 2))) else (some ((-1), (i : Int), 1)))
def tail3 (s : ByteArray) (i : Nat) (lo hi : Int) : Option (Int × Int × Int) := (n204 (s, (w64 ((i : Int) + 1)), lo, hi)).bind fun y8 => (bif y8 then ((n204 (s, (w64 ((i : Int) + 2)), 128, 191)).bind fun y9 => (bif y9 then ((sidx s (w64 ((i : Int) + 1))).bind fun c10 => ((sidx s (w64 ((i : Int) + 2))).bind fun c11 => (some ((bOr .i64 (bOr .i64 (w64 ((w64 (bAnd .u8 ((s.get! i).toNat : Int) 15)) * 2 ^ (min (Int.toNat 12) 64))) (w64 ((w64 (bAnd .u8 (c10.toNat : Int) 63)) * 2 ^ (min (Int.toNat 6) 64)))) (w64 (bAnd .u8 (c11.toNat : Int) 63))), (i : Int), 3)))) else (some ((-1), (i : Int), 1)))) else (some ((-1), (i : Int), 1)))
def tail4 (s : ByteArray) (i : Nat) (lo hi : Int) : Option (Int × Int × Int) := (n204 (s, (w64 ((i : Int) + 1)), lo, hi)).bind fun y24 => (bif y24 then ((n204 (s, (w64 ((i : Int) + 2)), 128, 191)).bind fun y25 => (bif y25 then ((n204 (s, (w64 ((i : Int) + 3)), 128, 191)).bind fun y26 => (bif y26 then ((sidx s (w64 ((i : Int) + 1))).bind fun c27 => ((sidx s (w64 ((i : Int) + 2))).bind fun c28 => ((sidx s (w64 ((i : Int) + 3))).bind fun c29 => (some ((bOr .i64 (bOr .i64 (bOr .i64 (w64 ((w64 (bAnd .u8 ((s.get! i).toNat : Int) 7)) * 2 ^ (min (Int.toNat 18) 64))) (w64 ((w64 (bAnd .u8 (c27.toNat : Int) 63)) * 2 ^ (min (Int.toNat 12) 64)))) (w64 ((w64 (bAnd .u8 (c28.toNat : Int) 63)) * 2 ^ (min (Int.toNat 6) 64)))) (w64 (bAnd .u8 (c29.toNat : Int) 63))), (i : Int), 4))))) else (some ((-1), (i : Int), 1)))) else (some ((-1), (i : Int), 1)))) else (some ((-1), (i : Int), 1)))
def asRef (p : Nat × Nat) (i : Nat) : Int × Int × Int := (if p = (65533, 1) then -1 else (p.1 : Int), (i : Int), (p.2 : Int))
variable (hs : s.size ≤ 1048576) (hi : i < s.size)
include hs hi
theorem next1 : w64 ((i : Int) + 1) = ((i + 1 : Nat) : Int) := by rw [w64_id (by omega) (by omega)]; omega
theorem next2 : w64 ((i : Int) + 2) = ((i + 2 : Nat) : Int) := by rw [w64_id (by omega) (by omega)]; omega
theorem next3 : w64 ((i : Int) + 3) = ((i + 3 : Nat) : Int) := by rw [w64_id (by omega) (by omega)]; omega
theorem tail2_eq (lo hi' : Nat) : tail2 s i lo hi' = some (asRef (Lib.slowN (s.size - i) (bt s i) (bt s (i + 1)) (bt s (i + 2)) (bt s (i + 3)) 2 lo hi') i) := by
  unfold tail2
  rw [next1 hs hi, cont_at, Option.bind_some]
  by_cases h : 1 < s.size - i ∧ (lo : Int) ≤ (bt s (i + 1) : Int) ∧ (bt s (i + 1) : Int) ≤ (hi' : Int)
  · rw [decide_eq_true h, cond_true, sidx_at h.1, Option.bind_some, put2]
    have e : Lib.slowN (s.size - i) (bt s i) (bt s (i + 1)) (bt s (i + 2)) (bt s (i + 3)) 2 lo hi' = (bt s i % 32 * 64 + bt s (i + 1) % 64, 2) := by
      unfold Lib.slowN; rw [if_neg (by omega), if_neg (by omega), if_pos (by omega)]
    rw [e, asRef, if_neg (by simp)]
    rfl
  · rw [decide_eq_false h, cond_false]
    have e : Lib.slowN (s.size - i) (bt s i) (bt s (i + 1)) (bt s (i + 2)) (bt s (i + 3)) 2 lo hi' = (65533, 1) := by
      unfold Lib.slowN
      by_cases h1 : s.size - i < 2
      · rw [if_pos h1]
      · rw [if_neg h1, if_pos (by omega)]
    rw [e]; rfl
theorem tail3_eq (lo hi' : Nat) : tail3 s i lo hi' = some (asRef (Lib.slowN (s.size - i) (bt s i) (bt s (i + 1)) (bt s (i + 2)) (bt s (i + 3)) 3 lo hi') i) := by
  unfold tail3
  rw [next1 hs hi, next2 hs hi, cont_at, cont_at, Option.bind_some]
  by_cases h : 1 < s.size - i ∧ (lo : Int) ≤ (bt s (i + 1) : Int) ∧ (bt s (i + 1) : Int) ≤ (hi' : Int)
  · rw [decide_eq_true h, cond_true, Option.bind_some]
    by_cases h2 : 2 < s.size - i ∧ (128 : Int) ≤ (bt s (i + 2) : Int) ∧ (bt s (i + 2) : Int) ≤ 191
    · rw [decide_eq_true h2, cond_true, sidx_at h.1, Option.bind_some, sidx_at h2.1, Option.bind_some, put3]
      have e : Lib.slowN (s.size - i) (bt s i) (bt s (i + 1)) (bt s (i + 2)) (bt s (i + 3)) 3 lo hi' = (bt s i % 16 * 4096 + bt s (i + 1) % 64 * 64 + bt s (i + 2) % 64, 3) := by
        unfold Lib.slowN; rw [if_neg (by omega), if_neg (by omega), if_neg (by omega), if_neg (by omega), if_pos (by omega)]
      rw [e, asRef, if_neg (by simp)]
      rfl
    · rw [decide_eq_false h2, cond_false]
      have e : Lib.slowN (s.size - i) (bt s i) (bt s (i + 1)) (bt s (i + 2)) (bt s (i + 3)) 3 lo hi' = (65533, 1) := by
        unfold Lib.slowN
        by_cases h1 : s.size - i < 3
        · rw [if_pos h1]
        · rw [if_neg h1, if_neg (by omega), if_neg (by omega), if_pos (by omega)]
      rw [e]; rfl
  · rw [decide_eq_false h, cond_false]
    have e : Lib.slowN (s.size - i) (bt s i) (bt s (i + 1)) (bt s (i + 2)) (bt s (i + 3)) 3 lo hi' = (65533, 1) := by
      unfold Lib.slowN
      by_cases h1 : s.size - i < 3
      · rw [if_pos h1]
      · rw [if_neg h1, if_pos (by omega)]
    rw [e]; rfl
theorem tail4_eq (lo hi' : Nat) : tail4 s i lo hi' = some (asRef (Lib.slowN (s.size - i) (bt s i) (bt s (i + 1)) (bt s (i + 2)) (bt s (i + 3)) 4 lo hi') i) := by
  unfold tail4
  rw [next1 hs hi, next2 hs hi, next3 hs hi, cont_at, cont_at, cont_at, Option.bind_some]
  by_cases h : 1 < s.size - i ∧ (lo : Int) ≤ (bt s (i + 1) : Int) ∧ (bt s (i + 1) : Int) ≤ (hi' : Int)
  · rw [decide_eq_true h, cond_true, Option.bind_some]
    by_cases h2 : 2 < s.size - i ∧ (128 : Int) ≤ (bt s (i + 2) : Int) ∧ (bt s (i + 2) : Int) ≤ 191
    · rw [decide_eq_true h2, cond_true, Option.bind_some]
      by_cases h3 : 3 < s.size - i ∧ (128 : Int) ≤ (bt s (i + 3) : Int) ∧ (bt s (i + 3) : Int) ≤ 191
      · rw [decide_eq_true h3, cond_true, sidx_at h.1, Option.bind_some, sidx_at h2.1, Option.bind_some, sidx_at h3.1, Option.bind_some, put4]
        have e : Lib.slowN (s.size - i) (bt s i) (bt s (i + 1)) (bt s (i + 2)) (bt s (i + 3)) 4 lo hi' = (bt s i % 8 * 262144 + bt s (i + 1) % 64 * 4096 + bt s (i + 2) % 64 * 64 + bt s (i + 3) % 64, 4) := by
          unfold Lib.slowN; rw [if_neg (by omega), if_neg (by omega), if_neg (by omega), if_neg (by omega), if_neg (by omega), if_neg (by omega)]
        rw [e, asRef, if_neg (by simp)]
        rfl
      · rw [decide_eq_false h3, cond_false]
        have e : Lib.slowN (s.size - i) (bt s i) (bt s (i + 1)) (bt s (i + 2)) (bt s (i + 3)) 4 lo hi' = (65533, 1) := by
          unfold Lib.slowN
          by_cases h1 : s.size - i < 4
          · rw [if_pos h1]
          · rw [if_neg h1, if_neg (by omega), if_neg (by omega), if_neg (by omega), if_neg (by omega), if_pos (by omega)]
        rw [e]; rfl
    · rw [decide_eq_false h2, cond_false]
      have e : Lib.slowN (s.size - i) (bt s i) (bt s (i + 1)) (bt s (i + 2)) (bt s (i + 3)) 4 lo hi' = (65533, 1) := by
        unfold Lib.slowN
        by_cases h1 : s.size - i < 4
        · rw [if_pos h1]
        · rw [if_neg h1, if_neg (by omega), if_neg (by omega), if_pos (by omega)]
      rw [e]; rfl
  · rw [decide_eq_false h, cond_false]
    have e : Lib.slowN (s.size - i) (bt s i) (bt s (i + 1)) (bt s (i + 2)) (bt s (i + 3)) 4 lo hi' = (65533, 1) := by
      unfold Lib.slowN
      by_cases h1 : s.size - i < 4
      · rw [if_pos h1]
      · rw [if_neg h1, if_pos (by omega)]
    rw [e]; rfl
omit hs hi in
theorem n138_eq (c5 : UInt8) (hc : sidx s (i : Int) = some c5) (hg : s.get! i = c5) : n176 (s, (i : Int)) = (bif (decide ((c5.toNat : Int) < 128)) then (some ((w64 (c5.toNat : Int)), (i : Int), 1)) else (bif (bif (decide ((c5.toNat : Int) ≥ 194)) then (decide ((c5.toNat : Int) ≤ 223)) else false) then tail2 s i 128 191 else (bif (bif (decide ((c5.toNat : Int) ≥ 224)) then (decide ((c5.toNat : Int) ≤ 239)) else false) then (bif ((c5.toNat : Int) == 224) then (bif ((c5.toNat : Int) == 237) then tail3 s i 160 159 else tail3 s i 160 191) else (bif ((c5.toNat : Int) == 237) then tail3 s i 128 159 else tail3 s i 128 191)) else (bif (bif (decide ((c5.toNat : Int) ≥ 240)) then (decide ((c5.toNat : Int) ≤ 244)) else false) then (bif ((c5.toNat : Int) == 240) then (bif ((c5.toNat : Int) == 244) then tail4 s i 144 143 else tail4 s i 144 191) else (bif ((c5.toNat : Int) == 244) then tail4 s i 128 143 else tail4 s i 128 191)) else (some ((-1), (i : Int), 1)))))) := by
  subst hg
  simp only [n176, hc, Option.bind_some]
  rfl
theorem one_eq : n176 (s, (i : Int)) = some (asRef (Utf8.decode s i) i) := by
  have hg := get_bang (s := s) hi
  have hsx : sidx s (i : Int) = some (s.get! i) := by rw [sidx_nat, hg]
  rw [n138_eq _ hsx rfl, Lib.decode_at]
  have hb := bt_lt (s := s) i
  have h1 := bt_lt (s := s) (i + 1)
  have h2 := bt_lt (s := s) (i + 2)
  have h3 := bt_lt (s := s) (i + 3)
  have hn : 1 ≤ s.size - i := by omega
  have t2 := tail2_eq hs hi 128 191
  have t3a := tail3_eq hs hi 160 191
  have t3b := tail3_eq hs hi 128 159
  have t3c := tail3_eq hs hi 128 191
  have t4a := tail4_eq hs hi 144 191
  have t4b := tail4_eq hs hi 128 143
  have t4c := tail4_eq hs hi 128 191
  rw [show (((128 : Nat) : Int)) = 128 from rfl, show (((191 : Nat) : Int)) = 191 from rfl] at t2 t3c t4c
  rw [show (((160 : Nat) : Int)) = 160 from rfl, show (((191 : Nat) : Int)) = 191 from rfl] at t3a
  rw [show (((128 : Nat) : Int)) = 128 from rfl, show (((159 : Nat) : Int)) = 159 from rfl] at t3b
  rw [show (((144 : Nat) : Int)) = 144 from rfl, show (((191 : Nat) : Int)) = 191 from rfl] at t4a
  rw [show (((128 : Nat) : Int)) = 128 from rfl, show (((143 : Nat) : Int)) = 143 from rfl] at t4b
  have F : ∀ {p : Prop} [Decidable p], ¬ p → decide p = false := fun h => decide_eq_false h
  have T : ∀ {p : Prop} [Decidable p], p → decide p = true := fun h => decide_eq_true h
  have E0 : ∀ {z : Int}, ((bt s i : Nat) : Int) ≠ z → (((bt s i : Nat) : Int) == z) = false := fun h => beq_eq_false_iff_ne.2 h
  have E1 : ∀ {z : Int}, ((bt s i : Nat) : Int) = z → (((bt s i : Nat) : Int) == z) = true := fun h => beq_iff_eq.2 h
  by_cases c0 : bt s i < 128
  · rw [T (show ((bt s i : Nat) : Int) < 128 by omega), cond_true, Lib.ascii_eq _ _ _ _ _ (by unfold Lib.firstT; rw [if_pos c0])]
    have h0 : bt s i ≠ 65533 := by omega
    have hw : w64 (((s.get! i).toNat : Nat) : Int) = ((bt s i : Nat) : Int) := w64_id (n := ((bt s i : Nat) : Int)) (by omega) (by omega)
    rw [asRef, if_neg (fun h => h0 (congrArg Prod.fst h)), hw]
    rfl
  rw [F (show ¬ ((bt s i : Nat) : Int) < 128 by omega), cond_false]
  by_cases c1 : bt s i < 194
  · rw [F (show ¬ ((bt s i : Nat) : Int) ≥ 194 by omega), cond_false, cond_false, F (show ¬ ((bt s i : Nat) : Int) ≥ 224 by omega), cond_false, cond_false, F (show ¬ ((bt s i : Nat) : Int) ≥ 240 by omega), cond_false, cond_false,
      Lib.bad_eq _ _ _ _ _ hb (by unfold Lib.firstT; rw [if_neg c0, if_pos c1])]
    rfl
  rw [T (show ((bt s i : Nat) : Int) ≥ 194 by omega), cond_true]
  by_cases c2 : bt s i < 224
  · rw [T (show ((bt s i : Nat) : Int) ≤ 223 by omega), cond_true, t2, Lib.slow_C2 _ _ _ _ _ hn h1 h2 h3 ⟨by omega, c2⟩]
  rw [F (show ¬ ((bt s i : Nat) : Int) ≤ 223 by omega), cond_false, T (show ((bt s i : Nat) : Int) ≥ 224 by omega), cond_true]
  by_cases c3 : bt s i < 240
  · rw [T (show ((bt s i : Nat) : Int) ≤ 239 by omega), cond_true]
    by_cases d1 : bt s i = 224
    · rw [E1 (show ((bt s i : Nat) : Int) = 224 by omega), cond_true, E0 (show ((bt s i : Nat) : Int) ≠ 237 by omega), cond_false, t3a, Lib.slow_E0 _ _ _ _ _ hn h1 h2 h3 d1]
    · rw [E0 (show ((bt s i : Nat) : Int) ≠ 224 by omega), cond_false]
      by_cases d2 : bt s i = 237
      · rw [E1 (show ((bt s i : Nat) : Int) = 237 by omega), cond_true, t3b, Lib.slow_ED _ _ _ _ _ hn h1 h2 h3 d2]
      · rw [E0 (show ((bt s i : Nat) : Int) ≠ 237 by omega), cond_false, t3c, Lib.slow_E1 _ _ _ _ _ hn h1 h2 h3 (by omega)]
  rw [F (show ¬ ((bt s i : Nat) : Int) ≤ 239 by omega), cond_false, T (show ((bt s i : Nat) : Int) ≥ 240 by omega), cond_true]
  by_cases c4 : bt s i < 245
  · rw [T (show ((bt s i : Nat) : Int) ≤ 244 by omega), cond_true]
    by_cases d1 : bt s i = 240
    · rw [E1 (show ((bt s i : Nat) : Int) = 240 by omega), cond_true, E0 (show ((bt s i : Nat) : Int) ≠ 244 by omega), cond_false, t4a, Lib.slow_F0 _ _ _ _ _ hn h1 h2 h3 d1]
    · rw [E0 (show ((bt s i : Nat) : Int) ≠ 240 by omega), cond_false]
      by_cases d2 : bt s i = 244
      · rw [E1 (show ((bt s i : Nat) : Int) = 244 by omega), cond_true, t4b, Lib.slow_F4 _ _ _ _ _ hn h1 h2 h3 d2]
      · rw [E0 (show ((bt s i : Nat) : Int) ≠ 244 by omega), cond_false, t4c, Lib.slow_F1 _ _ _ _ _ hn h1 h2 h3 (by omega)]
  · rw [F (show ¬ ((bt s i : Nat) : Int) ≤ 244 by omega), cond_false, Lib.bad_eq _ _ _ _ _ hb (by unfold Lib.firstT; rw [if_neg c0, if_neg c1, if_neg c2, if_neg (by omega), if_neg (by omega), if_neg (by omega), if_neg c3, if_neg (by omega), if_neg (by omega), if_neg (by omega)])]
    rfl
end
theorem wd_pos (s : ByteArray) (i : Nat) : 1 ≤ wd s i := Lib.width_pos s i
theorem wd_le {s : ByteArray} {i : Nat} (h : i < s.size) : i + wd s i ≤ s.size := by
  unfold wd
  rw [Lib.decode_at]
  have := Lib.decodeN_width_le (s.size - i) (s.get! i).toNat (s.get! (i + 1)).toNat (s.get! (i + 2)).toNat (s.get! (i + 3)).toNat (by omega)
  omega
abbrev Ru := Int × Nat × Nat
def runesF (s : ByteArray) : Nat → Nat → List Ru
  | 0, _ => []
  | f + 1, i => if i < s.size then (rn s i, i, wd s i) :: runesF s f (i + wd s i) else []
theorem runesF_ge (s : ByteArray) : ∀ (f i : Nat), s.size ≤ i → runesF s f i = []
  | 0, _, _ => rfl
  | f + 1, i, h => by rw [runesF, if_neg (by omega)]
theorem runesF_any (s : ByteArray) : ∀ (f g i : Nat), s.size - i ≤ f → s.size - i ≤ g → runesF s f i = runesF s g i
  | 0, g, i, hf, _ => by rw [runesF_ge s g i (by omega), runesF]
  | f + 1, 0, i, _, hg => by rw [runesF_ge s (f + 1) i (by omega), runesF]
  | f + 1, g + 1, i, hf, hg => by
    rw [runesF, runesF]
    by_cases h : i < s.size
    · have := wd_pos s i
      rw [if_pos h, if_pos h, runesF_any s f g _ (by omega) (by omega)]
    · rw [if_neg h, if_neg h]
def runesL (s : ByteArray) (i : Nat) : List Ru := runesF s (s.size - i) i
theorem runesL_nil {s : ByteArray} {i : Nat} (h : s.size ≤ i) : runesL s i = [] := runesF_ge s _ i h
theorem runesL_cons {s : ByteArray} {i : Nat} (h : i < s.size) : runesL s i = (rn s i, i, wd s i) :: runesL s (i + wd s i) := by
  unfold runesL
  obtain ⟨f, hf⟩ : ∃ f, s.size - i = f + 1 := ⟨s.size - i - 1, by omega⟩
  have := wd_pos s i
  rw [hf, runesF, if_pos h, runesF_any s f (s.size - (i + wd s i)) _ (by omega) (by omega)]
theorem runesL_length {s : ByteArray} : ∀ (d i : Nat), s.size - i ≤ d → (runesL s i).length ≤ s.size - i := by
  intro d
  induction d with
  | zero => intro i h; rw [runesL_nil (by omega)]; simp
  | succ d ih =>
    intro i h
    by_cases hi : i < s.size
    · have := wd_pos s i
      have h2 := wd_le hi
      rw [runesL_cons hi, List.length_cons]
      have := ih (i + wd s i) (by omega)
      omega
    · rw [runesL_nil (by omega)]; simp
theorem asRef_eq (s : ByteArray) (i : Nat) : asRef (Utf8.decode s i) i = (rn s i, (i : Int), (wd s i : Int)) := rfl
theorem one_at {s : ByteArray} (hs : s.size ≤ 1048576) {i : Nat} (hi : i < s.size) : n176 (s, (i : Int)) = some (rn s i, (i : Int), (wd s i : Int)) := by rw [one_eq hs hi, asRef_eq]
def encR (r : Ru) : D := .agg [.val (.int .i64 r.1), .val (.int .i64 r.2.1), .val (.int .i64 r.2.2)]
theorem hasSize_map {α : Type} (f : α → D) (z : Nat) (hf : ∀ a, (f a).cells.length = z) : ∀ l : List α, hasSize z (l.map f) = true
  | [] => rfl
  | a :: l => by show ((f a).cells.length == z) = true; rw [hf a]; exact beq_iff_eq.2 rfl
theorem addOk_map {α : Type} (f : α → D) (z w : Nat) (hf : ∀ a, (f a).cells.length = z) (acc : List α) (a : α) (h : (acc.length + 1) * w ≤ maxBytes) : addOk (acc.map f).length (acc.map f) [f a] z w :=
  ⟨rfl, hasSize_map f z hf [a], hasSize_map f z hf acc, by simpa using h⟩
theorem toks_one {α : Type} (f : α → D) (acc : List α) (a : α) (k : Nat) : ([k, (acc.map f).length + ([f a] : List D).length] : List Nat) = [k, (acc.map f ++ [f a]).length] := by simp
theorem map_snoc {α : Type} (f : α → D) (acc : List α) (a : α) : acc.map f ++ [f a] = (acc ++ [a]).map f := by simp
theorem L126_step (s : ByteArray) (v3 : List D) (i k : Nat) (n : Nat) : L143_0 (n + 1) (s, v3, (i : Int), k) () = (bif (decide ((i : Int) < (s.size : Int))) then ((n176 (s, (i : Int))).bind fun y6 => (ask (addOk v3.length v3 ([.agg [.val (.int .i64 y6.1), .val (.int .i64 y6.2.1), .val (.int .i64 y6.2.2)]] : List D) 3 24) (ask (([k, (v3.length + ([.agg [.val (.int .i64 y6.1), .val (.int .i64 y6.2.1), .val (.int .i64 y6.2.2)]] : List D).length)] : List Nat) = [k, (v3 ++ ([.agg [.val (.int .i64 y6.1), .val (.int .i64 y6.2.1), .val (.int .i64 y6.2.2)]] : List D)).length]) (L143_0 n (s, (v3 ++ ([.agg [.val (.int .i64 y6.1), .val (.int .i64 y6.2.1), .val (.int .i64 y6.2.2)]] : List D)), (w64 ((i : Int) + y6.2.2)), k) ())))) else (ask (([k, v3.length] : List Nat) = [k, v3.length]) (some (O143_0.x0 v3 k, ())))) := rfl
theorem L126 {s : ByteArray} (hs : s.size ≤ 1048576) (k : Nat) : ∀ (d n i : Nat) (acc : List Ru), s.size - i ≤ d → d < n → acc.length ≤ i → i ≤ s.size → L143_0 n (s, acc.map encR, (i : Int), k) () = some (O143_0.x0 ((acc ++ runesL s i).map encR) k, ()) := by
  intro d
  induction d with
  | zero =>
    intro n i acc hd hn ha hi
    obtain ⟨m, rfl⟩ : ∃ m, n = m + 1 := ⟨n - 1, by omega⟩
    rw [L126_step, decide_eq_false (by omega), cond_false, ask_of rfl, runesL_nil (by omega), List.append_nil]
  | succ d ih =>
    intro n i acc hd hn ha hi
    obtain ⟨m, rfl⟩ : ∃ m, n = m + 1 := ⟨n - 1, by omega⟩
    by_cases h : i < s.size
    · have w1 := wd_pos s i
      have w2 := wd_le h
      have hadd := addOk_map encR 3 24 (fun _ => rfl) acc (rn s i, i, wd s i) (by unfold maxBytes; omega)
      have e5 : w64 ((i : Int) + (wd s i : Int)) = ((i + wd s i : Nat) : Int) := by rw [w64_id (by omega) (by omega)]; omega
      rw [L126_step, decide_eq_true (by omega), cond_true, one_at hs h, Option.bind_some]
      show ask (addOk (acc.map encR).length (acc.map encR) [encR (rn s i, i, wd s i)] 3 24) (ask (([k, (acc.map encR).length + ([encR (rn s i, i, wd s i)] : List D).length] : List Nat) = [k, (acc.map encR ++ [encR (rn s i, i, wd s i)]).length]) (L143_0 m (s, acc.map encR ++ [encR (rn s i, i, wd s i)], w64 ((i : Int) + (wd s i : Int)), k) ())) = _
      rw [ask_of hadd, ask_of (toks_one encR acc (rn s i, i, wd s i) k), e5]
      show L143_0 m (s, acc.map encR ++ [encR (rn s i, i, wd s i)], ((i + wd s i : Nat) : Int), k) () = _
      rw [map_snoc, ih m (i + wd s i) (acc ++ [(rn s i, i, wd s i)]) (by omega) (by omega) (by simp; omega) w2, runesL_cons h, List.append_assoc]
      rfl
    · rw [L126_step, decide_eq_false (by omega), cond_false, ask_of rfl, runesL_nil (by omega), List.append_nil]
theorem n126_eq {s : ByteArray} (hs : s.size ≤ 1048576) : n143 s = some ((runesL s 0).map encR) := by
  show (ask (([0, 0] : List Nat) = [0, ([] : List D).length]) ((L143_0 1000000000000 (s, ([] : List D), 0, 0) ()).bind fun p9 => match p9.1 with | .x0 z10 z11 => (some z10))) = _
  rw [ask_of (show ([0, 0] : List Nat) = [0, ([] : List D).length] from rfl)]
  have := L126 hs 0 s.size 1000000000000 0 [] (by omega) (by omega) (by simp) (by omega)
  rw [show ((0 : Nat) : Int) = 0 from rfl] at this
  show (L143_0 1000000000000 (s, ([] : List Ru).map encR, 0, 0) ()).bind _ = _
  rw [this]
  rfl
def letB (a0 : Int) : Bool := bif (bif (decide (a0 ≥ 97)) then (decide (a0 ≤ 122)) else false) then true else (bif (bif (decide (a0 ≥ 65)) then (decide (a0 ≤ 90)) else false) then true else (bif (a0 == 95) then true else (bif (bif (decide (a0 ≥ 192)) then (decide (a0 ≤ 591)) else false) then (bif (a0 != 215) then (a0 != 247) else false) else (bif (bif (decide (a0 ≥ 913)) then (decide (a0 ≤ 969)) else false) then (a0 != 930) else false))))
theorem n127_eq (r : Int) : n167 r = some (letB r) := by
  simp only [n167, letB, cond_some]
theorem n125_eq (r : Int) : n165 r = some (letB r) := by rw [letter_eq, n127_eq]
def restB (r : Int) : Bool := bif letB r then true else (bif (decide (r ≥ 48)) then (bif (decide (r ≤ 57)) then true else (r == 39)) else (r == 39))
theorem n128_eq (r : Int) : n168 r = some (restB r) := by
  show (n167 r).bind _ = _
  rw [n127_eq, Option.bind_some]
  simp only [restB, cond_some]
theorem letB_neg : letB (-1) = false := by decide +kernel
theorem letB_bad : letB 65533 = false := by decide +kernel
theorem restB_neg : restB (-1) = false := by decide +kernel
theorem restB_bad : restB 65533 = false := by decide +kernel
theorem raw_let (s : ByteArray) (i : Nat) : letB ((Utf8.decode s i).1 : Int) = letB (rn s i) := by
  unfold rn
  split
  · rename_i h
    rw [h, letB_neg]; exact letB_bad
  · rfl
theorem raw_rest (s : ByteArray) (i : Nat) : restB ((Utf8.decode s i).1 : Int) = restB (rn s i) := by
  unfold rn
  split
  · rename_i h
    rw [h, restB_neg]; exact restB_bad
  · rfl
def okFrom : Bool → List Ru → Bool
  | _, [] => true
  | true, r :: l => letB r.1 && okFrom false l
  | false, r :: l => restB r.1 && okFrom false l
theorem L107_step (s : ByteArray) (v : Int) (i n : Nat) : L126_0 (n + 1) (v, s, i) () = (bif decide (i < s.size) then ((n165 ((Utf8.decode s i).1 : Int)).bind fun y5 => (bif (!y5) then (bif ((w64 (v + 1)) == 1) then (some (O126_0.x0 21 s (i + (Utf8.decode s i).2), ())) else (bif (((Utf8.decode s i).1 : Int) != 39) then (bif (decide (((Utf8.decode s i).1 : Int) < 48)) then (some (O126_0.x0 21 s (i + (Utf8.decode s i).2), ())) else (bif (decide (((Utf8.decode s i).1 : Int) > 57)) then (some (O126_0.x0 21 s (i + (Utf8.decode s i).2), ())) else (L126_0 n ((w64 (v + 1)), s, (i + (Utf8.decode s i).2)) ()))) else (L126_0 n ((w64 (v + 1)), s, (i + (Utf8.decode s i).2)) ()))) else (L126_0 n ((w64 (v + 1)), s, (i + (Utf8.decode s i).2)) ()))) else (some (O126_0.x1 v s i, ()))) := rfl
theorem L107 {s : ByteArray} (hs : s.size ≤ 1048576) : ∀ (d n i c : Nat), s.size - i ≤ d → d < n → c ≤ i → i ≤ s.size →
    ∃ j, L126_0 n ((c : Int), s, i) () = some (if okFrom (decide (c = 0)) (runesL s i) = true then O126_0.x1 ((c + (runesL s i).length : Nat) : Int) s j else O126_0.x0 21 s j, ()) := by
  intro d
  induction d with
  | zero =>
    intro n i c hd hn hc hi
    obtain ⟨m, rfl⟩ : ∃ m, n = m + 1 := ⟨n - 1, by omega⟩
    rw [L107_step, decide_eq_false (by omega), cond_false, runesL_nil (by omega)]
    exact ⟨i, by rw [if_pos (by simp [okFrom])]; rfl⟩
  | succ d ih =>
    intro n i c hd hn hc hi
    obtain ⟨m, rfl⟩ : ∃ m, n = m + 1 := ⟨n - 1, by omega⟩
    by_cases h : i < s.size
    · have w1 := wd_pos s i
      have w2 := wd_le h
      have e5 : w64 ((c : Int) + 1) = ((c + 1 : Nat) : Int) := by rw [w64_id (by omega) (by omega)]; omega
      obtain ⟨j, hj⟩ := ih m (i + wd s i) (c + 1) (by omega) (by omega) (by omega) w2
      have hj' : L126_0 m (((c + 1 : Nat) : Int), s, i + (Utf8.decode s i).2) () = _ := hj
      rw [show decide (c + 1 = 0) = false by simp] at hj'
      rw [L107_step, decide_eq_true h, cond_true, e5, n125_eq, Option.bind_some, raw_let, runesL_cons h]
      have hlen : c + (runesL s (i + wd s i)).length + 1 = c + 1 + (runesL s (i + wd s i)).length := by omega
      cases hl : letB (rn s i) with
      | true =>
        refine ⟨j, ?_⟩
        have hr : restB (rn s i) = true := by simp [restB, hl]
        have ho : okFrom (decide (c = 0)) ((rn s i, i, wd s i) :: runesL s (i + wd s i)) = okFrom false (runesL s (i + wd s i)) := by
          cases decide (c = 0) with
          | true => simp [okFrom, hl]
          | false => simp [okFrom, hr]
        rw [ho, List.length_cons]
        show L126_0 m (((c + 1 : Nat) : Int), s, i + (Utf8.decode s i).2) () = _
        rw [hj', show c + ((runesL s (i + wd s i)).length + 1) = c + 1 + (runesL s (i + wd s i)).length by omega]
      | false =>
        by_cases hc0 : c = 0
        · subst hc0
          refine ⟨i + (Utf8.decode s i).2, ?_⟩
          have ho : okFrom (decide ((0 : Nat) = 0)) ((rn s i, i, wd s i) :: runesL s (i + wd s i)) = false := by simp [okFrom, hl]
          rw [ho, if_neg (by simp)]
          rfl
        · have b1 : ((((c + 1 : Nat)) : Int) == 1) = false := by rw [beq_eq_false_iff_ne]; omega
          have hrr := raw_rest s i
          have hlr := raw_let s i
          rw [hl] at hlr
          have ho : okFrom (decide (c = 0)) ((rn s i, i, wd s i) :: runesL s (i + wd s i)) = (restB (rn s i) && okFrom false (runesL s (i + wd s i))) := by
            rw [decide_eq_false hc0]; rfl
          rw [ho, ← hrr, List.length_cons]
          simp only [restB, hlr, cond_false, Bool.not_false, cond_true, b1]
          generalize hR : ((Utf8.decode s i).1 : Int) = R
          have done : (some (O126_0.x0 21 s (i + (Utf8.decode s i).2), ()) : Option (O126_0 × Unit)) = some (if (false && okFrom false (runesL s (i + wd s i))) = true then O126_0.x1 ((c + ((runesL s (i + wd s i)).length + 1) : Nat) : Int) s (i + (Utf8.decode s i).2) else O126_0.x0 21 s (i + (Utf8.decode s i).2), ()) := by
            rw [Bool.false_and, if_neg (by simp)]
          have next : L126_0 m (((c + 1 : Nat) : Int), s, i + (Utf8.decode s i).2) () = some (if (true && okFrom false (runesL s (i + wd s i))) = true then O126_0.x1 ((c + ((runesL s (i + wd s i)).length + 1) : Nat) : Int) s j else O126_0.x0 21 s j, ()) := by
            rw [Bool.true_and, hj', show c + ((runesL s (i + wd s i)).length + 1) = c + 1 + (runesL s (i + wd s i)).length by omega]
          by_cases h39 : R = 39
          · have a1 : (R != 39) = false := by rw [h39]; rfl
            have a2 : (R == 39) = true := by rw [h39]; rfl
            have a3 : decide (R ≥ 48) = false := by rw [h39]; rfl
            refine ⟨j, ?_⟩
            rw [a1, a2, a3, cond_false, cond_false]
            exact next
          · have a1 : (R != 39) = true := by rw [bne_iff_ne]; exact h39
            have a2 : (R == 39) = false := by rw [beq_eq_false_iff_ne]; exact h39
            rw [a1, a2, cond_true]
            by_cases h48 : R < 48
            · refine ⟨i + (Utf8.decode s i).2, ?_⟩
              rw [decide_eq_true h48, cond_true, decide_eq_false (by omega : ¬ R ≥ 48), cond_false]
              exact done
            · by_cases h57 : R > 57
              · refine ⟨i + (Utf8.decode s i).2, ?_⟩
                rw [decide_eq_false h48, cond_false, decide_eq_true h57, cond_true, decide_eq_true (by omega : R ≥ 48), cond_true, decide_eq_false (by omega : ¬ R ≤ 57), cond_false]
                exact done
              · refine ⟨j, ?_⟩
                rw [decide_eq_false h48, cond_false, decide_eq_false h57, cond_false, decide_eq_true (by omega : R ≥ 48), cond_true, decide_eq_true (by omega : R ≤ 57), cond_true]
                exact next
    · rw [L107_step, decide_eq_false h, cond_false, runesL_nil (by omega)]
      exact ⟨i, by rw [if_pos (by simp [okFrom])]; rfl⟩
def isName (s : ByteArray) : Bool := decide (1 ≤ (runesL s 0).length ∧ (runesL s 0).length ≤ 32) && okFrom true (runesL s 0)
theorem n107_eq {s : ByteArray} (hs : s.size ≤ 1048576) : n126 s = some (bif isName s then 0 else 21) := by
  obtain ⟨j, hj⟩ := L107 hs s.size 1000000000000 0 0 (by omega) (by omega) (by omega) (by omega)
  show (((L126_0 1000000000000 (0, s, 0) ()).bind fun p12 => match p12.1 with | .x0 z13 z14 z15 => (some z13) | .x1 z16 z17 z18 => (bif (bif (z16 == 0) then true else (decide (z16 > 32))) then (some 21) else (some 0))) : Option Int) = _
  rw [show (0 : Int) = ((0 : Nat) : Int) from rfl, hj, Option.bind_some, show decide ((0 : Nat) = 0) = true from rfl, Nat.zero_add]
  unfold isName
  cases okFrom true (runesL s 0) with
  | false => rw [Bool.and_false, if_neg (by simp)]; rfl
  | true =>
    rw [Bool.and_true, if_pos rfl]
    simp only
    by_cases h0 : (runesL s 0).length = 0
    · rw [h0]; rfl
    · have b0 : ((((runesL s 0).length : Nat) : Int) == ((0 : Nat) : Int)) = false := by rw [beq_eq_false_iff_ne]; omega
      rw [b0, cond_false]
      by_cases h32 : (runesL s 0).length ≤ 32
      · rw [decide_eq_false (by omega), cond_false, decide_eq_true (by omega)]; rfl
      · rw [decide_eq_true (by omega), cond_true, decide_eq_false (by omega)]; rfl
theorem lidx_map {α : Type} (f : α → D) (l : List α) (k : Nat) : lidx (l.map f) (k : Int) = (l[k]?).map f := by
  unfold lidx
  rw [if_pos (by omega), Int.toNat_natCast, List.getElem?_map]
theorem L108_step (v : List D) (k n : Nat) : L127_0 (n + 1) (v, (k : Int)) () = (bif (decide ((k : Int) < ((v.length : Nat) : Int))) then ((lidx v (k : Int)).bind fun d9 => ask (d9.cells.length = 3) ((cellAt 0 d9).bind fun x10 => (asInt .i64 x10).bind fun x11 => ((n168 x11).bind fun y12 => (bif (!y12) then (some (O127_0.x0 false, ())) else (L127_0 n (v, (w64 ((k : Int) + 1))) ()))))) else (some (O127_0.x1 , ()))) := rfl
theorem L108 {l : List Ru} (hl : l.length ≤ 1048576) : ∀ (d n k : Nat), l.length - k ≤ d → d < n → k ≤ l.length → L127_0 n (l.map encR, (k : Int)) () = some (if okFrom false (l.drop k) = true then O127_0.x1 else O127_0.x0 false, ()) := by
  intro d
  induction d with
  | zero =>
    intro n k hd hn hk
    obtain ⟨m, rfl⟩ : ∃ m, n = m + 1 := ⟨n - 1, by omega⟩
    rw [L108_step, List.length_map, decide_eq_false (by omega), cond_false, List.drop_eq_nil_of_le (by omega)]
    rfl
  | succ d ih =>
    intro n k hd hn hk
    obtain ⟨m, rfl⟩ : ∃ m, n = m + 1 := ⟨n - 1, by omega⟩
    by_cases h : k < l.length
    · have e5 : w64 ((k : Int) + 1) = ((k + 1 : Nat) : Int) := by rw [w64_id (by omega) (by omega)]; omega
      rw [L108_step, List.length_map, decide_eq_true (by omega), cond_true, lidx_map, List.getElem?_eq_getElem h, Option.map_some, Option.bind_some, ask_of (show (encR l[k]).cells.length = 3 from rfl)]
      show (n168 (l[k]).1).bind _ = _
      rw [n128_eq, Option.bind_some, e5, List.drop_eq_getElem_cons h]
      cases hr : restB (l[k]).1 with
      | false =>
        rw [if_neg (by simp [okFrom, hr])]; rfl
      | true =>
        rw [Bool.not_true, cond_false, ih m (k + 1) (by omega) (by omega) (by omega)]
        simp [okFrom, hr]
    · rw [L108_step, List.length_map, decide_eq_false (by omega), cond_false, List.drop_eq_nil_of_le (by omega)]
      rfl
theorem n108_eq {s : ByteArray} (hs : s.size ≤ 1048576) : n127 s = some (isName s) := by
  have hle := runesL_length (s := s) s.size 0 (by omega)
  show ((n143 s).bind fun y2 => (bif (bif (decide (((y2.length : Nat) : Int) < 1)) then true else (decide (((y2.length : Nat) : Int) > 32))) then (some false) else ((lidx y2 0).bind fun d3 => ask (d3.cells.length = 3) ((cellAt 0 d3).bind fun x4 => (asInt .i64 x4).bind fun x5 => ((n167 x5).bind fun y6 => (bif (!y6) then (some false) else ((L127_0 1000000000000 (y2, 1) ()).bind fun p14 => match p14.1 with | .x0 z15 => (some z15) | .x1  => (some true)))))))) = _
  rw [n126_eq hs, Option.bind_some, List.length_map]
  unfold isName
  by_cases h0 : (runesL s 0).length < 1
  · rw [decide_eq_true (by omega), cond_true, cond_true, decide_eq_false (by omega), Bool.false_and]
  · rw [decide_eq_false (by omega), cond_false]
    by_cases h32 : (runesL s 0).length > 32
    · rw [decide_eq_true (by omega), cond_true, decide_eq_false (by omega), Bool.false_and]
    · have hl := L108 (l := runesL s 0) (by omega) (runesL s 0).length 1000000000000 1 (by omega) (by omega) (by omega)
      rw [decide_eq_false (by omega), cond_false, decide_eq_true (by omega), Bool.true_and, show (0 : Int) = ((0 : Nat) : Int) from rfl, lidx_map, List.getElem?_eq_getElem (by omega), Option.map_some, Option.bind_some, ask_of (show (encR (runesL s 0)[0]).cells.length = 3 from rfl)]
      show (n167 ((runesL s 0)[0]).1).bind _ = _
      rw [n127_eq, Option.bind_some]
      have hc : okFrom true (runesL s 0) = (letB ((runesL s 0)[0]).1 && okFrom false ((runesL s 0).drop 1)) := by
        have : runesL s 0 = (runesL s 0)[0] :: (runesL s 0).drop 1 := by
          conv => lhs; rw [← List.drop_zero (l := runesL s 0), List.drop_eq_getElem_cons (by omega)]
        conv => lhs; rw [this]
        rfl
      rw [hc]
      cases letB ((runesL s 0)[0]).1 with
      | false => rfl
      | true =>
        rw [Bool.not_true, cond_false, Bool.true_and, show (1 : Int) = ((1 : Nat) : Int) from rfl, hl, Option.bind_some]
        cases okFrom false ((runesL s 0).drop 1) <;> rfl
end Ev

set_option linter.unusedSimpArgs false
set_option linter.unusedVariables false
namespace Ev
open Go
inductive V where
  | mk (k i m : Int) (t : ByteArray) (l : List V)
mutual
def V.d : V → D
  | .mk k i m t l => .agg [.val (.int .i64 k), .val (.int .i64 i), .val (.int .i64 m), .val (.string t), .slice (V.ds l)]
def V.ds : List V → List D
  | [] => []
  | v :: l => v.d :: V.ds l
end
theorem V.ds_eq : ∀ l : List V, V.ds l = l.map V.d
  | [] => by rw [V.ds]; rfl
  | v :: l => by rw [V.ds, V.ds_eq l]; rfl
theorem V.d_mk (k i m : Int) (t : ByteArray) (l : List V) : (V.mk k i m t l).d = .agg [.val (.int .i64 k), .val (.int .i64 i), .val (.int .i64 m), .val (.string t), .slice (V.ds l)] := by rw [V.d]
def V.tup : V → Int × Int × Int × ByteArray × List D
  | .mk k i m t l => (k, i, m, t, V.ds l)
theorem lidx_ds (l : List V) (i : Nat) : lidx (V.ds l) (i : Int) = (l[i]?).map V.d := by rw [V.ds_eq, lidx_map]
theorem ds_length (l : List V) : (V.ds l).length = l.length := by rw [V.ds_eq, List.length_map]
mutual
def V.nodes : V → Nat
  | .mk _ _ _ _ l => 1 + V.nodesL l
def V.nodesL : List V → Nat
  | [] => 0
  | v :: l => v.nodes + V.nodesL l
end
mutual
def V.hgt : V → Nat
  | .mk _ _ _ _ l => 1 + V.hgtL l
def V.hgtL : List V → Nat
  | [] => 0
  | v :: l => max v.hgt (V.hgtL l)
end
mutual
def V.big : V → Nat
  | .mk _ _ _ t l => 1 + t.size + V.bigL l
def V.bigL : List V → Nat
  | [] => 0
  | v :: l => v.big + V.bigL l
end
theorem V.hgt_pos (v : V) : 1 ≤ v.hgt := by cases v; rw [V.hgt]; omega
theorem V.big_pos (v : V) : 1 ≤ v.big := by cases v; rw [V.big]; omega
theorem V.len_bigL : ∀ l : List V, l.length ≤ V.bigL l
  | [] => by simp [V.bigL]
  | v :: l => by
    have := V.len_bigL l
    have := v.big_pos
    rw [V.bigL, List.length_cons]; omega
theorem V.mem_bigL : ∀ {l : List V} {v : V}, v ∈ l → v.big ≤ V.bigL l
  | w :: l, v, h => by
    rw [V.bigL]
    rcases List.mem_cons.1 h with rfl | h
    · omega
    · have := V.mem_bigL h; omega
theorem V.mem_hgtL : ∀ {l : List V} {v : V}, v ∈ l → v.hgt ≤ V.hgtL l
  | w :: l, v, h => by
    rw [V.hgtL]
    rcases List.mem_cons.1 h with rfl | h
    · omega
    · have := V.mem_hgtL h; omega
theorem drop_cons {α : Type} {l : List α} {i : Nat} {v : α} {r : List α} (h : l.drop i = v :: r) : l[i]? = some v ∧ l.drop (i + 1) = r ∧ i < l.length ∧ v ∈ l := by
  have hi : i < l.length := by
    rcases Nat.lt_or_ge i l.length with hi | hi
    · exact hi
    · rw [List.drop_eq_nil_of_le hi] at h; cases h
  rw [List.drop_eq_getElem_cons hi] at h
  injection h with h1 h2
  refine ⟨by rw [List.getElem?_eq_getElem hi, h1], h2, hi, ?_⟩
  rw [← h1]; exact List.getElem_mem hi
theorem drop_nil {α : Type} {l : List α} {i : Nat} (h : l.drop i = []) : l.length ≤ i := by simpa using h
theorem next_idx {i : Nat} (h : i < 9223372036854775807) : w64 ((i : Int) + 1) = ((i + 1 : Nat) : Int) := by rw [w64_id (by omega) (by omega)]; omega
def Fits (c dep : Nat) (v : V) : Prop := c + v.nodes ≤ 4096 ∧ dep + v.hgt ≤ 17
def FitsL (c dep : Nat) (l : List V) : Prop := c + V.nodesL l ≤ 4096 ∧ dep + V.hgtL l ≤ 16
def Good45 (k c dep : Nat) (v : V) : Prop := ∃ m c' : Nat, n112 k ((c : Int), v.tup.1, v.tup.2.1, v.tup.2.2.1, v.tup.2.2.2.1, v.tup.2.2.2.2, (dep : Int)) = some ((m : Int), (c' : Int)) ∧ m ≤ 17 ∧ c' ≤ 4097 ∧
  ((Fits c dep v ∧ m + 1 = dep + v.hgt ∧ c' = c + v.nodes) ∨ (¬ Fits c dep v ∧ (c' > 4096 ∨ m > 16)))
theorem L45_step (F : Int × Int × Int × Int × ByteArray × List D × Int → Option (Int × Int)) (n : Nat) (dep most : Int) (l : List V) (i : Nat) (len c x1 x2 x3 : Int) (x4 : ByteArray) (x5 : List D) (k im mm : Int) (t : ByteArray) (s : List V) (h : l[i]? = some (.mk k im mm t s)) :
    L112_0 F (n + 1) (dep, most, V.ds l, len, (i : Int), c, x1, x2, x3, x4, x5) () = (bif (decide ((i : Int) < len)) then ((F (c, k, im, mm, t, V.ds s, (w64 (dep + 1)))).bind fun y31 => (bif (bif (decide (y31.2 > 4096)) then true else (decide ((if y31.1 > most then y31.1 else most) > 16))) then (some (O112_0.x0 (if y31.1 > most then y31.1 else most) (if y31.1 > most then y31.1 else most) y31.2 x1 x2 x3 x4 x5, ())) else (L112_0 F n (dep, (if y31.1 > most then y31.1 else most), V.ds l, len, (w64 ((i : Int) + 1)), y31.2, x1, x2, x3, x4, x5) ()))) else (some (O112_0.x1 most c x1 x2 x3 x4 x5, ()))) := by
  rw [L112_0, lidx_ds, h, Option.map_some, Option.bind_some, V.d_mk]
  rfl
theorem L45_end (F : Int × Int × Int × Int × ByteArray × List D × Int → Option (Int × Int)) (n : Nat) (dep most : Int) (l : List D) (i : Nat) (len c x1 x2 x3 : Int) (x4 : ByteArray) (x5 : List D) (h : ¬ (i : Int) < len) :
    L112_0 F (n + 1) (dep, most, l, len, (i : Int), c, x1, x2, x3, x4, x5) () = (some (O112_0.x1 most c x1 x2 x3 x4 x5, ())) := by
  rw [L112_0, decide_eq_false h, cond_false]
theorem L45 {k : Nat} {l : List V} (hl : l.length ≤ 1048576) {dep : Nat} (hk : ∀ (c : Nat) (v : V), v ∈ l → c ≤ 4096 → Good45 k c (dep + 1) v) (hd : 1 ≤ dep ∧ dep ≤ 16) (x1 x2 x3 : Int) (x4 : ByteArray) (x5 : List D) : ∀ (rest : List V) (n i c most : Nat), l.drop i = rest → rest.length < n → c ≤ 4096 → dep ≤ most → most ≤ 16 →
    ∃ m c' : Nat, (L112_0 (n112 k) n ((dep : Int), (most : Int), V.ds l, ((l.length : Nat) : Int), (i : Int), (c : Int), x1, x2, x3, x4, x5) () = some (O112_0.x1 (m : Int) (c' : Int) x1 x2 x3 x4 x5, ()) ∧ FitsL c dep rest ∧ m = max most (dep + V.hgtL rest) ∧ c' = c + V.nodesL rest) ∨ (L112_0 (n112 k) n ((dep : Int), (most : Int), V.ds l, ((l.length : Nat) : Int), (i : Int), (c : Int), x1, x2, x3, x4, x5) () = some (O112_0.x0 (m : Int) (m : Int) (c' : Int) x1 x2 x3 x4 x5, ()) ∧ ¬ FitsL c dep rest ∧ m ≤ 17 ∧ c' ≤ 4097 ∧ (c' > 4096 ∨ m > 16)) := by
  intro rest
  induction rest with
  | nil =>
    intro n i c most hr hn hc hm1 hm2
    obtain ⟨n, rfl⟩ : ∃ m, n = m + 1 := ⟨n - 1, by simp at hn; omega⟩
    have := drop_nil hr
    refine ⟨most, c, .inl ⟨L45_end _ _ _ _ _ _ _ _ _ _ _ _ _ (by omega), ⟨by simp [V.nodesL]; omega, by simp [V.hgtL]; omega⟩, by simp [V.hgtL]; omega, by simp [V.nodesL]⟩⟩
  | cons v rest ih =>
    intro n i c most hr hn hc hm1 hm2
    obtain ⟨n, rfl⟩ : ∃ m, n = m + 1 := ⟨n - 1, by simp at hn; omega⟩
    obtain ⟨h1, h2, h3, h4⟩ := drop_cons hr
    obtain ⟨m, c', e1, e2, e3, e4⟩ := hk c v h4 hc
    obtain ⟨k0, i0, m0, t0, l0⟩ := v
    rw [L45_step _ _ _ _ _ _ _ _ _ _ _ _ _ _ _ _ _ _ h1, decide_eq_true (by omega : (i : Int) < ((l.length : Nat) : Int)), cond_true, next_idx (i := dep) (by omega)]
    simp only [V.tup] at e1
    rw [e1, Option.bind_some]
    have hmx : (if (m : Int) > (most : Int) then (m : Int) else (most : Int)) = ((max most m : Nat) : Int) := by split <;> omega
    simp only [hmx]
    rw [next_idx (i := i) (by omega)]
    have hp := V.hgt_pos (.mk k0 i0 m0 t0 l0)
    rcases e4 with ⟨f1, f2, f3⟩ | ⟨f1, f2⟩
    · 
      unfold Fits at f1
      rw [decide_eq_false (by omega : ¬ (c' : Int) > 4096), cond_false, decide_eq_false (by omega : ¬ ((max most m : Nat) : Int) > 16), cond_false]
      obtain ⟨m2, c2, g⟩ := ih n (i + 1) c' (max most m) h2 (by simp at hn; omega) (by omega) (by omega) (by omega)
      refine ⟨m2, c2, ?_⟩
      rcases g with ⟨g1, g2, g3, g4⟩ | ⟨g1, g2, g3⟩
      · left
        refine ⟨g1, ?_, ?_, ?_⟩
        · unfold FitsL at g2 ⊢
          rw [V.nodesL, V.hgtL]; omega
        · rw [V.hgtL]; omega
        · rw [V.nodesL]; omega
      · right
        refine ⟨g1, ?_, g3⟩
        intro q
        apply g2
        unfold FitsL at q ⊢
        rw [V.nodesL, V.hgtL] at q; omega
    · 
      have hb : (bif (decide ((c' : Int) > 4096)) then true else (decide (((max most m : Nat) : Int) > 16))) = true := by
        rcases f2 with f2 | f2
        · rw [decide_eq_true (by omega)]; rfl
        · rw [decide_eq_true (by omega : ((max most m : Nat) : Int) > 16)]; cases decide ((c' : Int) > 4096) <;> rfl
      rw [hb, cond_true]
      refine ⟨max most m, c', .inr ⟨rfl, ?_, by omega, e3, by omega⟩⟩
      intro q
      apply f1
      unfold FitsL at q
      unfold Fits
      rw [V.nodesL, V.hgtL] at q; omega
theorem good45 : ∀ (k c dep : Nat) (v : V), v.big ≤ 1048576 → c ≤ 4096 → 1 ≤ dep → dep ≤ 17 → 18 ≤ k + dep → Good45 k c dep v := by
  intro k
  induction k with
  | zero => intro c dep v _ _ _ h1 h2; omega
  | succ k ih =>
    intro c dep v hb hc h0 h1 h2
    obtain ⟨k0, i0, m0, t0, l0⟩ := v
    have hp : 1 ≤ 1 + V.hgtL l0 := by omega
    unfold Good45
    rw [n112]
    simp only [V.tup]
    rw [next_idx (i := c) (by omega)]
    rw [V.big] at hb
    have hll := V.len_bigL l0
    by_cases hx : c + 1 > 4096
    · rw [decide_eq_true (by omega : ((c + 1 : Nat) : Int) > 4096), cond_true, cond_true]
      exact ⟨dep, c + 1, rfl, by omega, by omega, .inr ⟨fun q => by unfold Fits at q; rw [V.nodes] at q; omega, by omega⟩⟩
    · rw [decide_eq_false (by omega : ¬ ((c + 1 : Nat) : Int) > 4096), cond_false]
      by_cases hy : dep > 16
      · rw [decide_eq_true (by omega : (dep : Int) > 16), cond_true]
        exact ⟨dep, c + 1, rfl, by omega, by omega, .inr ⟨fun q => by unfold Fits at q; rw [V.hgt] at q; omega, by omega⟩⟩
      · rw [decide_eq_false (by omega : ¬ (dep : Int) > 16), cond_false, ds_length]
        obtain ⟨m, c', g⟩ := L45 (k := k) (l := l0) (by omega) (dep := dep) (fun c v hv hc => ih c (dep + 1) v (by have := V.mem_bigL hv; omega) hc (by omega) (by omega) (by omega)) (by omega) k0 i0 m0 t0 (V.ds l0) l0 1000000000000 0 (c + 1) dep (by simp) (by omega) (by omega) (Nat.le_refl _) (by omega)
        rcases g with ⟨g1, g2, g3, g4⟩ | ⟨g1, g2, g3, g4, g5⟩
        · rw [show ((0 : Nat) : Int) = 0 from rfl] at g1
          rw [g1]
          unfold FitsL at g2
          refine ⟨m, c', rfl, by omega, by omega, .inl ⟨?_, ?_, ?_⟩⟩
          · unfold Fits; rw [V.nodes, V.hgt]; omega
          · rw [V.hgt]; omega
          · rw [V.nodes]; omega
        · rw [show ((0 : Nat) : Int) = 0 from rfl] at g1
          rw [g1]
          refine ⟨m, c', rfl, g3, g4, .inr ⟨?_, g5⟩⟩
          intro q
          apply g2
          unfold Fits at q
          unfold FitsL
          rw [V.nodes, V.hgt] at q; omega
def V.small (v : V) : Bool := decide (v.nodes ≤ 4096 ∧ v.hgt ≤ 16)
theorem small_eq {v : V} (hb : v.big ≤ 1048576) : n59 v.tup = some v.small := by
  obtain ⟨m, c', e1, e2, e3, e4⟩ := good45 64 0 1 v hb (by omega) (by omega) (by omega) (by omega)
  obtain ⟨k0, i0, m0, t0, l0⟩ := v
  simp only [V.tup, n59] at e1 ⊢
  rw [show (0 : Int) = ((0 : Nat) : Int) from rfl, show (1 : Int) = ((1 : Nat) : Int) from rfl, e1, Option.bind_some]
  congr 1
  unfold V.small
  rcases e4 with ⟨f1, f2, f3⟩ | ⟨f1, f2⟩
  · unfold Fits at f1
    rw [decide_eq_true (by omega : (m : Int) ≤ 16), cond_true, decide_eq_true (by omega : (c' : Int) ≤ 4096), decide_eq_true (by omega)]
  · rw [decide_eq_false (p := V.nodes _ ≤ 4096 ∧ _) (fun q => f1 ⟨by omega, by omega⟩)]
    by_cases hm : (m : Int) ≤ 16
    · rw [decide_eq_true hm, cond_true, decide_eq_false (by omega)]
    · rw [decide_eq_false hm, cond_false]
def Good41 (k c dep : Nat) (v : V) : Prop := ∃ c' : Nat, n109 k (v.tup.1, v.tup.2.1, v.tup.2.2.1, v.tup.2.2.2.1, v.tup.2.2.2.2, (c : Int), (dep : Int)) = some (c' : Int) ∧ c' ≤ 4097 ∧
  ((Fits c dep v ∧ c' = c + v.nodes) ∨ (¬ Fits c dep v ∧ c' > 4096))
theorem L41_step (F : Int × Int × Int × ByteArray × List D × Int × Int → Option Int) (n : Nat) (dep : Int) (l : List V) (i : Nat) (c x1 x2 x3 : Int) (x4 : ByteArray) (k im mm : Int) (t : ByteArray) (s : List V) (h : l[i]? = some (.mk k im mm t s)) :
    L109_0 F (n + 1) (c, dep, (i : Int), x1, x2, x3, x4, V.ds l) () = (bif (decide ((i : Int) < ((l.length : Nat) : Int))) then ((F (k, im, mm, t, V.ds s, c, (w64 (dep + 1)))).bind fun y27 => (bif (decide (y27 > 4096)) then (some (O109_0.x0 y27 y27 x1 x2 x3 x4 (V.ds l), ())) else (L109_0 F n (y27, dep, (w64 ((i : Int) + 1)), x1, x2, x3, x4, V.ds l) ()))) else (some (O109_0.x1 c x1 x2 x3 x4 (V.ds l), ()))) := by
  rw [L109_0, lidx_ds, h, Option.map_some, Option.bind_some, V.d_mk, ds_length]
  rfl
theorem L41_end (F : Int × Int × Int × ByteArray × List D × Int × Int → Option Int) (n : Nat) (dep : Int) (l : List V) (i : Nat) (c x1 x2 x3 : Int) (x4 : ByteArray) (h : l.length ≤ i) :
    L109_0 F (n + 1) (c, dep, (i : Int), x1, x2, x3, x4, V.ds l) () = (some (O109_0.x1 c x1 x2 x3 x4 (V.ds l), ())) := by
  rw [L109_0, ds_length, decide_eq_false (by omega), cond_false]
theorem L41c {k : Nat} {l : List V} (hl : l.length ≤ 1048576) {dep : Nat} (hk : ∀ (c : Nat) (v : V), v ∈ l → c ≤ 4096 → Good41 k c (dep + 1) v) (hd : 1 ≤ dep ∧ dep ≤ 16) (x1 x2 x3 : Int) (x4 : ByteArray) : ∀ (rest : List V) (n i c : Nat), l.drop i = rest → rest.length < n → c ≤ 4096 →
    ∃ c' : Nat, (L109_0 (n109 k) n ((c : Int), (dep : Int), (i : Int), x1, x2, x3, x4, V.ds l) () = some (O109_0.x1 (c' : Int) x1 x2 x3 x4 (V.ds l), ()) ∧ FitsL c dep rest ∧ c' = c + V.nodesL rest) ∨ (L109_0 (n109 k) n ((c : Int), (dep : Int), (i : Int), x1, x2, x3, x4, V.ds l) () = some (O109_0.x0 (c' : Int) (c' : Int) x1 x2 x3 x4 (V.ds l), ()) ∧ ¬ FitsL c dep rest ∧ c' ≤ 4097 ∧ c' > 4096) := by
  intro rest
  induction rest with
  | nil =>
    intro n i c hr hn hc
    obtain ⟨n, rfl⟩ : ∃ m, n = m + 1 := ⟨n - 1, by simp at hn; omega⟩
    have := drop_nil hr
    refine ⟨c, .inl ⟨L41_end _ _ _ _ _ _ _ _ _ _ this, ⟨by simp [V.nodesL]; omega, by simp [V.hgtL]; omega⟩, by simp [V.nodesL]⟩⟩
  | cons v rest ih =>
    intro n i c hr hn hc
    obtain ⟨n, rfl⟩ : ∃ m, n = m + 1 := ⟨n - 1, by simp at hn; omega⟩
    obtain ⟨h1, h2, h3, h4⟩ := drop_cons hr
    obtain ⟨c', e1, e3, e4⟩ := hk c v h4 hc
    obtain ⟨k0, i0, m0, t0, l0⟩ := v
    rw [L41_step _ _ _ _ _ _ _ _ _ _ _ _ _ _ _ h1, decide_eq_true (by omega : (i : Int) < ((l.length : Nat) : Int)), cond_true, next_idx (i := dep) (by omega)]
    simp only [V.tup] at e1
    rw [e1, Option.bind_some, next_idx (i := i) (by omega)]
    rcases e4 with ⟨f1, f3⟩ | ⟨f1, f2⟩
    · unfold Fits at f1
      rw [decide_eq_false (by omega : ¬ (c' : Int) > 4096), cond_false]
      obtain ⟨c2, g⟩ := ih n (i + 1) c' h2 (by simp at hn; omega) (by omega)
      refine ⟨c2, ?_⟩
      have hp := V.hgt_pos (.mk k0 i0 m0 t0 l0)
      rcases g with ⟨g1, g2, g4⟩ | ⟨g1, g2, g3⟩
      · left
        refine ⟨g1, ?_, ?_⟩
        · unfold FitsL at g2 ⊢
          rw [V.nodesL, V.hgtL]; omega
        · rw [V.nodesL]; omega
      · right
        refine ⟨g1, ?_, g3⟩
        intro q
        apply g2
        unfold FitsL at q ⊢
        rw [V.nodesL, V.hgtL] at q; omega
    · rw [decide_eq_true (by omega : (c' : Int) > 4096), cond_true]
      refine ⟨c', .inr ⟨rfl, ?_, e3, f2⟩⟩
      intro q
      apply f1
      unfold FitsL at q
      unfold Fits
      rw [V.nodesL, V.hgtL] at q; omega
theorem good41 : ∀ (k c dep : Nat) (v : V), v.big ≤ 1048576 → c ≤ 4096 → 1 ≤ dep → dep ≤ 17 → 18 ≤ k + dep → Good41 k c dep v := by
  intro k
  induction k with
  | zero => intro c dep v _ _ _ h1 h2; omega
  | succ k ih =>
    intro c dep v hb hc h0 h1 h2
    obtain ⟨k0, i0, m0, t0, l0⟩ := v
    unfold Good41
    rw [n109]
    simp only [V.tup]
    rw [next_idx (i := c) (by omega)]
    rw [V.big] at hb
    have hll := V.len_bigL l0
    by_cases hx : c + 1 > 4096
    · rw [decide_eq_true (by omega : ((c + 1 : Nat) : Int) > 4096), cond_true, cond_true]
      exact ⟨4097, rfl, by omega, .inr ⟨fun q => by unfold Fits at q; rw [V.nodes] at q; omega, by omega⟩⟩
    · rw [decide_eq_false (by omega : ¬ ((c + 1 : Nat) : Int) > 4096), cond_false]
      by_cases hy : dep > 16
      · rw [decide_eq_true (by omega : (dep : Int) > 16), cond_true]
        exact ⟨4097, rfl, by omega, .inr ⟨fun q => by unfold Fits at q; rw [V.hgt] at q; omega, by omega⟩⟩
      · rw [decide_eq_false (by omega : ¬ (dep : Int) > 16), cond_false]
        obtain ⟨c', g⟩ := L41c (k := k) (l := l0) (by omega) (dep := dep) (fun c v hv hc => ih c (dep + 1) v (by have := V.mem_bigL hv; omega) hc (by omega) (by omega) (by omega)) (by omega) k0 i0 m0 t0 l0 1000000000000 0 (c + 1) (by simp) (by omega) (by omega)
        rcases g with ⟨g1, g2, g4⟩ | ⟨g1, g2, g3, g4⟩
        · rw [show ((0 : Nat) : Int) = 0 from rfl] at g1
          rw [g1]
          unfold FitsL at g2
          refine ⟨c', rfl, by omega, .inl ⟨?_, ?_⟩⟩
          · unfold Fits; rw [V.nodes, V.hgt]; omega
          · rw [V.nodes]; omega
        · rw [show ((0 : Nat) : Int) = 0 from rfl] at g1
          rw [g1]
          refine ⟨c', rfl, g3, .inr ⟨?_, g4⟩⟩
          intro q
          apply g2
          unfold Fits at q
          unfold FitsL
          rw [V.nodes, V.hgt] at q; omega
theorem counted_eq {v : V} (hb : v.big ≤ 1048576) : ∃ c' : Int, n109 64 (v.tup.1, v.tup.2.1, v.tup.2.2.1, v.tup.2.2.2.1, v.tup.2.2.2.2, 0, 1) = some c' ∧ decide (c' ≤ 4096) = v.small := by
  obtain ⟨c', e1, e3, e4⟩ := good41 64 0 1 v hb (by omega) (by omega) (by omega) (by omega)
  refine ⟨c', e1, ?_⟩
  unfold V.small
  rcases e4 with ⟨f1, f3⟩ | ⟨f1, f2⟩
  · unfold Fits at f1
    rw [decide_eq_true (by omega : (c' : Int) ≤ 4096), decide_eq_true (by omega)]
  · rw [decide_eq_false (by omega : ¬ (c' : Int) ≤ 4096), decide_eq_false (fun q => f1 ⟨by omega, by omega⟩)]
end Ev

set_option linter.unusedSimpArgs false
set_option linter.unusedVariables false
namespace Ev
open Go
def lex (a b : Int) : Int := if a = 0 then b else a
def c3 (a b : Int) : Int := if a < b then -1 else if a > b then 1 else 0
def cB (s t : ByteArray) : Int := Lib.compareBytes s.data.toList t.data.toList
def cLen (a b : Nat) : Int := c3 a b
mutual
def V.cmp : V → V → Int
  | .mk k i m t l, .mk k' i' m' t' l' => lex (c3 k k') (lex (cLen l.length l'.length) (lex (c3 i i') (lex (c3 m m') (lex (cB t t') (V.cmpL l l')))))
def V.cmpL : List V → List V → Int
  | [], [] => 0
  | [], _ :: _ => -1
  | _ :: _, [] => 1
  | a :: l, b :: l' => lex (a.cmp b) (V.cmpL l l')
end
mutual
def V.cmpR : V → V → Int
  | .mk k i m t l, .mk k' i' m' t' l' => lex (c3 k k') (lex (c3 i i') (lex (c3 m m') (lex (cB t t') (lex (cLen l.length l'.length) (V.cmpRL l l')))))
def V.cmpRL : List V → List V → Int
  | [], [] => 0
  | [], _ :: _ => -1
  | _ :: _, [] => 1
  | a :: l, b :: l' => lex (a.cmpR b) (V.cmpRL l l')
end
theorem lex_ne {a b : Int} (h : a ≠ 0) : lex a b = a := if_neg h
theorem lex_eq {a b : Int} (h : a = 0) : lex a b = b := if_pos h
theorem c3_ne {a b : Int} (h : a ≠ b) : c3 a b ≠ 0 := by unfold c3; split <;> (try split) <;> omega
theorem c3_eq (a : Int) : c3 a a = 0 := by unfold c3; split <;> (try split) <;> omega
theorem c3_zero {a b : Int} : c3 a b = 0 ↔ a = b := ⟨fun h => Classical.byContradiction fun q => c3_ne q h, fun h => h ▸ c3_eq a⟩
def Tri (x y z : Int) : Prop := (-1 ≤ x ∧ x ≤ 1) ∧ (-1 ≤ y ∧ y ≤ 1) ∧ (-1 ≤ z ∧ z ≤ 1) ∧ (0 < x ∨ 0 < y ∨ z < 0 ∨ (x = 0 ∧ y = 0 ∧ z = 0)) ∧ (x < 0 ∨ y < 0 ∨ 0 < z ∨ (x = 0 ∧ y = 0 ∧ z = 0))
theorem Tri.lex {x y z x' y' z' : Int} (h : Tri x y z) (h' : Tri x' y' z') : Tri (lex x x') (lex y y') (lex z z') := by
  unfold Tri Ev.lex at *
  obtain ⟨a1, a2, a3, a4, a5⟩ := h
  obtain ⟨b1, b2, b3, b4, b5⟩ := h'
  by_cases hx : x = 0 <;> by_cases hy : y = 0 <;> by_cases hz : z = 0 <;> simp only [hx, hy, hz, if_true, if_false] <;> refine ⟨by omega, by omega, by omega, by omega, by omega⟩
theorem Tri.c3 (a b c : Int) : Tri (c3 a b) (c3 b c) (c3 a c) := by
  unfold Tri Ev.c3
  by_cases h1 : a < b <;> by_cases h2 : a > b <;> by_cases h3 : b < c <;> by_cases h4 : b > c <;> by_cases h5 : a < c <;> by_cases h6 : a > c <;> simp only [h1, h2, h3, h4, h5, h6, if_true, if_false] <;> (first | omega | decide)
theorem u8_lt (a b : UInt8) : a < b ↔ a.toNat < b.toNat := UInt8.lt_iff_toNat_lt
theorem compareBytes_cons (a b : UInt8) (l l' : List UInt8) : Lib.compareBytes (a :: l) (b :: l') = lex (c3 a.toNat b.toNat) (Lib.compareBytes l l') := by
  rw [Lib.compareBytes]
  unfold lex c3
  simp only [u8_lt]
  by_cases h : a.toNat < b.toNat
  · simp only [h, show (a.toNat : Int) < b.toNat from by omega, if_true]
    rfl
  · by_cases h' : b.toNat < a.toNat
    · simp only [h, h', show ¬ (a.toNat : Int) < b.toNat from by omega, show (a.toNat : Int) > b.toNat from by omega, if_true, if_false]
      rfl
    · simp only [h, h', show ¬ (a.toNat : Int) < b.toNat from by omega, show ¬ (a.toNat : Int) > b.toNat from by omega, if_true, if_false]
def Rg (x : Int) : Prop := -1 ≤ x ∧ x ≤ 1
theorem Rg.lex {x y : Int} (h : Rg x) (h' : Rg y) : Rg (lex x y) := by
  unfold Ev.lex; split
  · exact h'
  · exact h
theorem Rg.c3 (a b : Int) : Rg (c3 a b) := by unfold Rg Ev.c3; split <;> (try split) <;> omega
theorem Rg.bytes : ∀ a b : List UInt8, Rg (Lib.compareBytes a b)
  | [], [] => by simp [Lib.compareBytes, Rg]
  | [], _ :: _ => by simp [Lib.compareBytes, Rg]
  | _ :: _, [] => by simp [Lib.compareBytes, Rg]
  | x :: a, y :: b => by rw [compareBytes_cons]; exact Rg.lex (Rg.c3 _ _) (Rg.bytes a b)
theorem Tri.bytes : ∀ a b c : List UInt8, Tri (Lib.compareBytes a b) (Lib.compareBytes b c) (Lib.compareBytes a c)
  | [], [], [] => by simp [Lib.compareBytes, Tri]
  | [], [], _ :: _ => by simp [Lib.compareBytes, Tri]
  | [], _ :: _, [] => by simp [Lib.compareBytes, Tri]
  | _ :: _, [], [] => by simp [Lib.compareBytes, Tri]
  | x :: a, [], z :: c => by
    have := Rg.bytes (x :: a) (z :: c)
    unfold Rg at this
    unfold Tri
    simp only [Lib.compareBytes] at this ⊢
    refine ⟨by omega, by omega, this, by omega, by omega⟩
  | [], y :: b, z :: c => by
    have := Rg.bytes (y :: b) (z :: c)
    unfold Rg at this
    unfold Tri
    simp only [Lib.compareBytes] at this ⊢
    refine ⟨by omega, this, by omega, by omega, by omega⟩
  | x :: a, y :: b, [] => by
    have := Rg.bytes (x :: a) (y :: b)
    unfold Rg at this
    unfold Tri
    simp only [Lib.compareBytes] at this ⊢
    refine ⟨this, by omega, by omega, by omega, by omega⟩
  | x :: a, y :: b, z :: c => by
    rw [compareBytes_cons, compareBytes_cons, compareBytes_cons]
    exact Tri.lex (Tri.c3 _ _ _) (Tri.bytes a b c)
theorem Tri.cB (a b c : ByteArray) : Tri (cB a b) (cB b c) (cB a c) := Tri.bytes _ _ _
theorem lex_neg {a b a' b' : Int} (h : a' = -a) (h' : b' = -b) : lex a' b' = -(lex a b) := by
  unfold lex; split <;> split <;> omega
theorem c3_neg (a b : Int) : c3 b a = -(c3 a b) := by
  unfold c3
  by_cases h : a < b
  · rw [if_neg (by omega), if_pos (by omega), if_pos h]; rfl
  · by_cases h' : b < a
    · rw [if_pos h', if_neg h, if_pos (by omega)]
    · rw [if_neg h', if_neg (by omega), if_neg h, if_neg (by omega)]; rfl
theorem bytes_neg : ∀ a b : List UInt8, Lib.compareBytes b a = -(Lib.compareBytes a b)
  | [], [] => rfl
  | [], _ :: _ => rfl
  | _ :: _, [] => rfl
  | x :: a, y :: b => by
    rw [compareBytes_cons, compareBytes_cons]
    exact lex_neg (c3_neg _ _) (bytes_neg a b)
mutual
theorem V.cmp_neg : ∀ a b : V, b.cmp a = -(a.cmp b)
  | .mk k i m t l, .mk k' i' m' t' l' => by
    rw [V.cmp, V.cmp]
    exact lex_neg (c3_neg _ _) (lex_neg (c3_neg _ _) (lex_neg (c3_neg _ _) (lex_neg (c3_neg _ _) (lex_neg (bytes_neg _ _) (V.cmpL_neg l l')))))
theorem V.cmpL_neg : ∀ a b : List V, V.cmpL b a = -(V.cmpL a b)
  | [], [] => by rw [V.cmpL]; rfl
  | [], _ :: _ => by rw [V.cmpL, V.cmpL]; rfl
  | _ :: _, [] => by rw [V.cmpL, V.cmpL]
  | x :: a, y :: b => by
    rw [V.cmpL, V.cmpL]
    exact lex_neg (V.cmp_neg x y) (V.cmpL_neg a b)
end
theorem V.cmp_self (a : V) : a.cmp a = 0 := by
  have := V.cmp_neg a a; omega
theorem less_iff : ∀ a b : List UInt8, Op.bytesLess a b = decide (Lib.compareBytes a b < 0)
  | [], [] => by simp [Op.bytesLess, Lib.compareBytes]
  | [], _ :: _ => by simp [Op.bytesLess, Lib.compareBytes]
  | _ :: _, [] => by simp [Op.bytesLess, Lib.compareBytes]
  | x :: a, y :: b => by
    rw [Op.bytesLess, compareBytes_cons, less_iff a b]
    rw [Bool.eq_iff_iff]
    simp only [Bool.or_eq_true, Bool.and_eq_true, decide_eq_true_eq, beq_iff_eq, u8_lt, ← UInt8.toNat_inj]
    unfold lex c3
    by_cases h : x.toNat < y.toNat
    · simp only [h, show (x.toNat : Int) < y.toNat from by omega, if_true]
      simp
    · by_cases h' : x.toNat = y.toNat
      · simp only [h', Int.lt_irrefl, gt_iff_lt, if_false, if_true, Nat.lt_irrefl, false_or, true_and]
      · simp only [h, h', show ¬ (x.toNat : Int) < y.toNat from by omega, show (x.toNat : Int) > y.toNat from by omega, if_true, if_false, false_and, or_false, false_iff]
        simp
theorem compareBytes_zero : ∀ a b : List UInt8, Lib.compareBytes a b = 0 ↔ a = b
  | [], [] => by simp [Lib.compareBytes]
  | [], _ :: _ => by simp [Lib.compareBytes]
  | _ :: _, [] => by simp [Lib.compareBytes]
  | x :: a, y :: b => by
    rw [compareBytes_cons]
    unfold lex
    split
    · rename_i h
      rw [c3_zero] at h
      rw [compareBytes_zero a b]
      have : x = y := UInt8.toNat_inj.1 (by omega)
      simp [this]
    · rename_i h
      constructor
      · intro q; exact absurd q h
      · intro q; injection q with q1 q2; rw [q1] at h; exact absurd (c3_eq _) h
theorem cB_zero (s t : ByteArray) : cB s t = 0 ↔ s = t := by
  unfold cB
  rw [compareBytes_zero]
  exact ⟨fun h => ByteArray.ext (Array.toList_inj.1 h), fun h => h ▸ rfl⟩
theorem sLt_eq (s t : ByteArray) : sLt s t = decide (cB s t < 0) := by
  have e : ∀ x : ByteArray, x.toList = x.data.toList := fun x => by simp [ByteArray.toList_eq]
  unfold sLt cB
  rw [less_iff, e, e]
theorem sEq_eq (s t : ByteArray) : sEq s t = decide (cB s t = 0) := by
  rw [Bool.eq_iff_iff, sEq_iff, decide_eq_true_eq, cB_zero]
theorem n80_c3 (a b : Int) : n124 (decide (a < b), decide (a > b)) = some (c3 a b) := by
  unfold n124 c3
  by_cases h : a < b
  · simp [h]
  · simp only [h, decide_false, cond_false, if_false]
    by_cases h' : a > b <;> simp [h']
theorem n80_ne {a b : Int} (h : a ≠ b) : n124 (decide (a < b), true) = some (c3 a b) := by
  unfold n124 c3
  by_cases h' : a < b
  · simp [h']
  · simp only [h', decide_false, cond_false, if_false, cond_true]
    rw [if_pos (by omega)]
theorem n51_c3 (a b : Int) : n177 (decide (a < b), decide (a > b)) = some (c3 a b) := n80_c3 a b
theorem n51_cB (s t : ByteArray) : n177 (sLt s t, !(sLt s t || sEq s t)) = some (cB s t) := by
  have h := (Tri.cB s t t).1
  rw [sLt_eq, sEq_eq]
  unfold n177
  by_cases h1 : cB s t < 0
  · simp only [h1, decide_true, cond_true]; congr 1; omega
  · by_cases h2 : cB s t = 0
    · rw [h2]; rfl
    · simp only [h1, h2, decide_false, cond_false, Bool.false_or, Bool.not_false, cond_true]; congr 1; omega
def V.two : V → V → Int × Int × Int × ByteArray × List D × Int × Int × Int × ByteArray × List D
  | .mk k i m t l, .mk k' i' m' t' l' => (k, i, m, t, V.ds l, k', i', m', t', V.ds l')
theorem L49_2_raw (F : Int × Int × Int × ByteArray × List D × Int × Int × Int × ByteArray × List D → Option Int) (n : Nat) (l l' : List V) (i : Nat) (len x1 x2 x3 : Int) (x4 : ByteArray) (x5 : List D) (y1 y2 y3 : Int) (y4 : ByteArray) (q : Nat) (k im mm : Int) (t : ByteArray) (s : List V) (k' im' mm' : Int) (t' : ByteArray) (s' : List V) (h : l[i]? = some (.mk k im mm t s)) (h' : l'[i]? = some (.mk k' im' mm' t' s')) :
    L66_2 F (n + 1) (V.ds l, len, (i : Int), x1, x2, x3, x4, x5, y1, y2, y3, y4, V.ds l', q) () = (bif decide ((i : Int) < len) then ((F (k, im, mm, t, V.ds s, k', im', mm', t', V.ds s')).bind fun y115 => (bif (y115 != 0) then (ask (([q] : List Nat) = [q]) (some (O66_2.x0 y115 x1 x2 x3 x4 x5 y1 y2 y3 y4 (V.ds l') q, ()))) else (ask (([q] : List Nat) = [q]) (L66_2 F n (V.ds l, len, (w64 ((i : Int) + 1)), x1, x2, x3, x4, x5, y1, y2, y3, y4, V.ds l', q) ())))) else (ask (([q] : List Nat) = [q]) (some (O66_2.x1 x1 x2 x3 x4 x5 y1 y2 y3 y4 (V.ds l') q, ())))) := by
  rw [L66_2, lidx_ds, lidx_ds, h, h', Option.map_some, Option.map_some, Option.bind_some, V.d_mk, V.d_mk]
  rfl
theorem L49_2_step (F : Int × Int × Int × ByteArray × List D × Int × Int × Int × ByteArray × List D → Option Int) (n : Nat) (l l' : List V) (i : Nat) (x1 x2 x3 : Int) (x4 : ByteArray) (x5 : List D) (y1 y2 y3 : Int) (y4 : ByteArray) (q : Nat) (v w : V) (h : l[i]? = some v) (h' : l'[i]? = some w) (hi : i < l.length) :
    L66_2 F (n + 1) (V.ds l, ((l.length : Nat) : Int), (i : Int), x1, x2, x3, x4, x5, y1, y2, y3, y4, V.ds l', q) () = ((F (v.two w)).bind fun y115 => (bif (y115 != 0) then (some (O66_2.x0 y115 x1 x2 x3 x4 x5 y1 y2 y3 y4 (V.ds l') q, ())) else (L66_2 F n (V.ds l, ((l.length : Nat) : Int), (w64 ((i : Int) + 1)), x1, x2, x3, x4, x5, y1, y2, y3, y4, V.ds l', q) ()))) := by
  obtain ⟨k, im, mm, t, s⟩ := v
  obtain ⟨k', im', mm', t', s'⟩ := w
  rw [L49_2_raw F n l l' i _ x1 x2 x3 x4 x5 y1 y2 y3 y4 q k im mm t s k' im' mm' t' s' h h', decide_eq_true (by omega : (i : Int) < ((l.length : Nat) : Int)), cond_true]
  simp only [ask_of (show ([q] : List Nat) = [q] from rfl)]
  rfl
theorem L49_2_eq {F : Int × Int × Int × ByteArray × List D × Int × Int × Int × ByteArray × List D → Option Int} {l l' : List V} (hl : l.length ≤ 1048576) (hF : ∀ v ∈ l, ∀ w, F (v.two w) = some (v.cmp w)) (x1 x2 x3 : Int) (x4 : ByteArray) (x5 : List D) (y1 y2 y3 : Int) (y4 : ByteArray) (q : Nat) : ∀ (rest rest' : List V) (n i : Nat), l.drop i = rest → l'.drop i = rest' → rest.length = rest'.length → rest.length < n →
    L66_2 F n (V.ds l, ((l.length : Nat) : Int), (i : Int), x1, x2, x3, x4, x5, y1, y2, y3, y4, V.ds l', q) () = some (if V.cmpL rest rest' = 0 then O66_2.x1 x1 x2 x3 x4 x5 y1 y2 y3 y4 (V.ds l') q else O66_2.x0 (V.cmpL rest rest') x1 x2 x3 x4 x5 y1 y2 y3 y4 (V.ds l') q, ()) := by
  intro rest
  induction rest with
  | nil =>
    intro rest' n i hr hr' he hn
    obtain ⟨n, rfl⟩ : ∃ m, n = m + 1 := ⟨n - 1, by simp at hn; omega⟩
    have : rest' = [] := by cases rest' with | nil => rfl | cons => simp at he
    subst this
    have := drop_nil hr
    rw [L66_2, decide_eq_false (by omega), cond_false, V.cmpL, if_pos rfl]
    exact ask_of rfl
  | cons v rest ih =>
    intro rest' n i hr hr' he hn
    obtain ⟨n, rfl⟩ : ∃ m, n = m + 1 := ⟨n - 1, by simp at hn; omega⟩
    obtain ⟨w, rest', rfl⟩ : ∃ w r, rest' = w :: r := by cases rest' with | nil => simp at he | cons w r => exact ⟨w, r, rfl⟩
    obtain ⟨h1, h2, h3, h4⟩ := drop_cons hr
    obtain ⟨g1, g2, g3, g4⟩ := drop_cons hr'
    rw [L49_2_step F n l l' i x1 x2 x3 x4 x5 y1 y2 y3 y4 q v w h1 g1 h3, hF v h4 w, Option.bind_some, next_idx (by omega), V.cmpL]
    by_cases hz : v.cmp w = 0
    · rw [lex_eq hz, hz, show ((0 : Int) != 0) = false from rfl, cond_false, ih rest' n (i + 1) h2 g2 (by simpa using he) (by simp at hn; omega)]
    · rw [lex_ne hz, if_neg hz, show (v.cmp w != 0) = true by rw [bne_iff_ne]; exact hz, cond_true]
theorem L49_0_eq (F : Int × Int × Int × ByteArray × List D × Int × Int × Int × ByteArray × List D → Option Int) (a b c : Int) (x1 x2 x3 : Int) (x4 : ByteArray) (x5 : List D) (y1 y2 y3 : Int) (y4 : ByteArray) (y5 : List D) :
    L66_0 F 1000000000000 (([.val (.int .i64 a), .val (.int .i64 b), .val (.int .i64 c)] : List D), ((([.val (.int .i64 a), .val (.int .i64 b), .val (.int .i64 c)] : List D).length : Nat) : Int), 0, x1, x2, x3, x4, x5, y1, y2, y3, y4, y5) () = some (if lex a (lex b c) = 0 then O66_0.x1 x1 x2 x3 x4 x5 y1 y2 y3 y4 y5 3 else O66_0.x0 (lex a (lex b c)) x1 x2 x3 x4 x5 y1 y2 y3 y4 y5 3, ()) := by
  have step : ∀ (n : Nat) (i : Nat) (x : Int), ([.val (.int .i64 a), .val (.int .i64 b), .val (.int .i64 c)] : List D)[i]? = some (.val (.int .i64 x)) → i < 3 →
      L66_0 F (n + 1) (([.val (.int .i64 a), .val (.int .i64 b), .val (.int .i64 c)] : List D), ((([.val (.int .i64 a), .val (.int .i64 b), .val (.int .i64 c)] : List D).length : Nat) : Int), (i : Int), x1, x2, x3, x4, x5, y1, y2, y3, y4, y5) () = (bif (x != 0) then (some (O66_0.x0 x x1 x2 x3 x4 x5 y1 y2 y3 y4 y5 3, ())) else (L66_0 F n (([.val (.int .i64 a), .val (.int .i64 b), .val (.int .i64 c)] : List D), ((([.val (.int .i64 a), .val (.int .i64 b), .val (.int .i64 c)] : List D).length : Nat) : Int), ((i + 1 : Nat) : Int), x1, x2, x3, x4, x5, y1, y2, y3, y4, y5) ())) := by
    intro n i x hx hi
    rw [L66_0, show lidx ([.val (.int .i64 a), .val (.int .i64 b), .val (.int .i64 c)] : List D) (i : Int) = some (.val (.int .i64 x)) by unfold lidx; rw [if_pos (by omega), Int.toNat_natCast]; exact hx, decide_eq_true (show (i : Int) < _ by show (i : Int) < (3 : Int); omega), cond_true, next_idx (by omega)]
    rfl
  obtain ⟨n, hn⟩ : ∃ n, 1000000000000 = n + 1 + 1 + 1 + 1 := ⟨999999999996, rfl⟩
  rw [hn, show (0 : Int) = ((0 : Nat) : Int) from rfl, step _ 0 a rfl (by omega)]
  by_cases ha : a = 0
  · rw [lex_eq ha, ha, show ((0 : Int) != 0) = false from rfl, cond_false]
    subst ha
    rw [step _ 1 b rfl (by omega)]
    by_cases hb : b = 0
    · rw [lex_eq hb, hb, show ((0 : Int) != 0) = false from rfl, cond_false]
      subst hb
      rw [step _ 2 c rfl (by omega)]
      by_cases hc : c = 0
      · rw [hc, show ((0 : Int) != 0) = false from rfl, cond_false, L66_0, show decide (((2 + 1 : Nat) : Int) < ((([.val (.int .i64 0), .val (.int .i64 0), .val (.int .i64 0)] : List D).length : Nat) : Int)) = false from rfl, cond_false, ask_of rfl]
        rfl
      · rw [show (c != 0) = true by rw [bne_iff_ne]; exact hc, cond_true, if_neg (by simpa using hc)]
    · rw [lex_ne hb, show (b != 0) = true by rw [bne_iff_ne]; exact hb, cond_true, if_neg (by simpa using hb)]
  · rw [lex_ne ha, show (a != 0) = true by rw [bne_iff_ne]; exact ha, cond_true, if_neg (by simpa using ha)]
theorem bnat (a b : Nat) : (((a : Nat) : Int) != ((b : Nat) : Int)) = decide (a ≠ b) := by
  rw [Bool.eq_iff_iff, bne_iff_ne, decide_eq_true_eq]; omega
theorem n49_eq : ∀ (k : Nat) (v w : V), v.hgt ≤ k → v.big ≤ 1048576 → n66 k (v.two w) = some (v.cmp w) := by
  intro k
  induction k with
  | zero => intro v w h; have := v.hgt_pos; omega
  | succ k ih =>
    intro v w h hb
    obtain ⟨k0, i0, m0, t0, l0⟩ := v
    obtain ⟨k', i', m', t', l'⟩ := w
    rw [V.hgt] at h
    rw [V.big] at hb
    have hll := V.len_bigL l0
    simp only [V.two]
    rw [n66, V.cmp]
    by_cases hk : k0 = k'
    · subst hk
      rw [show (k0 != k0) = false by simp, cond_false, ds_length, ds_length, lex_eq (c3_eq k0), bnat]
      by_cases hl : l0.length = l'.length
      · rw [show decide (l0.length ≠ l'.length) = false by simp [hl], cond_false, lex_eq (show cLen _ _ = 0 by unfold cLen; rw [hl]; exact c3_eq _), n80_c3, n80_c3]
        simp only [Option.bind_some, n125]
        refine (ask_of (by simp)).trans ?_
        rw [L49_0_eq, Option.bind_some, show Lib.compareBytes t0.data.toList t'.data.toList = cB t0 t' from rfl]
        have hass : lex (c3 i0 i') (lex (c3 m0 m') (lex (cB t0 t') (V.cmpL l0 l'))) = lex (lex (c3 i0 i') (lex (c3 m0 m') (cB t0 t'))) (V.cmpL l0 l') := by
          unfold lex
          by_cases p : c3 i0 i' = 0 <;> by_cases q : c3 m0 m' = 0 <;> by_cases r : cB t0 t' = 0 <;> simp [p, q, r]
        rw [hass]
        by_cases hz : lex (c3 i0 i') (lex (c3 m0 m') (cB t0 t')) = 0
        · rw [lex_eq hz, if_pos hz]
          dsimp only
          rw [ask_of trivial, ds_length, show (0 : Int) = ((0 : Nat) : Int) from rfl, L49_2_eq (F := n66 k) (l := l0) (l' := l') (by omega) (fun v hv w => ih v w (by have := V.mem_hgtL hv; omega) (by have := V.mem_bigL hv; omega)) _ _ _ _ _ _ _ _ _ _ l0 l' 1000000000000 0 (by simp) (by simp) hl (by omega), Option.bind_some]
          by_cases hc : V.cmpL l0 l' = 0
          · rw [if_pos hc, hc]; rfl
          · rw [if_neg hc]
        · rw [lex_ne hz, if_neg hz]
      · rw [show decide (l0.length ≠ l'.length) = true by simp [hl], cond_true, lex_ne (show cLen _ _ ≠ 0 by unfold cLen; exact c3_ne (by omega)), n80_ne (by omega)]
        rfl
    · rw [show (k0 != k') = true by rw [bne_iff_ne]; exact hk, cond_true, lex_ne (c3_ne hk), n80_ne hk]
      rfl
end Ev

set_option linter.unusedSimpArgs false
set_option linter.unusedVariables false
namespace Ev
open Go
theorem L50_raw (F : Int × Int × Int × ByteArray × List D × Int × Int × Int × ByteArray × List D → Option Int) (n : Nat) (l l' : List V) (i : Nat) (x1 x2 x3 : Int) (x4 : ByteArray) (y1 y2 y3 : Int) (y4 : ByteArray) (k im mm : Int) (t : ByteArray) (s : List V) (k' im' mm' : Int) (t' : ByteArray) (s' : List V) (h : l[i]? = some (.mk k im mm t s)) (h' : l'[i]? = some (.mk k' im' mm' t' s')) :
    L144_0 F (n + 1) ((i : Int), x1, x2, x3, x4, V.ds l, y1, y2, y3, y4, V.ds l') () = (bif decide ((i : Int) < ((l.length : Nat) : Int)) then ((F (k, im, mm, t, V.ds s, k', im', mm', t', V.ds s')).bind fun y49 => (bif (y49 != 0) then (some (O144_0.x0 y49 x1 x2 x3 x4 (V.ds l) y1 y2 y3 y4 (V.ds l'), ())) else (L144_0 F n ((w64 ((i : Int) + 1)), x1, x2, x3, x4, V.ds l, y1, y2, y3, y4, V.ds l') ()))) else (some (O144_0.x1 x1 x2 x3 x4 (V.ds l) y1 y2 y3 y4 (V.ds l'), ()))) := by
  rw [L144_0, lidx_ds, lidx_ds, h, h', Option.map_some, Option.map_some, Option.bind_some, V.d_mk, V.d_mk, ds_length]
  rfl
theorem L50_step (F : Int × Int × Int × ByteArray × List D × Int × Int × Int × ByteArray × List D → Option Int) (n : Nat) (l l' : List V) (i : Nat) (x1 x2 x3 : Int) (x4 : ByteArray) (y1 y2 y3 : Int) (y4 : ByteArray) (v w : V) (h : l[i]? = some v) (h' : l'[i]? = some w) (hi : i < l.length) :
    L144_0 F (n + 1) ((i : Int), x1, x2, x3, x4, V.ds l, y1, y2, y3, y4, V.ds l') () = ((F (v.two w)).bind fun y49 => (bif (y49 != 0) then (some (O144_0.x0 y49 x1 x2 x3 x4 (V.ds l) y1 y2 y3 y4 (V.ds l'), ())) else (L144_0 F n ((w64 ((i : Int) + 1)), x1, x2, x3, x4, V.ds l, y1, y2, y3, y4, V.ds l') ()))) := by
  obtain ⟨k, im, mm, t, s⟩ := v
  obtain ⟨k', im', mm', t', s'⟩ := w
  rw [L50_raw F n l l' i x1 x2 x3 x4 y1 y2 y3 y4 k im mm t s k' im' mm' t' s' h h', decide_eq_true (by omega : (i : Int) < ((l.length : Nat) : Int)), cond_true]
  rfl
theorem L50_eq {F : Int × Int × Int × ByteArray × List D × Int × Int × Int × ByteArray × List D → Option Int} {l l' : List V} (hl : l.length ≤ 1048576) (hF : ∀ v ∈ l, ∀ w, F (v.two w) = some (v.cmpR w)) (x1 x2 x3 : Int) (x4 : ByteArray) (y1 y2 y3 : Int) (y4 : ByteArray) : ∀ (rest rest' : List V) (n i : Nat), l.drop i = rest → l'.drop i = rest' → rest.length = rest'.length → rest.length < n →
    L144_0 F n ((i : Int), x1, x2, x3, x4, V.ds l, y1, y2, y3, y4, V.ds l') () = some (if V.cmpRL rest rest' = 0 then O144_0.x1 x1 x2 x3 x4 (V.ds l) y1 y2 y3 y4 (V.ds l') else O144_0.x0 (V.cmpRL rest rest') x1 x2 x3 x4 (V.ds l) y1 y2 y3 y4 (V.ds l'), ()) := by
  intro rest
  induction rest with
  | nil =>
    intro rest' n i hr hr' he hn
    obtain ⟨n, rfl⟩ : ∃ m, n = m + 1 := ⟨n - 1, by simp at hn; omega⟩
    have : rest' = [] := by cases rest' with | nil => rfl | cons => simp at he
    subst this
    have := drop_nil hr
    rw [L144_0, ds_length, decide_eq_false (by omega), cond_false, V.cmpRL, if_pos rfl]
  | cons v rest ih =>
    intro rest' n i hr hr' he hn
    obtain ⟨n, rfl⟩ : ∃ m, n = m + 1 := ⟨n - 1, by simp at hn; omega⟩
    obtain ⟨w, rest', rfl⟩ : ∃ w r, rest' = w :: r := by cases rest' with | nil => simp at he | cons w r => exact ⟨w, r, rfl⟩
    obtain ⟨h1, h2, h3, h4⟩ := drop_cons hr
    obtain ⟨g1, g2, g3, g4⟩ := drop_cons hr'
    rw [L50_step F n l l' i x1 x2 x3 x4 y1 y2 y3 y4 v w h1 g1 h3, hF v h4 w, Option.bind_some, next_idx (by omega), V.cmpRL]
    by_cases hz : v.cmpR w = 0
    · rw [lex_eq hz, hz, show ((0 : Int) != 0) = false from rfl, cond_false, ih rest' n (i + 1) h2 g2 (by simpa using he) (by simp at hn; omega)]
    · rw [lex_ne hz, if_neg hz, show (v.cmpR w != 0) = true by rw [bne_iff_ne]; exact hz, cond_true]
theorem bne_self {a b : Int} (h : a = b) : (a != b) = false := by rw [h]; simp
theorem bne_of {a b : Int} (h : a ≠ b) : (a != b) = true := by rw [bne_iff_ne]; exact h
theorem n50_eq : ∀ (k : Nat) (v w : V), v.hgt ≤ k → v.big ≤ 1048576 → n144 k (v.two w) = some (v.cmpR w) := by
  intro k
  induction k with
  | zero => intro v w h; have := v.hgt_pos; omega
  | succ k ih =>
    intro v w h hb
    obtain ⟨k0, i0, m0, t0, l0⟩ := v
    obtain ⟨k', i', m', t', l'⟩ := w
    rw [V.hgt] at h
    rw [V.big] at hb
    have hll := V.len_bigL l0
    simp only [V.two]
    rw [n144, V.cmpR, ds_length, ds_length, n51_c3, n51_c3, n51_c3, n51_c3, n51_cB]
    simp only [Option.bind_some]
    by_cases hk : k0 = k'
    · rw [bne_self hk, cond_false, lex_eq (c3_zero.2 hk)]
      by_cases hi : i0 = i'
      · rw [bne_self hi, cond_false, lex_eq (c3_zero.2 hi)]
        by_cases hm : m0 = m'
        · rw [bne_self hm, cond_false, lex_eq (c3_zero.2 hm)]
          by_cases ht : cB t0 t' = 0
          · rw [sEq_eq, decide_eq_true ht, Bool.not_true, cond_false, lex_eq ht]
            by_cases hl : l0.length = l'.length
            · rw [bne_self (by omega), cond_false, lex_eq (by unfold cLen; exact c3_zero.2 (by omega)), show (0 : Int) = ((0 : Nat) : Int) from rfl, L50_eq (F := n144 k) (l := l0) (l' := l') (by omega) (fun v hv w => ih v w (by have := V.mem_hgtL hv; omega) (by have := V.mem_bigL hv; omega)) _ _ _ _ _ _ _ _ l0 l' 1000000000000 0 (by simp) (by simp) hl (by omega), Option.bind_some]
              by_cases hc : V.cmpRL l0 l' = 0
              · rw [if_pos hc, hc]; rfl
              · rw [if_neg hc]
            · rw [bne_of (by omega), cond_true, lex_ne (by unfold cLen; exact c3_ne (by omega))]
              rfl
          · rw [sEq_eq, decide_eq_false ht, Bool.not_false, cond_true, lex_ne ht]
        · rw [bne_of hm, cond_true, lex_ne (c3_ne hm)]
      · rw [bne_of hi, cond_true, lex_ne (c3_ne hi)]
    · rw [bne_of hk, cond_true, lex_ne (c3_ne hk)]
theorem L23_raw (F : Int × Int × Int × ByteArray × List D × Int × Int × Int × ByteArray × List D → Option Bool) (n : Nat) (l l' : List V) (i : Nat) (x1 x2 x3 : Int) (x4 : ByteArray) (y1 y2 y3 : Int) (y4 : ByteArray) (k im mm : Int) (t : ByteArray) (s : List V) (k' im' mm' : Int) (t' : ByteArray) (s' : List V) (h : l[i]? = some (.mk k im mm t s)) (h' : l'[i]? = some (.mk k' im' mm' t' s')) :
    L16_0 F (n + 1) ((i : Int), x1, x2, x3, x4, V.ds l, y1, y2, y3, y4, V.ds l') () = (bif decide ((i : Int) < ((l.length : Nat) : Int)) then ((F (k, im, mm, t, V.ds s, k', im', mm', t', V.ds s')).bind fun y44 => (bif (!y44) then (some (O16_0.x0 false x1 x2 x3 x4 (V.ds l) y1 y2 y3 y4 (V.ds l'), ())) else (L16_0 F n ((w64 ((i : Int) + 1)), x1, x2, x3, x4, V.ds l, y1, y2, y3, y4, V.ds l') ()))) else (some (O16_0.x1 x1 x2 x3 x4 (V.ds l) y1 y2 y3 y4 (V.ds l'), ()))) := by
  rw [L16_0, lidx_ds, lidx_ds, h, h', Option.map_some, Option.map_some, Option.bind_some, V.d_mk, V.d_mk, ds_length]
  rfl
theorem L23_step (F : Int × Int × Int × ByteArray × List D × Int × Int × Int × ByteArray × List D → Option Bool) (n : Nat) (l l' : List V) (i : Nat) (x1 x2 x3 : Int) (x4 : ByteArray) (y1 y2 y3 : Int) (y4 : ByteArray) (v w : V) (h : l[i]? = some v) (h' : l'[i]? = some w) (hi : i < l.length) :
    L16_0 F (n + 1) ((i : Int), x1, x2, x3, x4, V.ds l, y1, y2, y3, y4, V.ds l') () = ((F (v.two w)).bind fun y44 => (bif (!y44) then (some (O16_0.x0 false x1 x2 x3 x4 (V.ds l) y1 y2 y3 y4 (V.ds l'), ())) else (L16_0 F n ((w64 ((i : Int) + 1)), x1, x2, x3, x4, V.ds l, y1, y2, y3, y4, V.ds l') ()))) := by
  obtain ⟨k, im, mm, t, s⟩ := v
  obtain ⟨k', im', mm', t', s'⟩ := w
  rw [L23_raw F n l l' i x1 x2 x3 x4 y1 y2 y3 y4 k im mm t s k' im' mm' t' s' h h', decide_eq_true (by omega : (i : Int) < ((l.length : Nat) : Int)), cond_true]
  rfl
theorem lex_zero {a b : Int} : lex a b = 0 ↔ a = 0 ∧ b = 0 := by
  unfold lex; split
  · rename_i h; simp [h]
  · rename_i h; simp [h]
theorem L23_eq {F : Int × Int × Int × ByteArray × List D × Int × Int × Int × ByteArray × List D → Option Bool} {l l' : List V} (hl : l.length ≤ 1048576) (hF : ∀ v ∈ l, ∀ w, F (v.two w) = some (decide (v.cmp w = 0))) (x1 x2 x3 : Int) (x4 : ByteArray) (y1 y2 y3 : Int) (y4 : ByteArray) : ∀ (rest rest' : List V) (n i : Nat), l.drop i = rest → l'.drop i = rest' → rest.length = rest'.length → rest.length < n →
    L16_0 F n ((i : Int), x1, x2, x3, x4, V.ds l, y1, y2, y3, y4, V.ds l') () = some (if V.cmpL rest rest' = 0 then O16_0.x1 x1 x2 x3 x4 (V.ds l) y1 y2 y3 y4 (V.ds l') else O16_0.x0 false x1 x2 x3 x4 (V.ds l) y1 y2 y3 y4 (V.ds l'), ()) := by
  intro rest
  induction rest with
  | nil =>
    intro rest' n i hr hr' he hn
    obtain ⟨n, rfl⟩ : ∃ m, n = m + 1 := ⟨n - 1, by simp at hn; omega⟩
    have : rest' = [] := by cases rest' with | nil => rfl | cons => simp at he
    subst this
    have := drop_nil hr
    rw [L16_0, ds_length, decide_eq_false (by omega), cond_false, V.cmpL, if_pos rfl]
  | cons v rest ih =>
    intro rest' n i hr hr' he hn
    obtain ⟨n, rfl⟩ : ∃ m, n = m + 1 := ⟨n - 1, by simp at hn; omega⟩
    obtain ⟨w, rest', rfl⟩ : ∃ w r, rest' = w :: r := by cases rest' with | nil => simp at he | cons w r => exact ⟨w, r, rfl⟩
    obtain ⟨h1, h2, h3, h4⟩ := drop_cons hr
    obtain ⟨g1, g2, g3, g4⟩ := drop_cons hr'
    rw [L23_step F n l l' i x1 x2 x3 x4 y1 y2 y3 y4 v w h1 g1 h3, hF v h4 w, Option.bind_some, next_idx (by omega), V.cmpL]
    by_cases hz : v.cmp w = 0
    · rw [lex_eq hz, decide_eq_true hz, Bool.not_true, cond_false, ih rest' n (i + 1) h2 g2 (by simpa using he) (by simp at hn; omega)]
    · rw [lex_ne hz, if_neg hz, decide_eq_false hz, Bool.not_false, cond_true]
theorem n23_eq : ∀ (k : Nat) (v w : V), v.hgt ≤ k → v.big ≤ 1048576 → n16 k (v.two w) = some (decide (v.cmp w = 0)) := by
  intro k
  induction k with
  | zero => intro v w h; have := v.hgt_pos; omega
  | succ k ih =>
    intro v w h hb
    obtain ⟨k0, i0, m0, t0, l0⟩ := v
    obtain ⟨k', i', m', t', l'⟩ := w
    rw [V.hgt] at h
    rw [V.big] at hb
    have hll := V.len_bigL l0
    simp only [V.two]
    rw [n16, V.cmp, ds_length, ds_length, sEq_eq]
    simp only [lex_zero, c3_zero, cLen]
    by_cases hk : k0 = k'
    · rw [bne_self hk, cond_false]
      by_cases hi : i0 = i'
      · rw [bne_self hi, cond_false]
        by_cases hm : m0 = m'
        · rw [bne_self hm, cond_false]
          by_cases ht : cB t0 t' = 0
          · rw [decide_eq_true ht, Bool.not_true, cond_false]
            by_cases hl : l0.length = l'.length
            · rw [bne_self (by omega), cond_false, show (0 : Int) = ((0 : Nat) : Int) from rfl, L23_eq (F := n16 k) (l := l0) (l' := l') (by omega) (fun v hv w => ih v w (by have := V.mem_hgtL hv; omega) (by have := V.mem_bigL hv; omega)) _ _ _ _ _ _ _ _ l0 l' 1000000000000 0 (by simp) (by simp) hl (by omega), Option.bind_some]
              by_cases hc : V.cmpL l0 l' = 0
              · rw [if_pos hc]; simp [hk, hi, hm, ht, hl, hc]
              · rw [if_neg hc]; simp [hc]
            · rw [bne_of (by omega), cond_true]
              simp [show ¬ ((l0.length : Nat) : Int) = ((l'.length : Nat) : Int) by omega]
          · simp [ht]
        · rw [bne_of hm]; simp [hm]
      · rw [bne_of hi]; simp [hi]
    · rw [bne_of hk]; simp [hk]
end Ev

set_option linter.unusedSimpArgs false
set_option linter.unusedVariables false
namespace Ev
open Go
abbrev noT : ByteArray := ⟨#[]⟩
def symB (s : ByteArray) : Bool := bif (bif isName s then (!(sEq s (⟨#[116, 114, 117, 101]⟩ : ByteArray))) else false) then (!(sEq s (⟨#[102, 97, 108, 115, 101]⟩ : ByteArray))) else false
theorem n67_eq {s : ByteArray} (hs : s.size ≤ 1048576) : n67 s = some (symB s) := by
  unfold n67
  rw [n107_eq hs]
  unfold symB
  cases isName s <;> rfl
theorem n68_eq {s : ByteArray} (hs : s.size ≤ 1048576) : n68 s = some (symB s) := by
  unfold n68
  rw [n108_eq hs]
  rfl
def partB (a : Int) : Bool := bif (decide (a ≥ (-1048576))) then (decide (a ≤ 1048576)) else false
def V.above : Option V → V → Bool
  | none, _ => true
  | some q, v => decide (q.cmp v < 0)
mutual
def V.formed : V → Bool
  | .mk k i m t l => 
    (bif (k == 1) then (bif (bif (bif (sEq t noT) then (((l.length : Nat) : Int) == 0) else false) then (m == 0) else false) then (bif (i == 0) then true else (i == 1)) else false)
    else (bif (k == 2) then (bif (bif (sEq t noT) then (((l.length : Nat) : Int) == 0) else false) then (m == 0) else false)
    else (bif (k == 3) then (bif (bif (sEq t noT) then (((l.length : Nat) : Int) == 0) else false) then (bif partB i then partB m else false) else false)
    else (bif (k == 4) then (bif (bif (bif (i == 0) then (m == 0) else false) then (((l.length : Nat) : Int) == 0) else false) then symB t else false)
    else (bif (bif (k == 5) then true else bif (k == 6) then true else (k == 7)) then (bif (bif (bif (i != 0) then true else (m != 0)) then true else (!(sEq t noT))) then false else V.formedL (k == 7) none l) else false)))))
def V.formedL (s : Bool) (p : Option V) : List V → Bool
  | [] => true
  | v :: l => v.formed && (bif s then V.above p v else true) && V.formedL s (some v) l
end
theorem formed_facts {k i m : Int} {t : ByteArray} {l : List V} (h : (V.mk k i m t l).formed = true) : (k ≤ 4 ∧ l = []) ∨ (5 ≤ k ∧ i = 0 ∧ m = 0 ∧ t = noT ∧ V.formedL (k == 7) none l = true) := by
  rw [V.formed] at h
  have len0 : ∀ {b : Bool}, (bif b then (((l.length : Nat) : Int) == 0) else false) = true → l = [] := by
    intro b hb
    cases b with
    | false => cases hb
    | true =>
      have : ((l.length : Nat) : Int) = 0 := by simpa using hb
      exact List.eq_nil_of_length_eq_zero (by omega)
  by_cases h1 : k = 1
  · left
    refine ⟨by omega, ?_⟩
    rw [show (k == 1) = true by simp [h1], cond_true] at h
    cases hc : (bif (sEq t noT) then (((l.length : Nat) : Int) == 0) else false) with
    | false => rw [hc] at h; simp at h
    | true => exact len0 hc
  rw [show (k == 1) = false by simp [h1], cond_false] at h
  by_cases h2 : k = 2
  · left
    refine ⟨by omega, ?_⟩
    rw [show (k == 2) = true by simp [h2], cond_true] at h
    cases hc : (bif (sEq t noT) then (((l.length : Nat) : Int) == 0) else false) with
    | false => rw [hc] at h; simp at h
    | true => exact len0 hc
  rw [show (k == 2) = false by simp [h2], cond_false] at h
  by_cases h3 : k = 3
  · left
    refine ⟨by omega, ?_⟩
    rw [show (k == 3) = true by simp [h3], cond_true] at h
    cases hc : (bif (sEq t noT) then (((l.length : Nat) : Int) == 0) else false) with
    | false => rw [hc] at h; simp at h
    | true => exact len0 hc
  rw [show (k == 3) = false by simp [h3], cond_false] at h
  by_cases h4 : k = 4
  · left
    refine ⟨by omega, ?_⟩
    rw [show (k == 4) = true by simp [h4], cond_true] at h
    cases hc : (bif (bif (i == 0) then (m == 0) else false) then (((l.length : Nat) : Int) == 0) else false) with
    | false => rw [hc] at h; simp at h
    | true => exact len0 hc
  rw [show (k == 4) = false by simp [h4], cond_false] at h
  cases hk : (bif (k == 5) then true else bif (k == 6) then true else (k == 7)) with
  | false => rw [hk] at h; cases h
  | true =>
    right
    rw [hk, cond_true] at h
    have hk5 : 5 ≤ k := by
      by_cases p : k = 5
      · omega
      · by_cases q : k = 6
        · omega
        · rw [show (k == 5) = false by simp [p], show (k == 6) = false by simp [q]] at hk
          have : k = 7 := by simpa using hk
          omega
    by_cases hi : i = 0
    · by_cases hm : m = 0
      · cases ht : sEq t noT with
        | true =>
          rw [ht, hi, hm] at h
          exact ⟨hk5, hi, hm, (sEq_iff _ _).1 ht, by simpa using h⟩
        | false => rw [ht, hi, hm] at h; simp at h
      · rw [bne_of hm] at h; simp at h
    · rw [bne_of hi] at h; simp at h
mutual
theorem V.cmp_same : ∀ a b : V, a.formed = true → b.formed = true → a.cmpR b = a.cmp b
  | .mk k i m t l, .mk k' i' m' t' l', h, h' => by
    rw [V.cmp, V.cmpR]
    by_cases hk : k = k'
    · rw [lex_eq (c3_zero.2 hk), lex_eq (c3_zero.2 hk)]
      rcases formed_facts h with ⟨f1, f2⟩ | ⟨f1, f2, f3, f4, f5⟩
      · rcases formed_facts h' with ⟨g1, g2⟩ | ⟨g1, g2⟩
        · subst f2; subst g2
          rw [lex_eq (show cLen _ _ = 0 from rfl), lex_eq (show cLen _ _ = 0 from rfl), V.cmpL, V.cmpRL]
        · omega
      · rcases formed_facts h' with ⟨g1, g2⟩ | ⟨g1, g2, g3, g4, g5⟩
        · omega
        · subst f2; subst f3; subst f4; subst g2; subst g3; subst g4
          rw [lex_eq (c3_eq 0), lex_eq (c3_eq 0), lex_eq (show cB noT noT = 0 from rfl), V.cmpL_same _ _ _ _ l l' f5 g5, lex_eq (c3_eq 0), lex_eq (c3_eq 0), lex_eq (show cB noT noT = 0 from rfl)]
    · rw [lex_ne (c3_ne hk), lex_ne (c3_ne hk)]
theorem V.cmpL_same : ∀ (s s' : Bool) (p p' : Option V) (a b : List V), V.formedL s p a = true → V.formedL s' p' b = true → V.cmpRL a b = V.cmpL a b
  | _, _, _, _, [], [], _, _ => by rw [V.cmpL, V.cmpRL]
  | _, _, _, _, [], _ :: _, _, _ => by rw [V.cmpL, V.cmpRL]
  | _, _, _, _, _ :: _, [], _, _ => by rw [V.cmpL, V.cmpRL]
  | s, s', p, p', x :: a, y :: b, h, h' => by
    rw [V.formedL, Bool.and_eq_true, Bool.and_eq_true] at h h'
    rw [V.cmpL, V.cmpRL, V.cmp_same x y h.1.1 h'.1.1, V.cmpL_same _ _ _ _ a b h.2 h'.2]
end
theorem L44_zero (F : Int × Int × Int × ByteArray × List D → Option Bool) (n : Nat) (l : List V) (x1 x2 x3 : Int) (x4 : ByteArray) (v : V) (h : l[0]? = some v) (hi : 0 < l.length) :
    L60_1 F (n + 1) (V.ds l, ((l.length : Nat) : Int), ((0 : Nat) : Int), x1, x2, x3, x4, V.ds l) () = ((F v.tup).bind fun y28 => (bif (!y28) then (some (O60_1.x0 false x1 x2 x3 x4 (V.ds l), ())) else (L60_1 F n (V.ds l, ((l.length : Nat) : Int), ((1 : Nat) : Int), x1, x2, x3, x4, V.ds l) ()))) := by
  obtain ⟨k, im, mm, t, s⟩ := v
  rw [L60_1, lidx_ds, h, Option.map_some, Option.bind_some, V.d_mk, decide_eq_true (by omega : ((0 : Nat) : Int) < ((l.length : Nat) : Int)), cond_true, decide_eq_false (by omega : ¬ ((0 : Nat) : Int) > 0)]
  simp only [cond_false]
  rw [next_idx (by omega)]
  have : ∀ y28, (bif (!y28) then (some (O60_1.x0 false x1 x2 x3 x4 (V.ds l), ())) else (bif (x1 == 7) then (L60_1 F n (V.ds l, ((l.length : Nat) : Int), ((0 + 1 : Nat) : Int), x1, x2, x3, x4, V.ds l) ()) else (L60_1 F n (V.ds l, ((l.length : Nat) : Int), ((0 + 1 : Nat) : Int), x1, x2, x3, x4, V.ds l) ()))) = (bif (!y28) then (some (O60_1.x0 false x1 x2 x3 x4 (V.ds l), ())) else (L60_1 F n (V.ds l, ((l.length : Nat) : Int), ((1 : Nat) : Int), x1, x2, x3, x4, V.ds l) ())) := by
    intro y28; cases (x1 == 7) <;> rfl
  show ((F (k, im, mm, t, V.ds s)).bind fun y28 => (bif (!y28) then (some (O60_1.x0 false x1 x2 x3 x4 (V.ds l), ())) else (bif (x1 == 7) then (L60_1 F n (V.ds l, ((l.length : Nat) : Int), ((0 + 1 : Nat) : Int), x1, x2, x3, x4, V.ds l) ()) else (L60_1 F n (V.ds l, ((l.length : Nat) : Int), ((0 + 1 : Nat) : Int), x1, x2, x3, x4, V.ds l) ())))) = _
  simp only [this]
  rfl
theorem L44_raw (F : Int × Int × Int × ByteArray × List D → Option Bool) (n : Nat) (l : List V) (i : Nat) (len x1 x2 x3 : Int) (x4 : ByteArray) (k im mm : Int) (t : ByteArray) (s : List V) (k' im' mm' : Int) (t' : ByteArray) (s' : List V) (h : l[i + 1]? = some (.mk k im mm t s)) (h' : l[i]? = some (.mk k' im' mm' t' s')) (hw : w64 (((i + 1 : Nat) : Int) - 1) = (i : Int)) :
    L60_1 F (n + 1) (V.ds l, len, ((i + 1 : Nat) : Int), x1, x2, x3, x4, V.ds l) () = (bif (decide (((i + 1 : Nat) : Int) < len)) then ((F (k, im, mm, t, V.ds s)).bind fun y28 => (bif (!y28) then (some (O60_1.x0 false x1 x2 x3 x4 (V.ds l), ())) else (bif (x1 == 7) then (bif (decide (((i + 1 : Nat) : Int) > 0)) then ((n66 64 (k', im', mm', t', V.ds s', k, im, mm, t, V.ds s)).bind fun y46 => (bif (decide (y46 ≥ 0)) then (some (O60_1.x0 false x1 x2 x3 x4 (V.ds l), ())) else (L60_1 F n (V.ds l, len, (w64 (((i + 1 : Nat) : Int) + 1)), x1, x2, x3, x4, V.ds l) ()))) else (L60_1 F n (V.ds l, len, (w64 (((i + 1 : Nat) : Int) + 1)), x1, x2, x3, x4, V.ds l) ())) else (L60_1 F n (V.ds l, len, (w64 (((i + 1 : Nat) : Int) + 1)), x1, x2, x3, x4, V.ds l) ())))) else (some (O60_1.x1 x1 x2 x3 x4 (V.ds l), ()))) := by
  rw [L60_1, lidx_ds, h, Option.map_some, Option.bind_some, V.d_mk, hw, lidx_ds, h', Option.map_some, V.d_mk]
  rfl
theorem L44_succ (F : Int × Int × Int × ByteArray × List D → Option Bool) (n : Nat) (l : List V) (i : Nat) (x1 x2 x3 : Int) (x4 : ByteArray) (v q : V) (h : l[i + 1]? = some v) (h' : l[i]? = some q) (hi : i + 1 < l.length) (hl : l.length ≤ 1048576) :
    L60_1 F (n + 1) (V.ds l, ((l.length : Nat) : Int), ((i + 1 : Nat) : Int), x1, x2, x3, x4, V.ds l) () = ((F v.tup).bind fun y28 => (bif (!y28) then (some (O60_1.x0 false x1 x2 x3 x4 (V.ds l), ())) else (bif (x1 == 7) then ((n66 64 (q.two v)).bind fun y46 => (bif (decide (y46 ≥ 0)) then (some (O60_1.x0 false x1 x2 x3 x4 (V.ds l), ())) else (L60_1 F n (V.ds l, ((l.length : Nat) : Int), ((i + 1 + 1 : Nat) : Int), x1, x2, x3, x4, V.ds l) ()))) else (L60_1 F n (V.ds l, ((l.length : Nat) : Int), ((i + 1 + 1 : Nat) : Int), x1, x2, x3, x4, V.ds l) ())))) := by
  obtain ⟨k, im, mm, t, s⟩ := v
  obtain ⟨k', im', mm', t', s'⟩ := q
  rw [L44_raw F n l i _ x1 x2 x3 x4 k im mm t s k' im' mm' t' s' h h' (by rw [w64_id (by omega) (by omega)]; omega), decide_eq_true (by omega : ((i + 1 : Nat) : Int) < ((l.length : Nat) : Int)), cond_true, next_idx (by omega), decide_eq_true (by omega : ((i + 1 : Nat) : Int) > 0)]
  rfl
theorem L44_eq {F : Int × Int × Int × ByteArray × List D → Option Bool} {l : List V} (hl : V.bigL l ≤ 1048576) (hh : V.hgtL l ≤ 64) (hF : ∀ v ∈ l, F v.tup = some v.formed) (x1 x2 x3 : Int) (x4 : ByteArray) : ∀ (rest : List V) (n i : Nat) (p : Option V), l.drop i = rest → rest.length < n → (p = match i with | 0 => none | j + 1 => l[j]?) →
    L60_1 F n (V.ds l, ((l.length : Nat) : Int), (i : Int), x1, x2, x3, x4, V.ds l) () = some (bif V.formedL (x1 == 7) p rest then O60_1.x1 x1 x2 x3 x4 (V.ds l) else O60_1.x0 false x1 x2 x3 x4 (V.ds l), ()) := by
  have hll := V.len_bigL l
  intro rest
  induction rest with
  | nil =>
    intro n i p hr hn hp
    obtain ⟨n, rfl⟩ : ∃ m, n = m + 1 := ⟨n - 1, by simp at hn; omega⟩
    have := drop_nil hr
    rw [L60_1, decide_eq_false (by omega), cond_false, V.formedL, cond_true]
  | cons v rest ih =>
    intro n i p hr hn hp
    obtain ⟨n, rfl⟩ : ∃ m, n = m + 1 := ⟨n - 1, by simp at hn; omega⟩
    obtain ⟨h1, h2, h3, h4⟩ := drop_cons hr
    cases i with
    | zero =>
      subst hp
      rw [L44_zero F n l x1 x2 x3 x4 v h1 h3, hF v h4, Option.bind_some, V.formedL]
      cases hf : v.formed with
      | false => rfl
      | true =>
        rw [Bool.not_true, cond_false, ih n 1 (some v) h2 (by simp at hn; omega) h1.symm, V.above]
        cases (x1 == 7) <;> rfl
    | succ j =>
      obtain ⟨q, hq⟩ : ∃ q, l[j]? = some q := ⟨_, List.getElem?_eq_getElem (by omega)⟩
      have hp' : p = some q := hp.trans hq
      subst hp'
      have hm := List.mem_of_getElem? hq
      rw [L44_succ F n l j x1 x2 x3 x4 v q h1 hq h3 (by omega), hF v h4, Option.bind_some, V.formedL, n49_eq 64 q v (by have := V.mem_hgtL hm; omega) (by have := V.mem_bigL hm; omega), Option.bind_some]
      cases hf : v.formed with
      | false => rfl
      | true =>
        rw [Bool.not_true, cond_false, ih n (j + 1 + 1) (some v) h2 (by simp at hn; omega) h1.symm]
        cases (x1 == 7) with
        | false => rfl
        | true =>
          rw [cond_true, cond_true, V.above]
          by_cases hc : q.cmp v < 0
          · rw [decide_eq_false (by omega), cond_false, decide_eq_true hc]; rfl
          · rw [decide_eq_true (by omega : q.cmp v ≥ 0), cond_true, decide_eq_false hc]; rfl
theorem n44_eq : ∀ (k : Nat) (v : V), v.hgt ≤ k → v.hgt ≤ 64 → v.big ≤ 1048576 → n60 k v.tup = some v.formed := by
  intro k
  induction k with
  | zero => intro v h; have := v.hgt_pos; omega
  | succ k ih =>
    intro v h h64 hb
    obtain ⟨k0, i0, m0, t0, l0⟩ := v
    rw [V.hgt] at h h64
    rw [V.big] at hb
    have hll := V.len_bigL l0
    have hL := L44_eq (F := n60 k) (l := l0) (by omega) (by omega) (fun v hv => ih v (by have := V.mem_hgtL hv; omega) (by have := V.mem_hgtL hv; omega) (by have := V.mem_bigL hv; omega)) k0 i0 m0 t0 l0 1000000000000 0 none (by simp) (by omega) rfl
    rw [show ((0 : Nat) : Int) = 0 from rfl] at hL
    simp only [V.tup]
    rw [n60, ds_length, hL, n67_eq (by omega), V.formed]
    simp only [Option.bind_some, n69, cond_some]
    congr 1
    show _ = _
    cases (k0 == 1) with
    | true => rfl
    | false =>
      cases (k0 == 2) with
      | true => rfl
      | false =>
        cases (k0 == 3) with
        | true => rfl
        | false =>
          cases (k0 == 4) with
          | true => rfl
          | false =>
            cases h5 : (k0 == 5) <;> cases h6 : (k0 == 6) <;> cases h7 : (k0 == 7) <;> simp only [cond_true, cond_false] <;> (try cases (bif bif i0 != 0 then true else m0 != 0 then true else !sEq t0 noT)) <;> simp only [cond_true, cond_false] <;> (try cases V.formedL false none l0) <;> (try cases V.formedL true none l0) <;> rfl
theorem L42_zero (F : Int × Int × Int × ByteArray × List D → Option Bool) (n : Nat) (l : List V) (x1 x2 x3 : Int) (x4 : ByteArray) (v : V) (h : l[0]? = some v) (hi : 0 < l.length) :
    L110_1 F (n + 1) (((0 : Nat) : Int), x1, x2, x3, x4, V.ds l) () = ((F v.tup).bind fun y28 => (bif (!y28) then (some (O110_1.x0 false x1 x2 x3 x4 (V.ds l), ())) else (L110_1 F n (((1 : Nat) : Int), x1, x2, x3, x4, V.ds l) ()))) := by
  obtain ⟨k, im, mm, t, s⟩ := v
  rw [L110_1, lidx_ds, h, Option.map_some, Option.bind_some, V.d_mk, ds_length, decide_eq_true (by omega : ((0 : Nat) : Int) < ((l.length : Nat) : Int)), cond_true, decide_eq_false (by omega : ¬ ((0 : Nat) : Int) > 0)]
  simp only [cond_false]
  rw [next_idx (by omega)]
  have : ∀ y28, (bif (!y28) then (some (O110_1.x0 false x1 x2 x3 x4 (V.ds l), ())) else (bif (x1 == 7) then (L110_1 F n (((0 + 1 : Nat) : Int), x1, x2, x3, x4, V.ds l) ()) else (L110_1 F n (((0 + 1 : Nat) : Int), x1, x2, x3, x4, V.ds l) ()))) = (bif (!y28) then (some (O110_1.x0 false x1 x2 x3 x4 (V.ds l), ())) else (L110_1 F n (((1 : Nat) : Int), x1, x2, x3, x4, V.ds l) ())) := by
    intro y28; cases (x1 == 7) <;> rfl
  show ((F (k, im, mm, t, V.ds s)).bind fun y28 => (bif (!y28) then (some (O110_1.x0 false x1 x2 x3 x4 (V.ds l), ())) else (bif (x1 == 7) then (L110_1 F n (((0 + 1 : Nat) : Int), x1, x2, x3, x4, V.ds l) ()) else (L110_1 F n (((0 + 1 : Nat) : Int), x1, x2, x3, x4, V.ds l) ())))) = _
  simp only [this]
  rfl
theorem L42_raw (F : Int × Int × Int × ByteArray × List D → Option Bool) (n : Nat) (l : List V) (i : Nat) (x1 x2 x3 : Int) (x4 : ByteArray) (k im mm : Int) (t : ByteArray) (s : List V) (k' im' mm' : Int) (t' : ByteArray) (s' : List V) (h : l[i + 1]? = some (.mk k im mm t s)) (h' : l[i]? = some (.mk k' im' mm' t' s')) (hw : w64 (((i + 1 : Nat) : Int) - 1) = (i : Int)) :
    L110_1 F (n + 1) (((i + 1 : Nat) : Int), x1, x2, x3, x4, V.ds l) () = (bif (decide (((i + 1 : Nat) : Int) < ((l.length : Nat) : Int))) then ((F (k, im, mm, t, V.ds s)).bind fun y28 => (bif (!y28) then (some (O110_1.x0 false x1 x2 x3 x4 (V.ds l), ())) else (bif (x1 == 7) then (bif (decide (((i + 1 : Nat) : Int) > 0)) then ((n144 64 (k', im', mm', t', V.ds s', k, im, mm, t, V.ds s)).bind fun y46 => (bif (decide (y46 ≥ 0)) then (some (O110_1.x0 false x1 x2 x3 x4 (V.ds l), ())) else (L110_1 F n ((w64 (((i + 1 : Nat) : Int) + 1)), x1, x2, x3, x4, V.ds l) ()))) else (L110_1 F n ((w64 (((i + 1 : Nat) : Int) + 1)), x1, x2, x3, x4, V.ds l) ())) else (L110_1 F n ((w64 (((i + 1 : Nat) : Int) + 1)), x1, x2, x3, x4, V.ds l) ())))) else (some (O110_1.x1 x1 x2 x3 x4 (V.ds l), ()))) := by
  rw [L110_1, lidx_ds, h, Option.map_some, V.d_mk, hw, lidx_ds, h', Option.map_some, V.d_mk, ds_length]
  rfl
theorem L42_succ (F : Int × Int × Int × ByteArray × List D → Option Bool) (n : Nat) (l : List V) (i : Nat) (x1 x2 x3 : Int) (x4 : ByteArray) (v q : V) (h : l[i + 1]? = some v) (h' : l[i]? = some q) (hi : i + 1 < l.length) (hl : l.length ≤ 1048576) :
    L110_1 F (n + 1) (((i + 1 : Nat) : Int), x1, x2, x3, x4, V.ds l) () = ((F v.tup).bind fun y28 => (bif (!y28) then (some (O110_1.x0 false x1 x2 x3 x4 (V.ds l), ())) else (bif (x1 == 7) then ((n144 64 (q.two v)).bind fun y46 => (bif (decide (y46 ≥ 0)) then (some (O110_1.x0 false x1 x2 x3 x4 (V.ds l), ())) else (L110_1 F n (((i + 1 + 1 : Nat) : Int), x1, x2, x3, x4, V.ds l) ()))) else (L110_1 F n (((i + 1 + 1 : Nat) : Int), x1, x2, x3, x4, V.ds l) ())))) := by
  obtain ⟨k, im, mm, t, s⟩ := v
  obtain ⟨k', im', mm', t', s'⟩ := q
  rw [L42_raw F n l i x1 x2 x3 x4 k im mm t s k' im' mm' t' s' h h' (by rw [w64_id (by omega) (by omega)]; omega), decide_eq_true (by omega : ((i + 1 : Nat) : Int) < ((l.length : Nat) : Int)), cond_true, next_idx (by omega), decide_eq_true (by omega : ((i + 1 : Nat) : Int) > 0)]
  rfl
theorem L42_eq {F : Int × Int × Int × ByteArray × List D → Option Bool} {l : List V} (hl : V.bigL l ≤ 1048576) (hh : V.hgtL l ≤ 64) (hF : ∀ v ∈ l, F v.tup = some v.formed) (x1 x2 x3 : Int) (x4 : ByteArray) : ∀ (rest : List V) (n i : Nat) (p : Option V), l.drop i = rest → rest.length < n → (p = match i with | 0 => none | j + 1 => l[j]?) → (∀ q, p = some q → q.formed = true) →
    L110_1 F n ((i : Int), x1, x2, x3, x4, V.ds l) () = some (bif V.formedL (x1 == 7) p rest then O110_1.x1 x1 x2 x3 x4 (V.ds l) else O110_1.x0 false x1 x2 x3 x4 (V.ds l), ()) := by
  have hll := V.len_bigL l
  intro rest
  induction rest with
  | nil =>
    intro n i p hr hn hp _
    obtain ⟨n, rfl⟩ : ∃ m, n = m + 1 := ⟨n - 1, by simp at hn; omega⟩
    have := drop_nil hr
    rw [L110_1, ds_length, decide_eq_false (by omega), cond_false, V.formedL, cond_true]
  | cons v rest ih =>
    intro n i p hr hn hp hpf
    obtain ⟨n, rfl⟩ : ∃ m, n = m + 1 := ⟨n - 1, by simp at hn; omega⟩
    obtain ⟨h1, h2, h3, h4⟩ := drop_cons hr
    cases i with
    | zero =>
      subst hp
      rw [L42_zero F n l x1 x2 x3 x4 v h1 h3, hF v h4, Option.bind_some, V.formedL]
      cases hf : v.formed with
      | false => rfl
      | true =>
        rw [Bool.not_true, cond_false, ih n 1 (some v) h2 (by simp at hn; omega) h1.symm (fun q hq => by cases hq; exact hf), V.above]
        cases (x1 == 7) <;> rfl
    | succ j =>
      obtain ⟨q, hq⟩ : ∃ q, l[j]? = some q := ⟨_, List.getElem?_eq_getElem (by omega)⟩
      have hp' : p = some q := hp.trans hq
      subst hp'
      have hm := List.mem_of_getElem? hq
      rw [L42_succ F n l j x1 x2 x3 x4 v q h1 hq h3 (by omega), hF v h4, Option.bind_some, V.formedL, n50_eq 64 q v (by have := V.mem_hgtL hm; omega) (by have := V.mem_bigL hm; omega), Option.bind_some]
      cases hf : v.formed with
      | false => rfl
      | true =>
        rw [Bool.not_true, cond_false, ih n (j + 1 + 1) (some v) h2 (by simp at hn; omega) h1.symm (fun q hq => by cases hq; exact hf), V.cmp_same q v (hpf q rfl) hf]
        cases (x1 == 7) with
        | false => rfl
        | true =>
          rw [cond_true, cond_true, V.above]
          by_cases hc : q.cmp v < 0
          · rw [decide_eq_false (by omega), cond_false, decide_eq_true hc]; rfl
          · rw [decide_eq_true (by omega : q.cmp v ≥ 0), cond_true, decide_eq_false hc]; rfl
theorem n42_eq : ∀ (k : Nat) (v : V), v.hgt ≤ k → v.hgt ≤ 64 → v.big ≤ 1048576 → n110 k v.tup = some v.formed := by
  intro k
  induction k with
  | zero => intro v h; have := v.hgt_pos; omega
  | succ k ih =>
    intro v h h64 hb
    obtain ⟨k0, i0, m0, t0, l0⟩ := v
    rw [V.hgt] at h h64
    rw [V.big] at hb
    have hll := V.len_bigL l0
    have hL := L42_eq (F := n110 k) (l := l0) (by omega) (by omega) (fun v hv => ih v (by have := V.mem_hgtL hv; omega) (by have := V.mem_hgtL hv; omega) (by have := V.mem_bigL hv; omega)) k0 i0 m0 t0 l0 1000000000000 0 none (by simp) (by omega) rfl (by simp)
    rw [show ((0 : Nat) : Int) = 0 from rfl] at hL
    simp only [V.tup]
    rw [n110, hL, n68_eq (by omega), V.formed]
    simp only [Option.bind_some, n70, n153, ds_length, cond_some, cond_true, cond_false]
    congr 1
    generalize hE : sEq t0 noT = E
    generalize hZ : (((l0.length : Nat) : Int) == 0) = Z
    generalize hI : (i0 == 0) = I
    generalize hM : (m0 == 0) = M
    have hI' : (i0 != 0) = !I := by rw [← hI]; rfl
    have hM' : (m0 != 0) = !M := by rw [← hM]; rfl
    rw [hI', hM']
    cases (k0 == 1) with
    | true => cases E <;> cases Z <;> cases M <;> cases I <;> rfl
    | false =>
      cases (k0 == 2) with
      | true => cases E <;> cases Z <;> cases M <;> cases I <;> rfl
      | false =>
        cases (k0 == 3) with
        | true => cases E <;> cases Z <;> cases M <;> cases I <;> rfl
        | false =>
          cases (k0 == 4) with
          | true => cases E <;> cases Z <;> cases M <;> cases I <;> rfl
          | false =>
            cases h5 : (k0 == 5) <;> cases h6 : (k0 == 6) <;> cases h7 : (k0 == 7) <;> cases E <;> cases M <;> cases I <;> simp only [cond_true, cond_false, Bool.not_true, Bool.not_false] <;> (try cases V.formedL false none l0) <;> (try cases V.formedL true none l0) <;> rfl
def V.right (v : V) : Bool := v.small && v.formed
theorem hgt_small {v : V} (h : v.small = true) : v.hgt ≤ 16 := (of_decide_eq_true h).2
theorem check_eq {v : V} (hb : v.big ≤ 1048576) : n20 v.tup = some (bif v.right then 0 else 40) := by
  have h1 := small_eq hb
  have h2 := fun h => n44_eq 64 v h h hb
  obtain ⟨k, i, m, t, l⟩ := v
  simp only [V.tup, n20] at h1 h2 ⊢
  rw [h1, Option.bind_some]
  unfold V.right
  cases hs : (V.mk k i m t l).small with
  | false => rfl
  | true =>
    have := hgt_small hs
    rw [Bool.not_true, cond_false, h2 (by omega), Option.bind_some]
    cases (V.mk k i m t l).formed <;> rfl
theorem right_eq {v : V} (hb : v.big ≤ 1048576) : n52 v.tup = some v.right := by
  obtain ⟨c, h1, h1'⟩ := counted_eq hb
  have h2 := fun h => n42_eq 64 v h h hb
  obtain ⟨k, i, m, t, l⟩ := v
  simp only [V.tup, n52] at h1 h2 ⊢
  rw [h1, Option.bind_some, h1']
  unfold V.right
  cases hs : (V.mk k i m t l).small with
  | false => rfl
  | true =>
    have := hgt_small hs
    rw [cond_true, h2 (by omega), Option.bind_some]
    rfl
end Ev

set_option linter.unusedSimpArgs false
set_option linter.unusedVariables false
namespace Ev
open Go
def accN (v : Int) (c : UInt8) (k : Nat) : Int := bOr .u64 v (wu64 ((wu64 (bAnd .u8 (c.toNat : Int) 127)) * 2 ^ (min (7 * k) 64)))
theorem and127 : ∀ n : Nat, n < 256 → wu64 (bAnd .u8 (n : Int) 127) = bAnd .u64 (wu64 (n : Int)) 127 := by decide +kernel
theorem wu64_range (x : Int) : 0 ≤ wu64 x ∧ wu64 x < 18446744073709551616 := by
  simp only [wu64, IntKind.wrap, IntKind.signed, IntKind.bits]
  simp
  omega
theorem accN_range (v : Int) (c : UInt8) (k : Nat) : 0 ≤ accN v c k ∧ accN v c k < 18446744073709551616 := wu64_range _
theorem byte_lt (c : UInt8) : c.toNat < 256 := c.toNat_lt
theorem shift7 {k : Nat} (h : k ≤ 9) : Int.toNat (w64 (7 * (k : Int))) = 7 * k := by rw [w64_id (by omega) (by omega)]; omega
theorem shift7u {k : Nat} (h : k ≤ 9) : wu64 (w64 (7 * (k : Int))) = 7 * k := by rw [w64_id (by omega) (by omega), wu64_id (by omega) (by omega)]
def numS (b : ByteArray) (i : Nat) : Nat → Nat → Int → Option (Int × Nat)
  | 0, _, _ => none
  | f + 1, k, v => match b[i + k]? with
    | none => none
    | some c => if k = 9 ∧ 1 < c.toNat then none else if c.toNat < 128 then (if 0 < k ∧ c.toNat = 0 then none else some (accN v c k, i + k + 1)) else numS b i f (k + 1) (accN v c k)
theorem numS_facts (b : ByteArray) (i : Nat) : ∀ (f k : Nat) (v x : Int) (e : Nat), numS b i f k v = some (x, e) → 0 ≤ x ∧ x < 18446744073709551616 ∧ i < e ∧ e ≤ b.size
  | 0, _, _, _, _, h => by cases h
  | f + 1, k, v, x, e, h => by
    unfold numS at h
    split at h
    · cases h
    · rename_i c hc
      have hi : i + k < b.size := by
        rcases Nat.lt_or_ge (i + k) b.size with q | q
        · exact q
        · rw [getElem?_neg b (i + k) (by omega)] at hc; cases hc
      split at h
      · cases h
      · split at h
        · split at h
          · cases h
          · cases h
            have := accN_range v c k
            omega
        · exact numS_facts b i f (k + 1) _ x e h
def endR : O107_0 → Int × Int
  | .x0 a b => (a, b)
  | .x1 => (0, -1)
def ansR : Option (Int × Nat) → Int × Int
  | some (x, e) => (x, (e : Int))
  | none => (0, -1)
theorem L107_eq {b : ByteArray} {i : Nat} (hi : i ≤ b.size) (hb : b.size ≤ 1048576) : ∀ (f k n : Nat) (v : Int), f + k = 10 → f < n → ∃ o, L107_0 n (b, (i : Int), v, (k : Int)) () = some (o, ()) ∧ endR o = ansR (numS b i f k v)
  | 0, k, n + 1, v, hk, hn => by
    refine ⟨.x1, ?_, rfl⟩
    rw [L107_0, decide_eq_false (by omega : ¬ (k : Int) < 10), cond_false, cond_false]
  | f + 1, k, n + 1, v, hk, hn => by
    have hik : w64 ((i : Int) + (k : Int)) = ((i + k : Nat) : Int) := by rw [w64_id (by omega) (by omega)]; omega
    rw [L107_0, decide_eq_true (by omega : (k : Int) < 10), cond_true, hik, numS]
    rcases Nat.lt_or_ge (i + k) b.size with h | h
    · obtain ⟨c, hc⟩ : ∃ c, b[i + k]? = some c := ⟨_, getElem?_pos b (i + k) h⟩
      have hcl := byte_lt c
      have hw : wu64 (c.toNat : Int) = (c.toNat : Int) := wu64_id (by omega) (by omega)
      rw [decide_eq_true (by omega : ((i + k : Nat) : Int) < ((b.size : Nat) : Int)), cond_true, sidx_nat, hc, Option.bind_some, hw, shift7u (by omega), ask_of (by omega)]
      have hacc : bOr .u64 v (wu64 ((bAnd .u64 (c.toNat : Int) 127) * 2 ^ (min (Int.toNat (7 * (k : Int))) 64))) = accN v c k := by
        have h1 := and127 c.toNat hcl
        rw [hw] at h1
        unfold accN
        rw [h1, show Int.toNat (7 * (k : Int)) = 7 * k by omega]
      dsimp only
      by_cases h9 : k = 9 ∧ 1 < c.toNat
      · rw [if_pos h9, show ((k : Int) == 9) = true from by rw [beq_iff_eq]; omega, cond_true, decide_eq_true (by omega : (c.toNat : Int) > 1), cond_true]
        exact ⟨_, rfl, rfl⟩
      · rw [if_neg h9]
        have e9 : (bif ((k : Int) == 9) then (decide ((c.toNat : Int) > 1)) else false) = false := by
          by_cases q : k = 9
          · rw [show ((k : Int) == 9) = true from by rw [beq_iff_eq]; omega, cond_true]
            exact decide_eq_false (by omega)
          · rw [show ((k : Int) == 9) = false from by rw [beq_eq_false_iff_ne]; omega, cond_false]
        rw [e9, cond_false]
        by_cases h1 : c.toNat < 128
        · rw [if_pos h1, decide_eq_true (by omega : (c.toNat : Int) < 128), cond_true]
          by_cases h0 : 0 < k ∧ c.toNat = 0
          · rw [if_pos h0, decide_eq_true (by omega : (k : Int) > 0), cond_true, show ((c.toNat : Int) == 0) = true from by rw [beq_iff_eq]; omega, cond_true]
            exact ⟨_, rfl, rfl⟩
          · rw [if_neg h0]
            have e0 : (bif (decide ((k : Int) > 0)) then ((c.toNat : Int) == 0) else false) = false := by
              by_cases q : 0 < k
              · rw [decide_eq_true (by omega : (k : Int) > 0), cond_true, beq_eq_false_iff_ne]; omega
              · rw [decide_eq_false (by omega : ¬ (k : Int) > 0), cond_false]
            rw [e0, cond_false, hacc, w64_id (n := ((i + k : Nat) : Int) + 1) (by omega) (by omega)]
            exact ⟨_, rfl, rfl⟩
        · rw [if_neg h1, decide_eq_false (by omega : ¬ (c.toNat : Int) < 128), cond_false, hacc, next_idx (by omega)]
          exact L107_eq hi hb f (k + 1) n _ (by omega) (by omega)
    · have hc : b[i + k]? = none := getElem?_neg b (i + k) (by omega)
      rw [decide_eq_false (by omega : ¬ ((i + k : Nat) : Int) < ((b.size : Nat) : Int)), cond_false, hc]
      exact ⟨_, rfl, rfl⟩
def num (b : ByteArray) (i : Nat) : Option (Int × Nat) := numS b i 10 0 0
theorem rtake_eq {b : ByteArray} {i : Nat} (hi : i ≤ b.size) (hb : b.size ≤ 1048576) : n107 (b, (i : Int)) = some (ansR (num b i)) := by
  obtain ⟨o, h1, h2⟩ := L107_eq hi hb 10 0 1000000000000 0 (by omega) (by omega)
  unfold n107
  dsimp only
  rw [show ((0 : Nat) : Int) = 0 from rfl] at h1
  rw [h1, Option.bind_some]
  unfold num
  rw [← h2]
  cases o <;> rfl
def lft (b : ByteArray) (i : Nat) : ByteArray := b.extract i b.size
theorem lft_size (b : ByteArray) (i : Nat) : (lft b i).size = b.size - i := by rw [lft, ByteArray.size_extract]; omega
theorem lft_get (b : ByteArray) (i k : Nat) : (lft b i)[k]? = b[i + k]? := by
  rcases Nat.lt_or_ge (i + k) b.size with h | h
  · rw [lft, byte_get? h (Nat.le_refl _)]
  · have := lft_size b i
    rw [getElem?_neg (lft b i) k (by omega), getElem?_neg b (i + k) (by omega)]
theorem lft_lft (b : ByteArray) (i j : Nat) (h : i + j ≤ b.size) : (lft b i).extract j (lft b i).size = lft b (i + j) := by
  rw [lft_size, lft, lft, ByteArray.extract_extract]
  congr 1
  omega
def endP : O145_0 → Int × Int × Int × ByteArray × Bool
  | .x0 a b c d e => (a, b, c, d, e)
  | .x1 d e => (0, 0, 10, d, e)
def AnsP (b : ByteArray) (i : Nat) (q : Option (Int × Nat)) (p : Int × Int × Int × ByteArray × Bool) : Prop := match q with
  | some (x, e) => p = (x, ((e - i : Nat) : Int), 0, lft b i, true)
  | none => ∃ err, err ≠ 0 ∧ p = (0, 0, err, lft b i, true)
theorem L145_eq {b : ByteArray} {i : Nat} (hi : i ≤ b.size) (hb : b.size ≤ 1048576) : ∀ (f k n : Nat) (v : Int), f + k = 10 → 0 < f → f < n → ∃ o, L145_0 n (v, lft b i, (((lft b i).size : Nat) : Int), (k : Int), lft b i, true) () = some (o, ()) ∧ AnsP b i (numS b i f k v) (endP o)
  | f + 1, k, n + 1, v, hk, _, hn => by
    have hs := lft_size b i
    rw [L145_0, numS]
    rcases Nat.lt_or_ge (i + k) b.size with h | h
    · obtain ⟨c, hc⟩ : ∃ c, b[i + k]? = some c := ⟨_, getElem?_pos b (i + k) h⟩
      have hcl := byte_lt c
      rw [decide_eq_true (by omega : (k : Int) < (((lft b i).size : Nat) : Int)), cond_true, sidx_nat, lft_get, hc, Option.bind_some, ask_of (by rw [w64_id (by omega) (by omega)]; omega)]
      have hacc : bOr .u64 v (wu64 ((wu64 (bAnd .u8 (c.toNat : Int) 127)) * 2 ^ (min (Int.toNat (w64 (7 * (k : Int)))) 64))) = accN v c k := by
        unfold accN
        rw [shift7 (by omega)]
      dsimp only
      by_cases h9 : k = 9 ∧ 1 < c.toNat
      · rw [if_pos h9, show ((k : Int) == 9) = true from by rw [beq_iff_eq]; omega, cond_true, show ((c.toNat : Int) != 1) = true from by rw [bne_iff_ne]; omega, cond_true]
        exact ⟨_, rfl, 12, by decide, rfl⟩
      · rw [if_neg h9]
        by_cases hz : k = 9 ∧ c.toNat = 0
        · rw [show ((k : Int) == 9) = true from by rw [beq_iff_eq]; omega, cond_true, show ((c.toNat : Int) != 1) = true from by rw [bne_iff_ne]; omega, cond_true, if_pos (by omega), if_pos (by omega)]
          exact ⟨_, rfl, 12, by decide, rfl⟩
        have e9 : (bif ((k : Int) == 9) then ((c.toNat : Int) != 1) else false) = false := by
          by_cases q : k = 9
          · rw [show ((k : Int) == 9) = true from by rw [beq_iff_eq]; omega, cond_true]
            rw [bne_eq_false_iff_eq]; omega
          · rw [show ((k : Int) == 9) = false from by rw [beq_eq_false_iff_ne]; omega, cond_false]
        rw [e9, cond_false]
        by_cases h1 : c.toNat < 128
        · rw [if_pos h1, decide_eq_true (by omega : (c.toNat : Int) < 128), cond_true]
          by_cases h0 : 0 < k ∧ c.toNat = 0
          · rw [if_pos h0, decide_eq_true (by omega : (k : Int) > 0), cond_true, show ((c.toNat : Int) == 0) = true from by rw [beq_iff_eq]; omega, cond_true]
            exact ⟨_, rfl, 12, by decide, rfl⟩
          · rw [if_neg h0]
            have e0 : (bif (decide ((k : Int) > 0)) then ((c.toNat : Int) == 0) else false) = false := by
              by_cases q : 0 < k
              · rw [decide_eq_true (by omega : (k : Int) > 0), cond_true, beq_eq_false_iff_ne]; omega
              · rw [decide_eq_false (by omega : ¬ (k : Int) > 0), cond_false]
            rw [e0, cond_false, hacc, next_idx (by omega)]
            refine ⟨_, rfl, ?_⟩
            show _ = _
            simp only [endP]
            rw [show i + k + 1 - i = k + 1 by omega]
        · rw [if_neg h1, decide_eq_false (by omega : ¬ (c.toNat : Int) < 128), cond_false, hacc, next_idx (by omega)]
          exact L145_eq hi hb f (k + 1) n _ (by omega) (by omega) (by omega)
    · have hc : b[i + k]? = none := getElem?_neg b (i + k) (by omega)
      rw [decide_eq_false (by omega : ¬ (k : Int) < (((lft b i).size : Nat) : Int)), cond_false, hc]
      exact ⟨_, rfl, 10, by decide, rfl⟩
theorem n106_eq (l : ByteArray) : n106 (l, true) = some (true, l, true) := rfl
theorem n145_eq {b : ByteArray} {i : Nat} (hi : i ≤ b.size) (hb : b.size ≤ 1048576) : ∃ p, n145 (lft b i, true) = some p ∧ AnsP b i (num b i) p := by
  obtain ⟨o, h1, h2⟩ := L145_eq hi hb 10 0 1000000000000 0 (by omega) (by omega) (by omega)
  refine ⟨endP o, ?_, h2⟩
  unfold n145
  dsimp only
  rw [n106_eq, Option.bind_some]
  dsimp only
  rw [Bool.not_true, cond_false]
  rw [show ((0 : Nat) : Int) = 0 from rfl] at h1
  rw [h1, Option.bind_some]
  cases o <;> rfl
def AnsU (b : ByteArray) (q : Option (Int × Nat)) (p : Int × Int × ByteArray × Bool) : Prop := match q with
  | some (x, e) => p = (x, 0, lft b e, true)
  | none => p.2.1 ≠ 0
theorem n88_eq {b : ByteArray} {i : Nat} (hi : i ≤ b.size) (hb : b.size ≤ 1048576) : ∃ p, n88 (lft b i, true) = some p ∧ AnsU b (num b i) p := by
  obtain ⟨p, h1, h2⟩ := n145_eq hi hb
  unfold n88
  dsimp only
  rw [h1, Option.bind_some]
  cases hq : num b i with
  | none =>
    rw [hq] at h2
    obtain ⟨err, he, rfl⟩ := h2
    dsimp only
    rw [show (err == 0) = false from by rw [beq_eq_false_iff_ne]; exact he, cond_false]
    exact ⟨_, rfl, he⟩
  | some xe =>
    obtain ⟨x, e⟩ := xe
    rw [hq] at h2
    subst h2
    have hf := numS_facts b i 10 0 0 x e hq
    have hs := lft_size b i
    dsimp only
    rw [show ((0 : Int) == 0) = true from rfl, cond_true, ask_of (by unfold cutRowOk; refine ⟨by omega, by omega, by omega, by omega, by omega, rfl⟩)]
    refine ⟨_, rfl, ?_⟩
    show _ = _
    rw [Int.toNat_natCast, Int.toNat_natCast, lft_lft b i (e - i) (by omega), show i + (e - i) = e by omega]
theorem and1 (x : Int) (h0 : 0 ≤ x) (h1 : x < 18446744073709551616) : bAnd .u64 x 1 = x % 2 := by
  obtain ⟨n, rfl⟩ : ∃ n : Nat, x = n := ⟨x.toNat, by omega⟩
  have e : ((BitVec.ofInt 64 (n : Int)) &&& (BitVec.ofInt 64 1)).toNat = n % 2 := by
    rw [BitVec.ofInt_natCast, show BitVec.ofInt 64 1 = BitVec.ofNat 64 1 by decide, BitVec.toNat_and, BitVec.toNat_ofNat, BitVec.toNat_ofNat, Nat.mod_eq_of_lt (by omega), show 1 % 2 ^ 64 = 1 from rfl, Nat.and_one_is_mod]
  show IntKind.u64.wrap ((BitVec.ofInt 64 (n : Int)) &&& (BitVec.ofInt 64 1)).toNat = _
  rw [e]
  have := wu64_id (n := ((n % 2 : Nat) : Int)) (by omega) (by omega)
  unfold wu64 at this
  rw [this]; omega
theorem bnotI {x : Int} (h0 : 0 ≤ x) (h1 : x < 9223372036854775808) : bXor .i64 (-1) x = -x - 1 := by
  obtain ⟨n, rfl⟩ : ∃ n : Nat, x = n := ⟨x.toNat, by omega⟩
  have e : (BitVec.ofInt 64 (-1)) ^^^ (BitVec.ofInt 64 (n : Int)) = ~~~ (BitVec.ofNat 64 n) := by
    rw [show BitVec.ofInt 64 (-1) = BitVec.allOnes 64 by decide, BitVec.ofInt_natCast, BitVec.allOnes_xor]
  have e2 : (~~~ (BitVec.ofNat 64 n)).toNat = 18446744073709551615 - n := by
    rw [BitVec.toNat_not, BitVec.toNat_ofNat, Nat.mod_eq_of_lt (by omega)]
  show IntKind.i64.wrap ((BitVec.ofInt 64 (-1)) ^^^ (BitVec.ofInt 64 (n : Int))).toNat = _
  rw [e, e2]
  have : w64 ((18446744073709551615 - n : Nat) : Int) = -(n : Int) - 1 := by
    simp only [w64, IntKind.wrap, IntKind.signed, IntKind.bits]
    simp
    omega
  unfold w64 at this
  exact this
def sgn (x : Int) : Int := if x % 2 = 1 then -(x / 2) - 1 else x / 2
theorem unzig_eq {x : Int} (h0 : 0 ≤ x) (h1 : x < 18446744073709551616) : n108 x = some (sgn x) := by
  have e1 : (x : Int).tmod 2 = x % 2 := Int.tmod_eq_emod_of_nonneg h0
  have e2 : (x : Int).tdiv 2 = x / 2 := Int.tdiv_eq_ediv_of_nonneg h0
  unfold n108 sgn
  rw [e1, e2, wu64_id (n := x / 2) (by omega) (by omega), w64_id (n := x / 2) (by omega) (by omega)]
  by_cases h : x % 2 = 1
  · rw [show (x % 2 == 1) = true from by rw [beq_iff_eq]; exact h, cond_true, if_pos h, w64_id (n := 0 - x / 2) (by omega) (by omega), w64_id (by omega) (by omega)]
    congr 1; omega
  · rw [show (x % 2 == 1) = false from by rw [beq_eq_false_iff_ne]; exact h, cond_false, if_neg h]
theorem n104_eq {b : ByteArray} {i : Nat} (hi : i ≤ b.size) (hb : b.size ≤ 1048576) : ∃ p, n104 (lft b i, true) = some p ∧ AnsU b ((num b i).map fun q => (sgn q.1, q.2)) p := by
  obtain ⟨p, h1, h2⟩ := n88_eq hi hb
  unfold n104
  dsimp only
  rw [h1, Option.bind_some]
  cases hq : num b i with
  | none =>
    rw [hq] at h2
    obtain ⟨p1, p2, p3, p4⟩ := p
    cases hc : (bAnd .u64 p1 1 == 1) <;> exact ⟨_, rfl, h2⟩
  | some xe =>
    obtain ⟨x, e⟩ := xe
    rw [hq] at h2
    subst h2
    have hf := numS_facts b i 10 0 0 x e hq
    have e1 : (2 : Int) ^ (min (Int.toNat 1) 64) = 2 := rfl
    have e2 : (x : Int).fdiv 2 = x / 2 := Int.fdiv_eq_ediv_of_nonneg _ (by omega)
    dsimp only
    rw [and1 x hf.1 hf.2.1, e1, e2, w64_id (n := x / 2) (by omega) (by omega), bnotI (by omega) (by omega)]
    by_cases h : x % 2 = 1
    · rw [show (x % 2 == 1) = true from by rw [beq_iff_eq]; exact h, cond_true]
      refine ⟨_, rfl, ?_⟩
      show _ = _
      simp only [sgn, if_pos h]
    · rw [show (x % 2 == 1) = false from by rw [beq_eq_false_iff_ne]; exact h, cond_false]
      refine ⟨_, rfl, ?_⟩
      show _ = _
      simp only [sgn, if_neg h]
theorem n103_some {b : ByteArray} {i : Nat} (hi : i < b.size) (hb : b.size ≤ 1048576) {c : UInt8} (hc : b[i]? = some c) : n103 (lft b i, true) = some ((c.toNat : Int), 0, lft b (i + 1), true) := by
  have hs := lft_size b i
  unfold n103
  dsimp only
  rw [n106_eq, Option.bind_some]
  dsimp only
  rw [Bool.not_true, cond_false, show ((((lft b i).size : Nat) : Int) == 0) = false from by rw [beq_eq_false_iff_ne]; omega, cond_false, show (0 : Int) = ((0 : Nat) : Int) from rfl, sidx_nat, lft_get, Nat.add_zero, hc, Option.bind_some,
    ask_of (by unfold cutRowOk; refine ⟨by omega, by omega, by omega, by omega, by omega, rfl⟩)]
  rw [Int.toNat_natCast, show Int.toNat 1 = 1 from rfl, lft_lft b i 1 (by omega)]
theorem n103_none {b : ByteArray} {i : Nat} (hi : b.size ≤ i) : ∃ p, n103 (lft b i, true) = some p ∧ p.2.1 ≠ 0 := by
  have hs := lft_size b i
  unfold n103
  dsimp only
  rw [n106_eq, Option.bind_some]
  dsimp only
  rw [Bool.not_true, cond_false, show ((((lft b i).size : Nat) : Int) == 0) = true from by rw [beq_iff_eq]; omega, cond_true]
  exact ⟨_, rfl, by show (10 : Int) ≠ 0; decide⟩
def txt (b : ByteArray) (i : Nat) : Option (ByteArray × Nat) := match num b i with
  | none => none
  | some (x, e) => if x ≤ ((b.size - e : Nat) : Int) then some (b.extract e (e + x.toNat), e + x.toNat) else none
def AnsT (b : ByteArray) (q : Option (ByteArray × Nat)) (p : ByteArray × Int × ByteArray × Bool) : Prop := match q with
  | some (s, e) => p = (s, 0, lft b e, true)
  | none => p.2.1 ≠ 0
theorem ext_lft (b : ByteArray) (i j k : Nat) (h : i + k ≤ b.size) : (lft b i).extract j k = b.extract (i + j) (i + k) := by
  rw [lft, ByteArray.extract_extract]
  congr 1
  omega
theorem n105_eq {b : ByteArray} {i : Nat} (hi : i ≤ b.size) (hb : b.size ≤ 1048576) : ∃ p, n105 (lft b i, true) = some p ∧ AnsT b (txt b i) p := by
  obtain ⟨p, h1, h2⟩ := n145_eq hi hb
  have hs := lft_size b i
  unfold n105 txt
  dsimp only
  rw [h1, Option.bind_some]
  cases hq : num b i with
  | none =>
    rw [hq] at h2
    obtain ⟨err, he, rfl⟩ := h2
    dsimp only
    rw [show (err != 0) = true from by rw [bne_iff_ne]; exact he, cond_true]
    exact ⟨_, rfl, he⟩
  | some xe =>
    obtain ⟨x, e⟩ := xe
    rw [hq] at h2
    subst h2
    have hf := numS_facts b i 10 0 0 x e hq
    dsimp only
    have e1 : wu64 (w64 ((((lft b i).size : Nat) : Int) - ((e - i : Nat) : Int))) = ((b.size - e : Nat) : Int) := by
      rw [w64_id (by omega) (by omega), wu64_id (by omega) (by omega)]; omega
    rw [show ((0 : Int) != 0) = false from rfl, cond_false, e1]
    by_cases h : x ≤ ((b.size - e : Nat) : Int)
    · rw [decide_eq_false (by omega), cond_false, if_pos h]
      obtain ⟨n, rfl⟩ : ∃ n : Nat, x = n := ⟨x.toNat, by omega⟩
      rw [w64_id (n := (n : Int)) (by omega) (by omega), w64_id (n := ((e - i : Nat) : Int) + (n : Int)) (by omega) (by omega),
        ask_of (by unfold cutRowOk; refine ⟨by omega, by omega, by omega, by omega, by omega, rfl⟩), ask_of (by unfold cutRowOk; refine ⟨by omega, by omega, by omega, by omega, by omega, rfl⟩)]
      refine ⟨_, rfl, ?_⟩
      show _ = _
      rw [show Int.toNat (((e - i : Nat) : Int) + (n : Int)) = e - i + n by omega, Int.toNat_natCast, Int.toNat_natCast, Int.toNat_natCast, lft_lft b i (e - i + n) (by omega), ext_lft b i (e - i) (e - i + n) (by omega), show i + (e - i + n) = e + n by omega, show i + (e - i) = e by omega]
    · rw [decide_eq_true (by omega), cond_true, if_neg h]
      exact ⟨_, rfl, by show (10 : Int) ≠ 0; decide⟩
end Ev

set_option linter.unusedSimpArgs false
set_option linter.unusedVariables false
namespace Ev
open Go
def okR (v : V) (e L : Nat) : RT51 := .inl (v.tup.1, v.tup.2.1, v.tup.2.2.1, v.tup.2.2.2.1, v.tup.2.2.2.2, (e : Int), (L : Int))
def okP (b : ByteArray) (v : V) (e L : Nat) : RT49 := .inl (v.tup.1, v.tup.2.1, v.tup.2.2.1, v.tup.2.2.2.1, v.tup.2.2.2.2, lft b e, true, ((4096 - L : Nat) : Int))
def Both (b : ByteArray) (F : PT51 → Option RT51) (G : PT49 → Option RT49) (i L dep : Nat) : Prop :=
  (∃ (v : V) (e L' : Nat), F ((L : Int), b, (i : Int), (dep : Int)) = some (okR v e L') ∧ G (lft b i, true, ((4096 - L : Nat) : Int), (dep : Int)) = some (okP b v e L') ∧ i < e ∧ e ≤ b.size ∧ L' < L ∧ v.big ≤ e - i ∧ v.hgt + dep ≤ 17) ∨
  (∃ (x1 x2 x3 : Int) (x4 : ByteArray) (x5 : List D) (e l : Int), F ((L : Int), b, (i : Int), (dep : Int)) = some (.inl (x1, x2, x3, x4, x5, e, l)) ∧ e < 0 ∧ G (lft b i, true, ((4096 - L : Nat) : Int), (dep : Int)) = some (.inr ()))
theorem addOk_ds8 {n : Nat} {a b : List V} (hn : n = a.length) (h : a.length + b.length ≤ 1048576) : addOk n (V.ds a) (V.ds b) 5 64 := by
  have hz : ∀ l : List V, hasSize 5 (V.ds l) = true := fun l => by
    cases l with
    | nil => rfl
    | cons v r =>
      obtain ⟨k, i, m, t, s⟩ := v
      rw [V.ds, V.d_mk]
      rfl
  refine ⟨by rw [ds_length]; exact hn, hz _, hz _, ?_⟩
  rw [ds_length, ds_length]
  unfold maxBytes
  omega
theorem ds_app (a b : List V) : V.ds (a ++ b) = V.ds a ++ V.ds b := by rw [V.ds_eq, V.ds_eq, V.ds_eq, List.map_append]
theorem ds_one (v : V) : V.ds [v] = [.agg [.val (.int .i64 v.tup.1), .val (.int .i64 v.tup.2.1), .val (.int .i64 v.tup.2.2.1), .val (.string v.tup.2.2.2.1), .slice v.tup.2.2.2.2]] := by
  obtain ⟨k, i, m, t, s⟩ := v
  rw [V.ds, V.ds, V.d_mk]
  rfl
def BothL (b : ByteArray) (F : PT51 → Option RT51) (G : PT49 → Option RT49) (n i L dep m j : Nat) (kd : Int) (acc : List V) : Prop :=
  (∃ (l : List V) (e L' : Nat), L51_1 F n (b, (i : Int), (dep : Int), (m : Int), (L : Int), 0, 0, 0, noT, [], kd, 0, 0, noT, V.ds acc) () = some (.x2 (e : Int) (L' : Int) 0 0 0 noT [] kd 0 0 noT (V.ds (acc ++ l)), ()) ∧
    L49_1 G n ((dep : Int), ((j + m : Nat) : Int), (j : Int), lft b i, true, ((4096 - L : Nat) : Int), 0, 0, 0, noT, [], kd, 0, 0, noT, V.ds acc) () = some (.x1 (lft b e) true ((4096 - L' : Nat) : Int) 0 0 0 noT [] kd 0 0 noT (V.ds (acc ++ l)), ()) ∧
    i ≤ e ∧ e ≤ b.size ∧ L' + m ≤ L ∧ V.bigL l ≤ e - i ∧ V.hgtL l + dep ≤ 16) ∨
  (∃ (l : Int) (q1 q2 : List D) (n1 : Nat) (p1 p2 : Nat), L51_1 F n (b, (i : Int), (dep : Int), (m : Int), (L : Int), 0, 0, 0, noT, [], kd, 0, 0, noT, V.ds acc) () = some (.x0 (-1) l kd 0 0 noT q1 kd 0 0 noT q2 n1, ()) ∧
    L49_1 G n ((dep : Int), ((j + m : Nat) : Int), (j : Int), lft b i, true, ((4096 - L : Nat) : Int), 0, 0, 0, noT, [], kd, 0, 0, noT, V.ds acc) () = some (.x0 p1 p2, ()))
theorem bothL {b : ByteArray} (hb : b.size ≤ 1048576) {F : PT51 → Option RT51} {G : PT49 → Option RT49} {dep : Nat} (hd : 1 ≤ dep ∧ dep ≤ 16) (hF : ∀ i L, i ≤ b.size → L ≤ 4096 → Both b F G i L (dep + 1)) (kd : Int) :
    ∀ (n i L m j : Nat) (acc : List V), i ≤ b.size → L ≤ 4096 → L < n → acc.length + L ≤ 4096 → j + m < 18446744073709551616 → BothL b F G n i L dep m j kd acc
  | n + 1, i, L, m, j, acc, hi, hL, hn, ha, hj => by
    unfold BothL
    rw [L51_1, L49_1]
    rcases Nat.eq_zero_or_pos m with rfl | hm
    · refine .inl ⟨[], i, L, ?_, ?_, Nat.le_refl _, hi, Nat.le_refl _, by rw [V.bigL]; omega, by rw [V.hgtL]; omega⟩
      · rw [decide_eq_false (by omega), cond_false, ask_of rfl, List.append_nil]
      · rw [decide_eq_false (by omega), cond_false, ask_of rfl, List.append_nil]
    · have hdd : w64 ((dep : Int) + 1) = ((dep + 1 : Nat) : Int) := by rw [w64_id (by omega) (by omega)]; omega
      have h1 : decide ((m : Int) > 0) = true := decide_eq_true (by omega)
      have h2 : decide ((j : Int) < ((j + m : Nat) : Int)) = true := decide_eq_true (by omega)
      rw [h1, h2, cond_true, cond_true, hdd]
      rcases hF i L hi hL with ⟨v, e, L', q1, q2, hie, hes, hLL, hbig, hh⟩ | ⟨x1, x2, x3, x4, x5, e, l, q1, he, q2⟩
      · rw [q1, q2, Option.bind_some, Option.bind_some]
        simp only [okR, okP]
        rw [decide_eq_false (by omega : ¬ (e : Int) < 0), cond_false, ← ds_one v, ask_of (addOk_ds8 (by rw [ds_length]) (by simp only [List.length_cons, List.length_nil]; omega)), ask_of (addOk_ds8 (by rw [ds_length]) (by simp only [List.length_cons, List.length_nil]; omega)),
          ask_of (by rw [List.length_append]), ask_of (by rw [List.length_append]), ← ds_app]
        have e1 : wu64 ((m : Int) - 1) = ((m - 1 : Nat) : Int) := by rw [wu64_id (by omega) (by omega)]; omega
        have e2 : wu64 ((j : Int) + 1) = ((j + 1 : Nat) : Int) := by rw [wu64_id (by omega) (by omega)]; omega
        have e3 : ((j + m : Nat) : Int) = ((j + 1 + (m - 1) : Nat) : Int) := by omega
        rw [e1, e2, e3]
        rcases bothL hb hd hF kd n e L' (m - 1) (j + 1) (acc ++ [v]) hes (by omega) (by omega) (by rw [List.length_append, List.length_cons, List.length_nil]; omega) (by omega) with ⟨l, e', L'', r1, r2, s1, s2, s3, s4, s5⟩ | ⟨l, y1, y2, n1, p1, p2, r1, r2⟩
        · refine .inl ⟨v :: l, e', L'', ?_, ?_, by omega, s2, by omega, by rw [V.bigL]; omega, by rw [V.hgtL]; omega⟩
          · rw [r1, List.append_assoc]; rfl
          · rw [r2, List.append_assoc]; rfl
        · exact .inr ⟨l, y1, y2, n1, p1, p2, r1, r2⟩
      · rw [q1, q2, Option.bind_some, Option.bind_some]
        dsimp only
        rw [decide_eq_true (by omega : e < 0), cond_true, ask_of rfl, ask_of rfl]
        exact .inr ⟨_, _, _, _, _, _, rfl, rfl⟩
end Ev

set_option linter.unusedSimpArgs false
set_option linter.unusedVariables false
namespace Ev
open Go
theorem headP {L dep : Nat} (hL : L ≤ 4096) (hd : dep ≤ 17) : (bif (decide ((w64 (((4096 - L : Nat) : Int) + 1)) > 4096)) then true else (decide ((dep : Int) > 16))) = decide (L = 0 ∨ dep = 17) := by
  rw [w64_id (by omega) (by omega)]
  by_cases h : L = 0
  · rw [decide_eq_true (by omega), cond_true, decide_eq_true (Or.inl h)]
  · rw [decide_eq_false (by omega), cond_false]
    exact decide_eq_decide.2 (by omega)
theorem headR {L dep : Nat} (hL : L ≤ 4096) (hd : dep ≤ 17) : (bif (decide ((w64 ((L : Int) - 1)) < 0)) then true else (decide ((dep : Int) > 16))) = decide (L = 0 ∨ dep = 17) := by
  rw [w64_id (by omega) (by omega)]
  by_cases h : L = 0
  · rw [decide_eq_true (by omega), cond_true, decide_eq_true (Or.inl h)]
  · rw [decide_eq_false (by omega), cond_false]
    exact decide_eq_decide.2 (by omega)
theorem byte_is {b : ByteArray} {i : Nat} (h : i < b.size) : ∃ c, b[i]? = some c := ⟨_, getElem?_pos b i h⟩
theorem ne_beq {x y : Int} (h : x ≠ y) : (x == y) = false := by rw [beq_eq_false_iff_ne]; exact h
theorem eq_beq {x y : Int} (h : x = y) : (x == y) = true := by rw [beq_iff_eq]; exact h
theorem ne_bne {x y : Int} (h : x ≠ y) : (x != y) = true := by rw [bne_iff_ne]; exact h
theorem eq_bne {x y : Int} (h : x = y) : (x != y) = false := by rw [bne_eq_false_iff_eq]; exact h
theorem both_step {b : ByteArray} (hb : b.size ≤ 1048576) {F : PT51 → Option RT51} {G : PT49 → Option RT49} {i L dep : Nat} (hi : i ≤ b.size) (hL : L ≤ 4096) (hd : 1 ≤ dep ∧ dep ≤ 17)
    (hF : dep ≤ 16 → ∀ i L, i ≤ b.size → L ≤ 4096 → Both b F G i L (dep + 1)) : Both b (s51 F) (s49 G) i L dep := by
  have hP := headP hL hd.2
  have hR := headR hL hd.2
  unfold Both
  rcases Nat.lt_or_ge i b.size with h | h
  case inr =>
    refine .inr ⟨0, 0, 0, noT, [], -1, w64 ((L : Int) - 1), ?_, by decide, ?_⟩
    · unfold s51
      dsimp only
      rw [decide_eq_true (by omega : (i : Int) ≥ ((b.size : Nat) : Int)), cond_true]
    · unfold s49
      dsimp only
      rw [hP]
      by_cases hq : L = 0 ∨ dep = 17
      · rw [decide_eq_true hq, cond_true]
      · rw [decide_eq_false hq, cond_false]
        obtain ⟨p, h1, h2⟩ := n103_none h
        rw [h1, Option.bind_some, ne_bne h2, cond_true]
  by_cases hq : L = 0 ∨ dep = 17
  · refine .inr ⟨0, 0, 0, noT, [], -1, w64 ((L : Int) - 1), ?_, by decide, ?_⟩
    · unfold s51
      dsimp only
      rw [hR, decide_eq_true hq, decide_eq_false (by omega : ¬ (i : Int) ≥ ((b.size : Nat) : Int)), cond_false, cond_true]
    · unfold s49
      dsimp only
      rw [hP, decide_eq_true hq, cond_true]
  obtain ⟨c, hc⟩ := byte_is h
  have hcl := byte_lt c
  have hs := lft_size b i
  have hw : w64 (c.toNat : Int) = (c.toNat : Int) := w64_id (by omega) (by omega)
  have e1 : w64 ((i : Int) + 1) = ((i + 1 : Nat) : Int) := next_idx (by omega)
  have e2 : w64 ((L : Int) - 1) = ((L - 1 : Nat) : Int) := by rw [w64_id (by omega) (by omega)]; omega
  have e3 : w64 (((4096 - L : Nat) : Int) + 1) = ((4096 - (L - 1) : Nat) : Int) := by rw [w64_id (by omega) (by omega)]; omega
  generalize hXR : s51 F ((L : Int), b, (i : Int), (dep : Int)) = XR
  generalize hXP : s49 G (lft b i, true, ((4096 - L : Nat) : Int), (dep : Int)) = XP
  unfold s51 at hXR
  unfold s49 at hXP
  dsimp only at hXR hXP
  rw [hR, decide_eq_false hq, decide_eq_false (by omega : ¬ (i : Int) ≥ ((b.size : Nat) : Int)), cond_false, cond_false, sidx_nat, hc, Option.bind_some, hw, e1, e2] at hXR
  rw [hP, decide_eq_false hq, cond_false, n103_some h hb hc, Option.bind_some] at hXP
  dsimp only at hXP
  rw [eq_bne (x := 0) rfl, cond_false, hw, e3] at hXP
  subst hXR
  subst hXP
  clear hR hP
  by_cases k1 : c.toNat = 1
  · have k1' : (c.toNat : Int) = 1 := by omega
    rw [k1']
    rw [eq_beq (x := 1) (y := 1) rfl, ne_beq (x := 1) (y := 2) (by decide), cond_true, cond_false, cond_true]
    rcases Nat.lt_or_ge (i + 1) b.size with h' | h'
    · obtain ⟨c', hc'⟩ := byte_is h'
      have hcl' := byte_lt c'
      rw [decide_eq_false (by omega : ¬ ((i + 1 : Nat) : Int) ≥ ((b.size : Nat) : Int)), cond_false, sidx_nat, hc', Option.bind_some, n103_some h' hb hc', Option.bind_some, w64_id (n := (c'.toNat : Int)) (by omega) (by omega), next_idx (by omega)]
      dsimp only
      rw [eq_bne (x := 0) rfl, cond_false]
      exact .inl ⟨.mk 1 c'.toNat 0 noT [], i + 1 + 1, L - 1, rfl, rfl, by omega, by omega, by omega, by rw [V.big, V.bigL, show noT.size = 0 from rfl]; omega, by rw [V.hgt, V.hgtL]; omega⟩
    · obtain ⟨p, h1, h2⟩ := n103_none h'
      rw [decide_eq_true (by omega : ((i + 1 : Nat) : Int) ≥ ((b.size : Nat) : Int)), cond_true, h1, Option.bind_some, ne_bne h2, cond_true]
      exact .inr ⟨_, _, _, _, _, _, _, rfl, by decide, rfl⟩
  rw [ne_beq (x := (c.toNat : Int)) (y := 1) (by omega), cond_false, cond_false]
  by_cases k27 : 2 ≤ c.toNat ∧ c.toNat ≤ 7
  case neg =>
    rw [show (bif (decide ((c.toNat : Int) < 2)) then true else (decide ((c.toNat : Int) > 7))) = true from by
      by_cases q : c.toNat < 2
      · rw [decide_eq_true (by omega), cond_true]
      · rw [decide_eq_false (by omega), cond_false]; exact decide_eq_true (by omega)]
    rw [cond_true, ne_beq (y := 2) (by omega), ne_beq (y := 4) (by omega), ne_beq (y := 3) (by omega), ne_beq (y := 5) (by omega), ne_beq (y := 6) (by omega), ne_beq (y := 7) (by omega), cond_false, cond_false, cond_false, cond_false, cond_false, cond_false]
    exact .inr ⟨_, _, _, _, _, _, _, rfl, by decide, rfl⟩
  rw [decide_eq_false (by omega : ¬ (c.toNat : Int) < 2), decide_eq_false (by omega : ¬ (c.toNat : Int) > 7), cond_false, cond_false, rtake_eq h hb, Option.bind_some]
  obtain ⟨pu, u1, u2⟩ := n88_eq (i := i + 1) h hb
  obtain ⟨ps, s1, s2⟩ := n104_eq (i := i + 1) h hb
  obtain ⟨pt, t1, t2⟩ := n105_eq (i := i + 1) h hb
  cases hn : num b (i + 1) with
  | none =>
    rw [hn] at u2 s2
    have t2' : pt.2.1 ≠ 0 := by
      unfold txt at t2
      rw [hn] at t2
      exact t2
    have u2' : pu.2.1 ≠ 0 := u2
    have s2' : ps.2.1 ≠ 0 := s2
    rw [show (ansR none).2 = -1 from rfl, decide_eq_true (by decide : (-1 : Int) < 0), cond_true, u1, s1, t1]
    simp only [Option.bind_some, ne_bne u2', ne_bne s2', ne_bne t2', cond_true]
    refine .inr ⟨_, _, _, _, _, _, _, rfl, by decide, ?_⟩
    rcases (by omega : c.toNat = 2 ∨ c.toNat = 3 ∨ c.toNat = 4 ∨ c.toNat = 5 ∨ c.toNat = 6 ∨ c.toNat = 7) with k | k | k | k | k | k <;> simp [k]
  | some xe =>
    obtain ⟨x, e⟩ := xe
    have hf := numS_facts b (i + 1) 10 0 0 x e hn
    rw [hn] at u2 s2
    obtain rfl : pu = (x, 0, lft b e, true) := u2
    obtain rfl : ps = (sgn x, 0, lft b e, true) := s2
    rw [show ansR (some (x, e)) = (x, (e : Int)) from rfl]
    dsimp only
    rw [decide_eq_false (by omega : ¬ (e : Int) < 0), cond_false, unzig_eq hf.1 hf.2.1]
    by_cases k2 : c.toNat = 2
    · have k' : (c.toNat : Int) = 2 := by omega
      rw [k', eq_beq (x := 2) (y := 2) rfl, cond_true, cond_true, Option.bind_some, s1, Option.bind_some]
      dsimp only
      rw [eq_bne (x := 0) rfl, cond_false]
      exact .inl ⟨.mk 2 (sgn x) 0 noT [], e, L - 1, rfl, rfl, by omega, by omega, by omega, by rw [V.big, V.bigL, show noT.size = 0 from rfl]; omega, by rw [V.hgt, V.hgtL]; omega⟩
    rw [ne_beq (x := (c.toNat : Int)) (y := 2) (by omega), cond_false, cond_false]
    by_cases k3 : c.toNat = 3
    · have k' : (c.toNat : Int) = 3 := by omega
      rw [k', eq_beq (x := 3) (y := 3) rfl, ne_beq (x := 3) (y := 4) (by decide), cond_true, cond_false, cond_true, Option.bind_some, s1, Option.bind_some, rtake_eq (b := b) (i := e) hf.2.2.2 hb, Option.bind_some]
      dsimp only
      rw [eq_bne (x := 0) rfl, cond_false]
      obtain ⟨pm, m1, m2⟩ := n104_eq (i := e) hf.2.2.2 hb
      rw [m1, Option.bind_some]
      cases hm : num b e with
      | none =>
        rw [hm] at m2
        have m2' : pm.2.1 ≠ 0 := m2
        rw [show ansR none = (0, -1) from rfl, ne_bne m2', cond_true]
        dsimp only
        rw [unzig_eq (x := 0) (by decide) (by decide), Option.bind_some]
        exact .inr ⟨_, _, _, _, _, _, _, rfl, by decide, rfl⟩
      | some ye =>
        obtain ⟨y, e'⟩ := ye
        have hf' := numS_facts b e 10 0 0 y e' hm
        rw [hm] at m2
        obtain rfl : pm = (sgn y, 0, lft b e', true) := m2
        rw [show ansR (some (y, e')) = (y, (e' : Int)) from rfl]
        dsimp only
        rw [unzig_eq hf'.1 hf'.2.1, Option.bind_some, eq_bne (x := 0) rfl, cond_false]
        exact .inl ⟨.mk 3 (sgn x) (sgn y) noT [], e', L - 1, rfl, rfl, by omega, by omega, by omega, by rw [V.big, V.bigL, show noT.size = 0 from rfl]; omega, by rw [V.hgt, V.hgtL]; omega⟩
    rw [ne_beq (x := (c.toNat : Int)) (y := 3) (by omega), cond_false, cond_false]
    by_cases k4 : c.toNat = 4
    · have k' : (c.toNat : Int) = 4 := by omega
      rw [k', eq_beq (x := 4) (y := 4) rfl, cond_true, cond_true, t1, Option.bind_some]
      unfold txt at t2
      rw [hn] at t2
      dsimp only at t2
      have e4 : wu64 (w64 (((b.size : Nat) : Int) - (e : Int))) = ((b.size - e : Nat) : Int) := by
        rw [w64_id (by omega) (by omega), wu64_id (by omega) (by omega)]; omega
      rw [e4]
      by_cases hx : x ≤ ((b.size - e : Nat) : Int)
      · rw [if_pos hx] at t2
        obtain rfl : pt = (b.extract e (e + x.toNat), 0, lft b (e + x.toNat), true) := t2
        dsimp only
        have e5 : w64 ((e : Int) + w64 x) = ((e + x.toNat : Nat) : Int) := by rw [w64_id (n := x) (by omega) (by omega), w64_id (by omega) (by omega)]; omega
        rw [decide_eq_false (by omega : ¬ x > ((b.size - e : Nat) : Int)), cond_false, e5, ask_of (by unfold cutRowOk; refine ⟨by omega, by omega, by omega, by omega, by omega, rfl⟩), Int.toNat_natCast, Int.toNat_natCast, eq_bne (x := 0) rfl, cond_false]
        exact .inl ⟨.mk 4 0 0 (b.extract e (e + x.toNat)) [], e + x.toNat, L - 1, rfl, rfl, by omega, by omega, by omega, by rw [V.big, V.bigL, ByteArray.size_extract]; omega, by rw [V.hgt, V.hgtL]; omega⟩
      · rw [if_neg hx] at t2
        have t2' : pt.2.1 ≠ 0 := t2
        rw [decide_eq_true (by omega : x > ((b.size - e : Nat) : Int)), cond_true, ne_bne t2', cond_true]
        exact .inr ⟨_, _, _, _, _, _, _, rfl, by decide, rfl⟩
    rw [ne_beq (x := (c.toNat : Int)) (y := 4) (by omega), cond_false, cond_false, ask_of (show ([0, 0] : List Nat) = [([] : List D).length, ([] : List D).length] from rfl), u1]
    obtain ⟨n, rfl⟩ : ∃ n : Nat, x = n := ⟨x.toNat, by omega⟩
    have hl := bothL hb (F := F) (G := G) (dep := dep) (by omega) (hF (by omega)) (c.toNat : Int) 1000000000000 e (L - 1) n 0 [] hf.2.2.2 (by omega) (by omega) (by rw [List.length_nil]; omega) (by omega)
    have hG : (bif ((c.toNat : Int) == 5) then true else bif ((c.toNat : Int) == 6) then true else ((c.toNat : Int) == 7)) = true := by
      rcases (by omega : c.toNat = 5 ∨ c.toNat = 6 ∨ c.toNat = 7) with k | k | k <;> simp [k]
    have hone : ∀ (X : Option RT49), (bif ((c.toNat : Int) == 5) then X else bif ((c.toNat : Int) == 6) then X else bif ((c.toNat : Int) == 7) then X else some (.inr ())) = X := by
      intro X
      rcases (by omega : c.toNat = 5 ∨ c.toNat = 6 ∨ c.toNat = 7) with k | k | k <;> simp [k]
    simp only [Option.bind_some]
    rw [hone]
    rw [eq_bne (x := 0) rfl, cond_false]
    rcases hl with ⟨l, e', L', r1, r2, s1, s2, s3, s4, s5⟩ | ⟨l, y1, y2, n1, p1, p2, r1, r2⟩
    · rw [decide_eq_false (by omega : ¬ (n : Int) > 4096), cond_false, ask_of (show ([0, 0] : List Nat) = [([] : List D).length, ([] : List D).length] from rfl)]
      rw [show ((0 + n : Nat) : Int) = (n : Int) by rw [Nat.zero_add]] at r2
      simp only [show (V.ds [] : List D) = [] from rfl, Int.natCast_zero] at r1 r2
      rw [r1, r2, Option.bind_some, Option.bind_some]
      exact .inl ⟨.mk c.toNat 0 0 noT l, e', L', rfl, rfl, by omega, by omega, by omega, by rw [V.big, show noT.size = 0 from rfl]; omega, by rw [V.hgt]; omega⟩
    · rw [show ((0 + n : Nat) : Int) = (n : Int) by rw [Nat.zero_add]] at r2
      simp only [show (V.ds [] : List D) = [] from rfl, Int.natCast_zero] at r1 r2
      rw [r1, Option.bind_some]
      refine .inr ⟨_, _, _, _, _, _, _, rfl, by decide, ?_⟩
      by_cases hx : n > 4096
      · rw [decide_eq_true (by omega : (n : Int) > 4096), cond_true]
      · rw [decide_eq_false (by omega : ¬ (n : Int) > 4096), cond_false, ask_of (show ([0, 0] : List Nat) = [([] : List D).length, ([] : List D).length] from rfl), r2, Option.bind_some]
end Ev

set_option linter.unusedSimpArgs false
set_option linter.unusedVariables false
namespace Ev
open Go
theorem both {b : ByteArray} (hb : b.size ≤ 1048576) : ∀ (k i L dep : Nat), i ≤ b.size → L ≤ 4096 → 1 ≤ dep → dep ≤ 17 → 18 ≤ k + dep → Both b (n51 k) (n49 k) i L dep
  | 0, i, L, dep, hi, hL, h1, h2, h3 => by omega
  | k + 1, i, L, dep, hi, hL, h1, h2, h3 => both_step (F := n51 k) (G := n49 k) hb hi hL ⟨h1, h2⟩ (fun h i L hi hL => both hb k i L (dep + 1) hi hL (by omega) (by omega) (by omega))
theorem lft_zero (b : ByteArray) : lft b 0 = b := by rw [lft]; exact ByteArray.extract_zero_size
abbrev T7 := Int × Int × Int × ByteArray × List D × Int × Int
def zero7 : T7 := (0, 0, 0, noT, [], 0, 41)
def some7 (v : V) (e : Nat) : T7 := (v.tup.1, v.tup.2.1, v.tup.2.2.1, v.tup.2.2.2.1, v.tup.2.2.2.2, (e : Int), 0)
def Dec (b : ByteArray) (t : T7) : Prop := t = zero7 ∨ ∃ v e, t = some7 v e ∧ v.right = true ∧ v.big ≤ e ∧ e ≤ b.size
theorem n14_both {b : ByteArray} (hb : b.size ≤ 1048576) : ∃ t, Dec b t ∧ n14 b = some t ∧ n13 b = some t ∧ (∀ es, partBytes 0 b.size es = some b → nV13 (0, b.size, es) = some (t.1, t.2.1, t.2.2.1, t.2.2.2.1, t.2.2.2.2.1, t.2.2.2.2.2.1, t.2.2.2.2.2.2, es)) := by
  have hcl : cloneOkB b := Nat.ble_eq_true_of_le (by omega)
  rcases both hb 64 0 4096 1 (by omega) (by omega) (by omega) (by omega) (by omega) with ⟨v, e, L', h1, h2, h3, h4, h5, h6, h7⟩ | ⟨x1, x2, x3, x4, x5, e, l, h1, h2, h3⟩
  · rw [lft_zero] at h2
    have hbig : v.big ≤ 1048576 := by omega
    have hs := lft_size b e
    have e50 : n50 (lft b e, true) = some (((b.size - e : Nat) : Int), lft b e, true) := by
      unfold n50
      dsimp only
      rw [n106_eq, Option.bind_some]
      dsimp only
      rw [Bool.not_true, cond_false, hs]
    have ew : w64 (((b.size : Nat) : Int) - ((b.size - e : Nat) : Int)) = (e : Int) := by rw [w64_id (by omega) (by omega)]; omega
    have h1' : n51 64 (4096, b, 0, 1) = some (okR v e L') := h1
    have h2' : n49 64 (b, true, 0, 1) = some (okP b v e L') := h2
    have hc := check_eq hbig
    have hr := right_eq hbig
    cases hv : v.right with
    | true =>
      rw [hv] at hc hr
      rw [cond_true] at hc
      refine ⟨some7 v e, .inr ⟨v, e, rfl, hv, by omega, h4⟩, ?_, ?_, fun es hes => ?_⟩
      · unfold n14
        rw [h1', Option.bind_some]
        simp only [okR]
        rw [decide_eq_false (by omega : ¬ (e : Int) < 0), cond_false, hr, Option.bind_some, Bool.not_true, cond_false]
        rfl
      · unfold n13
        rw [ask_of hcl, h2', Option.bind_some]
        simp only [okP]
        rw [hc, Option.bind_some, show ((0 : Int) != 0) = false from rfl, cond_false, e50, Option.bind_some]
        dsimp only
        rw [ew]
        rfl
      · unfold nV13
        dsimp only
        rw [hes, Option.bind_some, ask_of hcl, h2', Option.bind_some]
        simp only [okP]
        rw [hc, Option.bind_some, show ((0 : Int) != 0) = false from rfl, cond_false, e50, Option.bind_some]
        dsimp only
        rw [ew]
        rfl
    | false =>
      rw [hv] at hc hr
      rw [cond_false] at hc
      refine ⟨zero7, .inl rfl, ?_, ?_, fun es hes => ?_⟩
      · unfold n14
        rw [h1', Option.bind_some]
        simp only [okR]
        rw [decide_eq_false (by omega : ¬ (e : Int) < 0), cond_false, hr, Option.bind_some, Bool.not_false, cond_true]
        rfl
      · unfold n13
        rw [ask_of hcl, h2', Option.bind_some]
        simp only [okP]
        rw [hc, Option.bind_some, show ((40 : Int) != 0) = true from rfl, cond_true]
        rfl
      · unfold nV13
        dsimp only
        rw [hes, Option.bind_some, ask_of hcl, h2', Option.bind_some]
        simp only [okP]
        rw [hc, Option.bind_some, show ((40 : Int) != 0) = true from rfl, cond_true]
        rfl
  · rw [lft_zero] at h3
    have h1' : n51 64 (4096, b, 0, 1) = some (.inl (x1, x2, x3, x4, x5, e, l)) := h1
    have h3' : n49 64 (b, true, 0, 1) = some (.inr ()) := h3
    refine ⟨zero7, .inl rfl, ?_, ?_, fun es hes => ?_⟩
    · unfold n14
      rw [h1', Option.bind_some]
      dsimp only
      rw [decide_eq_true h2, cond_true]
      rfl
    · unfold n13
      rw [ask_of hcl, h3', Option.bind_some]
      rfl
    · unfold nV13
      dsimp only
      rw [hes, Option.bind_some, ask_of hcl, h3', Option.bind_some]
      rfl
theorem dec_alike {b : ByteArray} (hb : b.size ≤ 1048576) {t : T7} (h : Dec b t) : n16 64 (t.1, t.2.1, t.2.2.1, t.2.2.2.1, t.2.2.2.2.1, t.1, t.2.1, t.2.2.1, t.2.2.2.1, t.2.2.2.2.1) = some true := by
  have key : ∀ v : V, v.hgt ≤ 64 → v.big ≤ 1048576 → n16 64 (v.two v) = some true := fun v h1 h2 => by
    rw [n23_eq 64 v v h1 h2, V.cmp_self]; rfl
  rcases h with rfl | ⟨v, e, rfl, hr, h1, h2⟩
  · exact key (.mk 0 0 0 noT []) (by rw [V.hgt, V.hgtL]; omega) (by rw [V.big, V.bigL, show noT.size = 0 from rfl]; omega)
  · have hs : v.small = true := by
      unfold V.right at hr
      cases hq : v.small with
      | true => rfl
      | false => rw [hq] at hr; cases hr
    have := hgt_small hs
    have e : v.two v = (v.tup.1, v.tup.2.1, v.tup.2.2.1, v.tup.2.2.2.1, v.tup.2.2.2.2, v.tup.1, v.tup.2.1, v.tup.2.2.1, v.tup.2.2.2.1, v.tup.2.2.2.2) := by
      obtain ⟨k, i, m, t, l⟩ := v
      rfl
    have h3 := key v (by omega) (by omega)
    rw [e] at h3
    exact h3
theorem toBytes_D (b : ByteArray) : toBytes (bytesD b) = some b := by
  have key : ∀ l : List UInt8, toBytes (l.map fun x => D.val (.int .u8 x.toNat)) = some ⟨l.toArray⟩ := by
    intro l
    induction l with
    | nil => rfl
    | cons x r ih =>
      rw [List.map_cons, toBytes, ih]
      dsimp only
      have := x.toNat_lt
      rw [if_pos (by omega), Int.toNat_natCast]
      congr 1
      apply ByteArray.ext
      apply Array.ext'
      simp [ByteArray.data_append]
  rw [bytesD, key b.data.toList]
theorem bytesD_length (b : ByteArray) : (bytesD b).length = b.size := by rw [bytesD, List.length_map]; rfl
theorem partBy (b : ByteArray) : partBytes 0 b.size (bytesD b) = some b := by
  unfold partBytes
  rw [bytesD_length, if_pos (by omega), List.drop_zero, List.take_of_length_le (by rw [bytesD_length]; exact Nat.le_refl _), toBytes_D]
theorem L3_over (b : ByteArray) (hb : b.size ≤ 1048576) (x1 x2 x3 : Int) (x4 : ByteArray) (x5 : List D) (y1 y2 y3 : Int) (y4 : ByteArray) (y5 : List D) : ∀ (n i : Nat) (row : List D), b.size - i < n → i ≤ b.size → (∀ j, i ≤ j → row[j]? = (bytesD b)[j]?) →
    ∃ row', L3_0v1 n (0, b.size, (i : Int), row, x1, x2, x3, x4, x5, y1, y2, y3, y4, y5) () = some (.x0 row' x1 x2 x3 x4 x5 y1 y2 y3 y4 y5, ())
  | n + 1, i, row, hn, hi, hr => by
    rw [L3_0v1]
    rcases Nat.lt_or_ge i b.size with h | h
    · obtain ⟨d, hd⟩ : ∃ d, (bytesD b)[i]? = some d := ⟨_, List.getElem?_eq_getElem (by rw [bytesD_length]; exact h)⟩
      have hdc : d.cells.length = 1 := by
        unfold bytesD at hd
        rw [List.getElem?_map] at hd
        cases hx : b.data.toList[i]? with
        | none => rw [hx] at hd; cases hd
        | some x => rw [hx] at hd; cases hd; rfl
      rw [decide_eq_true (by omega : (i : Int) < ((b.size : Nat) : Int)), cond_true, ask_of (by unfold rowIn; omega), Int.toNat_natCast, Nat.zero_add, hr i (Nat.le_refl _), hd, Option.bind_some, ask_of hdc, next_idx (by omega)]
      exact L3_over b hb x1 x2 x3 x4 x5 y1 y2 y3 y4 y5 n (i + 1) _ (by omega) (by omega) (fun j hj => by rw [List.getElem?_set_ne (by omega)]; exact hr j (by omega))
    · rw [decide_eq_false (by omega), cond_false]
      exact ⟨_, rfl⟩
theorem plain3 {b : ByteArray} (hb : b.size ≤ 1048576) : n3 b = some true := by
  obtain ⟨t, hD, h14, h13, hV⟩ := n14_both hb
  have hal := dec_alike hb hD
  obtain ⟨t1, t2, t3, t4, t5, t6, t7⟩ := t
  dsimp only at hal hV
  have h15 : n15 t7 = some t7 := rfl
  have hsE : sEq b b = true := (sEq_iff b b).2 rfl
  unfold n3
  by_cases h0 : b.size = 0
  · have hbe : b = ByteArray.empty := by
      apply ByteArray.ext
      apply Array.ext'
      have : b.data.toList.length = 0 := h0
      rw [List.length_eq_zero_iff] at this
      rw [this]; rfl
    rw [← hbe, show Nat.beq b.size 0 = true from by rw [h0]; rfl, cond_true, h13, Option.bind_some, h14, Option.bind_some]
    dsimp only
    rw [h15, Option.bind_some, eq_bne (x := t7) rfl, eq_bne (x := t6) rfl, cond_false, cond_false, hal, Option.bind_some, Bool.not_true, cond_false, hsE, Bool.not_true, cond_false, L3_0, decide_eq_false (by omega : ¬ (0 : Int) < ((b.size : Nat) : Int)), cond_false, Option.bind_some]
    dsimp only
    rw [hal, Option.bind_some, cond_true]
    rfl
  · rw [show Nat.beq b.size 0 = false from by
      cases h : Nat.beq b.size 0 with
      | true => exact (h0 (Nat.eq_of_beq_eq_true h)).elim
      | false => rfl, cond_false, ask_of (by unfold newBOk maxBytes; exact ⟨h0, by omega⟩), hV _ (partBy b), Option.bind_some, h14, Option.bind_some]
    dsimp only
    rw [h15, Option.bind_some, eq_bne (x := t7) rfl, eq_bne (x := t6) rfl, cond_false, cond_false, hal, Option.bind_some, Bool.not_true, cond_false, partBy, Option.bind_some, hsE, Bool.not_true, cond_false]
    obtain ⟨row', hL⟩ := L3_over b hb t1 t2 t3 t4 t5 t1 t2 t3 t4 t5 1000000000000 0 (bytesD b) (by omega) (by omega) (fun _ _ => rfl)
    rw [show ((0 : Nat) : Int) = 0 from rfl] at hL
    rw [hL, Option.bind_some]
    dsimp only
    rw [hal, Option.bind_some, cond_true]
    rfl
end Ev
