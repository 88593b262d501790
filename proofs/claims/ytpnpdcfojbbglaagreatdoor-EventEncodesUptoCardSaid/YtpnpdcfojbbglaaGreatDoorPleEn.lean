/- What functions of the program compute, as plain Lean functions, each with its proof by a proved reader; plain laws about them (PleEn). -/
import Derived.Test.YtpnpdcfojbbglaaGreatDoorLe1
import Derived.Lib.DecodeNEq
import Derived.Lib.TrimU
import Derived.Lib.QuoteLoop
import Derived.Test.YtpnpdcfojbbglaaGreatDoorEvArgRow
set_option linter.unusedSimpArgs false
set_option linter.unusedVariables false
namespace Ev
open Go
theorem cond_some {α : Type} (c : Bool) (a b : α) : (bif c then some a else some b) = some (bif c then a else b) := by cases c <;> rfl
theorem cond_iff (c a b : Bool) : (bif c then a else b) = true ↔ (c = true ∧ a = true) ∨ (¬ c = true ∧ b = true) := by cases c <;> simp
theorem letter_eq (r : Int) : n64 r = n69 r := by
  simp only [n64, n69, n100, Option.bind_some, cond_some, Option.some.injEq]
  rw [Bool.eq_iff_iff]
  simp only [cond_iff, decide_eq_true_eq, beq_iff_eq, bne_iff_ne, ne_eq, and_true, Bool.false_eq_true, and_false, or_false]
  omega
theorem wu64_id {n : Int} (h0 : 0 ≤ n) (h1 : n < 18446744073709551616) : wu64 n = n := by
  simp only [wu64, IntKind.wrap, IntKind.signed, IntKind.bits]
  simp
  omega
theorem ask_of {p : Prop} [Decidable p] {β : Type} {x : Option β} (h : p) : ask p x = x := if_pos h
theorem w64_id {n : Int} (h0 : -9223372036854775808 ≤ n) (h1 : n ≤ 9223372036854775807) : w64 n = n := by
  simp only [w64, IntKind.wrap, IntKind.signed, IntKind.bits]
  simp
  omega
theorem sidx_nat (s : ByteArray) (i : Nat) : sidx s (i : Int) = s[i]? := by
  unfold sidx
  rw [if_pos (by omega), Int.toNat_natCast]
theorem cont_eq (s : ByteArray) (i : Nat) (lo hi : Int) : n115 (s, (i : Int), lo, hi) = some (match s[i]? with | some c => decide (lo ≤ (c.toNat : Int)) && decide ((c.toNat : Int) ≤ hi) | none => false) := by
  simp only [n115, sidx_nat]
  cases hc : s[i]? with
  | none =>
    have : ¬ i < s.size := fun h => by rw [getElem?_pos s i h] at hc; cases hc
    rw [decide_eq_false (by omega : ¬ (i : Int) < (s.size : Int)), cond_false]
  | some c =>
    have : i < s.size := by
      rcases Nat.lt_or_ge i s.size with h | h
      · exact h
      · rw [getElem?_neg s i (by omega)] at hc; cases hc
    rw [decide_eq_true (by omega : (i : Int) < (s.size : Int)), cond_true, Option.bind_some, Option.bind_some]
    by_cases h : lo ≤ (c.toNat : Int)
    · simp [h]
    · simp [h]
theorem sEq_iff (a b : ByteArray) : sEq a b = true ↔ a = b := by
  unfold sEq
  rw [beq_iff_eq]
  constructor
  · intro h
    have : a.data.toList = b.data.toList := by
      have e : ∀ x : ByteArray, x.toList = x.data.toList := fun x => by simp [ByteArray.toList_eq]
      rw [e, e] at h
      exact h
    exact ByteArray.ext (Array.toList_inj.1 this)
  · intro h; rw [h]
theorem and_facts : ∀ n : Nat, n < 256 → bAnd .u8 n 31 = ((n % 32 : Nat) : Int) ∧ bAnd .u8 n 15 = ((n % 16 : Nat) : Int) ∧ bAnd .u8 n 7 = ((n % 8 : Nat) : Int) ∧ bAnd .u8 n 63 = ((n % 64 : Nat) : Int) := by decide +kernel
theorem bOr_add {k a b : Nat} (hb : b < 2 ^ k) (h : 2 ^ k * a + b < 9223372036854775808) : bOr .i64 ((2 ^ k * a : Nat) : Int) (b : Int) = ((2 ^ k * a + b : Nat) : Int) := by
  have h1 : (BitVec.ofInt 64 ((2 ^ k * a : Nat) : Int)) = BitVec.ofNat 64 (2 ^ k * a) := BitVec.ofInt_natCast ..
  have h2 : (BitVec.ofInt 64 (b : Int)) = BitVec.ofNat 64 b := BitVec.ofInt_natCast ..
  show w64 (((BitVec.ofInt 64 ((2 ^ k * a : Nat) : Int)) ||| (BitVec.ofInt 64 (b : Int))).toNat : Int) = _
  rw [h1, h2, BitVec.toNat_or, BitVec.toNat_ofNat, BitVec.toNat_ofNat, Nat.mod_eq_of_lt (by omega), Nat.mod_eq_of_lt (by omega), ← Nat.two_pow_add_eq_or_of_lt hb, w64_id (by omega) (by omega)]
def rn (s : ByteArray) (i : Nat) : Int := if Utf8.decode s i = (65533, 1) then -1 else ((Utf8.decode s i).1 : Int)
def wd (s : ByteArray) (i : Nat) : Nat := (Utf8.decode s i).2
section
variable {s : ByteArray} {i : Nat}
abbrev bt (s : ByteArray) (k : Nat) : Nat := (s.get! k).toNat
theorem get_bang {k : Nat} (h : k < s.size) : s[k]? = some (s.get! k) := by
  rw [getElem?_pos s k h]
  congr 1
  simp [ByteArray.get!, h]
  rfl
theorem bt_lt (k : Nat) : bt s k < 256 := UInt8.toNat_lt _
theorem cont_at (k : Nat) (lo hi : Int) : n115 (s, ((i + k : Nat) : Int), lo, hi) = some (decide (k < s.size - i ∧ lo ≤ (bt s (i + k) : Int) ∧ (bt s (i + k) : Int) ≤ hi)) := by
  rw [cont_eq]
  by_cases h : i + k < s.size
  · rw [get_bang h]
    congr 1
    have : k < s.size - i := by omega
    simp [this]
  · rw [getElem?_neg s (i + k) (by omega)]
    congr 1
    have : ¬ k < s.size - i := by omega
    simp [this]
theorem sidx_at {k : Nat} (h : k < s.size - i) : sidx s ((i + k : Nat) : Int) = some (s.get! (i + k)) := by
  rw [sidx_nat, get_bang (by omega)]
theorem w_and31 (k : Nat) : w64 (bAnd .u8 (((s.get! k).toNat : Nat) : Int) 31) = ((bt s k % 32 : Nat) : Int) := by
  rw [(and_facts _ (bt_lt k)).1, w64_id (by omega) (by omega)]
theorem w_and15 (k : Nat) : w64 (bAnd .u8 (((s.get! k).toNat : Nat) : Int) 15) = ((bt s k % 16 : Nat) : Int) := by
  rw [(and_facts _ (bt_lt k)).2.1, w64_id (by omega) (by omega)]
theorem w_and7 (k : Nat) : w64 (bAnd .u8 (((s.get! k).toNat : Nat) : Int) 7) = ((bt s k % 8 : Nat) : Int) := by
  rw [(and_facts _ (bt_lt k)).2.2.1, w64_id (by omega) (by omega)]
theorem w_and63 (k : Nat) : w64 (bAnd .u8 (((s.get! k).toNat : Nat) : Int) 63) = ((bt s k % 64 : Nat) : Int) := by
  rw [(and_facts _ (bt_lt k)).2.2.2, w64_id (by omega) (by omega)]
theorem w_mul {a m : Nat} (h : a * m < 9223372036854775808) : w64 ((a : Int) * (m : Int)) = ((a * m : Nat) : Int) := by
  rw [w64_id (by omega) (by omega)]; omega
theorem put2 (j k : Nat) : bOr .i64 (w64 ((w64 (bAnd .u8 ((s.get! j).toNat : Int) 31)) * 2 ^ (min (Int.toNat 6) 64))) (w64 (bAnd .u8 ((s.get! k).toNat : Int) 63)) = ((bt s j % 32 * 64 + bt s k % 64 : Nat) : Int) := by
  rw [w_and31, w_and63, show ((2 : Int) ^ (min (Int.toNat 6) 64)) = ((64 : Nat) : Int) from rfl, w_mul (by omega)]
  have := bOr_add (k := 6) (a := bt s j % 32) (b := bt s k % 64) (by omega) (by omega)
  rw [show bt s j % 32 * 64 = 2 ^ 6 * (bt s j % 32) by omega, this]
theorem put3 (j k l : Nat) : bOr .i64 (bOr .i64 (w64 ((w64 (bAnd .u8 ((s.get! j).toNat : Int) 15)) * 2 ^ (min (Int.toNat 12) 64))) (w64 ((w64 (bAnd .u8 ((s.get! k).toNat : Int) 63)) * 2 ^ (min (Int.toNat 6) 64)))) (w64 (bAnd .u8 ((s.get! l).toNat : Int) 63)) = ((bt s j % 16 * 4096 + bt s k % 64 * 64 + bt s l % 64 : Nat) : Int) := by
  rw [w_and15, w_and63, w_and63, show ((2 : Int) ^ (min (Int.toNat 12) 64)) = ((4096 : Nat) : Int) from rfl, show ((2 : Int) ^ (min (Int.toNat 6) 64)) = ((64 : Nat) : Int) from rfl, w_mul (by omega), w_mul (by omega)]
  have h1 := bOr_add (k := 12) (a := bt s j % 16) (b := bt s k % 64 * 64) (by omega) (by omega)
  rw [show bt s j % 16 * 4096 = 2 ^ 12 * (bt s j % 16) by omega, h1]
  have h2 := bOr_add (k := 6) (a := bt s j % 16 * 64 + bt s k % 64) (b := bt s l % 64) (by omega) (by omega)
  rw [show 2 ^ 12 * (bt s j % 16) + bt s k % 64 * 64 = 2 ^ 6 * (bt s j % 16 * 64 + bt s k % 64) by omega, h2]
theorem put4 (j k l m : Nat) : bOr .i64 (bOr .i64 (bOr .i64 (w64 ((w64 (bAnd .u8 ((s.get! j).toNat : Int) 7)) * 2 ^ (min (Int.toNat 18) 64))) (w64 ((w64 (bAnd .u8 ((s.get! k).toNat : Int) 63)) * 2 ^ (min (Int.toNat 12) 64)))) (w64 ((w64 (bAnd .u8 ((s.get! l).toNat : Int) 63)) * 2 ^ (min (Int.toNat 6) 64)))) (w64 (bAnd .u8 ((s.get! m).toNat : Int) 63)) = ((bt s j % 8 * 262144 + bt s k % 64 * 4096 + bt s l % 64 * 64 + bt s m % 64 : Nat) : Int) := by
  rw [w_and7, w_and63, w_and63, w_and63, show ((2 : Int) ^ (min (Int.toNat 18) 64)) = ((262144 : Nat) : Int) from rfl, show ((2 : Int) ^ (min (Int.toNat 12) 64)) = ((4096 : Nat) : Int) from rfl, show ((2 : Int) ^ (min (Int.toNat 6) 64)) = ((64 : Nat) : Int) from rfl, w_mul (by omega), w_mul (by omega), w_mul (by omega)]
  have h1 := bOr_add (k := 18) (a := bt s j % 8) (b := bt s k % 64 * 4096) (by omega) (by omega)
  rw [show bt s j % 8 * 262144 = 2 ^ 18 * (bt s j % 8) by omega, h1]
  have h2 := bOr_add (k := 12) (a := bt s j % 8 * 64 + bt s k % 64) (b := bt s l % 64 * 64) (by omega) (by omega)
  rw [show 2 ^ 18 * (bt s j % 8) + bt s k % 64 * 4096 = 2 ^ 12 * (bt s j % 8 * 64 + bt s k % 64) by omega, h2]
  have h3 := bOr_add (k := 6) (a := bt s j % 8 * 4096 + bt s k % 64 * 64 + bt s l % 64) (b := bt s m % 64) (by omega) (by omega)
  rw [show 2 ^ 12 * (bt s j % 8 * 64 + bt s k % 64) + bt s l % 64 * 64 = 2 ^ 6 * (bt s j % 8 * 4096 + bt s k % 64 * 64 + bt s l % 64) by omega, h3]
def tail2 (s : ByteArray) (i : Nat) (lo hi : Int) : Option (Int × Int × Int) := (n115 (s, (w64 ((i : Int) + 1)), lo, hi)).bind fun y6 => (bif y6 then ((sidx s (w64 ((i : Int) + 1))).bind fun c7 => (some ((bOr .i64 (w64 ((w64 (bAnd .u8 ((s.get! i).toNat : Int) 31)) * 2 ^ (min (Int.toNat 6) 64))) (w64 (bAnd .u8 (c7.toNat : Int) 63))), (i : Int), 2))) else (some ((-1), (i : Int), 1)))
def tail3 (s : ByteArray) (i : Nat) (lo hi : Int) : Option (Int × Int × Int) := (n115 (s, (w64 ((i : Int) + 1)), lo, hi)).bind fun y8 => (bif y8 then ((n115 (s, (w64 ((i : Int) + 2)), 128, 191)).bind fun y9 => (bif y9 then ((sidx s (w64 ((i : Int) + 1))).bind fun c10 => ((sidx s (w64 ((i : Int) + 2))).bind fun c11 => (some ((bOr .i64 (bOr .i64 (w64 ((w64 (bAnd .u8 ((s.get! i).toNat : Int) 15)) * 2 ^ (min (Int.toNat 12) 64))) (w64 ((w64 (bAnd .u8 (c10.toNat : Int) 63)) * 2 ^ (min (Int.toNat 6) 64)))) (w64 (bAnd .u8 (c11.toNat : Int) 63))), (i : Int), 3)))) else (some ((-1), (i : Int), 1)))) else (some ((-1), (i : Int), 1)))
def tail4 (s : ByteArray) (i : Nat) (lo hi : Int) : Option (Int × Int × Int) := (n115 (s, (w64 ((i : Int) + 1)), lo, hi)).bind fun y24 => (bif y24 then ((n115 (s, (w64 ((i : Int) + 2)), 128, 191)).bind fun y25 => (bif y25 then ((n115 (s, (w64 ((i : Int) + 3)), 128, 191)).bind fun y26 => (bif y26 then ((sidx s (w64 ((i : Int) + 1))).bind fun c27 => ((sidx s (w64 ((i : Int) + 2))).bind fun c28 => ((sidx s (w64 ((i : Int) + 3))).bind fun c29 => (some ((bOr .i64 (bOr .i64 (bOr .i64 (w64 ((w64 (bAnd .u8 ((s.get! i).toNat : Int) 7)) * 2 ^ (min (Int.toNat 18) 64))) (w64 ((w64 (bAnd .u8 (c27.toNat : Int) 63)) * 2 ^ (min (Int.toNat 12) 64)))) (w64 ((w64 (bAnd .u8 (c28.toNat : Int) 63)) * 2 ^ (min (Int.toNat 6) 64)))) (w64 (bAnd .u8 (c29.toNat : Int) 63))), (i : Int), 4))))) else (some ((-1), (i : Int), 1)))) else (some ((-1), (i : Int), 1)))) else (some ((-1), (i : Int), 1)))
def asRef (p : Nat × Nat) (i : Nat) : Int × Int × Int := (if p = (65533, 1) then -1 else (p.1 : Int), (i : Int), (p.2 : Int))
variable (hs : s.size ≤ 1048576) (hi : i < s.size)
include hs hi
theorem next1 : w64 ((i : Int) + 1) = ((i + 1 : Nat) : Int) := by rw [w64_id (by omega) (by omega)]; omega
theorem next2 : w64 ((i : Int) + 2) = ((i + 2 : Nat) : Int) := by rw [w64_id (by omega) (by omega)]; omega
theorem next3 : w64 ((i : Int) + 3) = ((i + 3 : Nat) : Int) := by rw [w64_id (by omega) (by omega)]; omega
theorem tail2_eq (lo hi' : Nat) : tail2 s i lo hi' = some (asRef (Lib.slowN (s.size - i) (bt s i) (bt s (i + 1)) (bt s (i + 2)) (bt s (i + 3)) 2 lo hi') i) := by
  unfold tail2
  rw [next1 hs hi, cont_at, Option.bind_some]
  by_cases h : 1 < s.size - i ∧ (lo : Int) ≤ (bt s (i + 1) : Int) ∧ (bt s (i + 1) : Int) ≤ (hi' : Int)
  · rw [decide_eq_true h, cond_true, sidx_at h.1, Option.bind_some, put2]
    have e : Lib.slowN (s.size - i) (bt s i) (bt s (i + 1)) (bt s (i + 2)) (bt s (i + 3)) 2 lo hi' = (bt s i % 32 * 64 + bt s (i + 1) % 64, 2) := by
      unfold Lib.slowN; rw [if_neg (by omega), if_neg (by omega), if_pos (by omega)]
    rw [e, asRef, if_neg (by simp)]
    rfl
  · rw [decide_eq_false h, cond_false]
    have e : Lib.slowN (s.size - i) (bt s i) (bt s (i + 1)) (bt s (i + 2)) (bt s (i + 3)) 2 lo hi' = (65533, 1) := by
      unfold Lib.slowN
      by_cases h1 : s.size - i < 2
      · rw [if_pos h1]
      · rw [if_neg h1, if_pos (by omega)]
    rw [e]; rfl
theorem tail3_eq (lo hi' : Nat) : tail3 s i lo hi' = some (asRef (Lib.slowN (s.size - i) (bt s i) (bt s (i + 1)) (bt s (i + 2)) (bt s (i + 3)) 3 lo hi') i) := by
  unfold tail3
  rw [next1 hs hi, next2 hs hi, cont_at, cont_at, Option.bind_some]
  by_cases h : 1 < s.size - i ∧ (lo : Int) ≤ (bt s (i + 1) : Int) ∧ (bt s (i + 1) : Int) ≤ (hi' : Int)
  · rw [decide_eq_true h, cond_true, Option.bind_some]
    by_cases h2 : 2 < s.size - i ∧ (128 : Int) ≤ (bt s (i + 2) : Int) ∧ (bt s (i + 2) : Int) ≤ 191
    · rw [decide_eq_true h2, cond_true, sidx_at h.1, Option.bind_some, sidx_at h2.1, Option.bind_some, put3]
      have e : Lib.slowN (s.size - i) (bt s i) (bt s (i + 1)) (bt s (i + 2)) (bt s (i + 3)) 3 lo hi' = (bt s i % 16 * 4096 + bt s (i + 1) % 64 * 64 + bt s (i + 2) % 64, 3) := by
        unfold Lib.slowN; rw [if_neg (by omega), if_neg (by omega), if_neg (by omega), if_neg (by omega), if_pos (by omega)]
      rw [e, asRef, if_neg (by simp)]
      rfl
    · rw [decide_eq_false h2, cond_false]
      have e : Lib.slowN (s.size - i) (bt s i) (bt s (i + 1)) (bt s (i + 2)) (bt s (i + 3)) 3 lo hi' = (65533, 1) := by
        unfold Lib.slowN
        by_cases h1 : s.size - i < 3
        · rw [if_pos h1]
        · rw [if_neg h1, if_neg (by omega), if_neg (by omega), if_pos (by omega)]
      rw [e]; rfl
  · rw [decide_eq_false h, cond_false]
    have e : Lib.slowN (s.size - i) (bt s i) (bt s (i + 1)) (bt s (i + 2)) (bt s (i + 3)) 3 lo hi' = (65533, 1) := by
      unfold Lib.slowN
      by_cases h1 : s.size - i < 3
      · rw [if_pos h1]
      · rw [if_neg h1, if_pos (by omega)]
    rw [e]; rfl
theorem tail4_eq (lo hi' : Nat) : tail4 s i lo hi' = some (asRef (Lib.slowN (s.size - i) (bt s i) (bt s (i + 1)) (bt s (i + 2)) (bt s (i + 3)) 4 lo hi') i) := by
  unfold tail4
  rw [next1 hs hi, next2 hs hi, next3 hs hi, cont_at, cont_at, cont_at, Option.bind_some]
  by_cases h : 1 < s.size - i ∧ (lo : Int) ≤ (bt s (i + 1) : Int) ∧ (bt s (i + 1) : Int) ≤ (hi' : Int)
  · rw [decide_eq_true h, cond_true, Option.bind_some]
    by_cases h2 : 2 < s.size - i ∧ (128 : Int) ≤ (bt s (i + 2) : Int) ∧ (bt s (i + 2) : Int) ≤ 191
    · rw [decide_eq_true h2, cond_true, Option.bind_some]
      by_cases h3 : 3 < s.size - i ∧ (128 : Int) ≤ (bt s (i + 3) : Int) ∧ (bt s (i + 3) : Int) ≤ 191
      · rw [decide_eq_true h3, cond_true, sidx_at h.1, Option.bind_some, sidx_at h2.1, Option.bind_some, sidx_at h3.1, Option.bind_some, put4]
        have e : Lib.slowN (s.size - i) (bt s i) (bt s (i + 1)) (bt s (i + 2)) (bt s (i + 3)) 4 lo hi' = (bt s i % 8 * 262144 + bt s (i + 1) % 64 * 4096 + bt s (i + 2) % 64 * 64 + bt s (i + 3) % 64, 4) := by
          unfold Lib.slowN; rw [if_neg (by omega), if_neg (by omega), if_neg (by omega), if_neg (by omega), if_neg (by omega), if_neg (by omega)]
        rw [e, asRef, if_neg (by simp)]
        rfl
      · rw [decide_eq_false h3, cond_false]
        have e : Lib.slowN (s.size - i) (bt s i) (bt s (i + 1)) (bt s (i + 2)) (bt s (i + 3)) 4 lo hi' = (65533, 1) := by
          unfold Lib.slowN
          by_cases h1 : s.size - i < 4
          · rw [if_pos h1]
          · rw [if_neg h1, if_neg (by omega), if_neg (by omega), if_neg (by omega), if_neg (by omega), if_pos (by omega)]
        rw [e]; rfl
    · rw [decide_eq_false h2, cond_false]
      have e : Lib.slowN (s.size - i) (bt s i) (bt s (i + 1)) (bt s (i + 2)) (bt s (i + 3)) 4 lo hi' = (65533, 1) := by
        unfold Lib.slowN
        by_cases h1 : s.size - i < 4
        · rw [if_pos h1]
        · rw [if_neg h1, if_neg (by omega), if_neg (by omega), if_pos (by omega)]
      rw [e]; rfl
  · rw [decide_eq_false h, cond_false]
    have e : Lib.slowN (s.size - i) (bt s i) (bt s (i + 1)) (bt s (i + 2)) (bt s (i + 3)) 4 lo hi' = (65533, 1) := by
      unfold Lib.slowN
      by_cases h1 : s.size - i < 4
      · rw [if_pos h1]
      · rw [if_neg h1, if_pos (by omega)]
    rw [e]; rfl
omit hs hi in
theorem n138_eq (c5 : UInt8) (hc : sidx s (i : Int) = some c5) (hg : s.get! i = c5) : n104 (s, (i : Int)) = (bif (decide ((c5.toNat : Int) < 128)) then (some ((w64 (c5.toNat : Int)), (i : Int), 1)) else (bif (bif (decide ((c5.toNat : Int) ≥ 194)) then (decide ((c5.toNat : Int) ≤ 223)) else false) then tail2 s i 128 191 else (bif (bif (decide ((c5.toNat : Int) ≥ 224)) then (decide ((c5.toNat : Int) ≤ 239)) else false) then (bif ((c5.toNat : Int) == 224) then (bif ((c5.toNat : Int) == 237) then tail3 s i 160 159 else tail3 s i 160 191) else (bif ((c5.toNat : Int) == 237) then tail3 s i 128 159 else tail3 s i 128 191)) else (bif (bif (decide ((c5.toNat : Int) ≥ 240)) then (decide ((c5.toNat : Int) ≤ 244)) else false) then (bif ((c5.toNat : Int) == 240) then (bif ((c5.toNat : Int) == 244) then tail4 s i 144 143 else tail4 s i 144 191) else (bif ((c5.toNat : Int) == 244) then tail4 s i 128 143 else tail4 s i 128 191)) else (some ((-1), (i : Int), 1)))))) := by
  subst hg
  simp only [n104, hc, Option.bind_some]
  rfl
theorem one_eq : n104 (s, (i : Int)) = some (asRef (Utf8.decode s i) i) := by
  have hg := get_bang (s := s) hi
  have hsx : sidx s (i : Int) = some (s.get! i) := by rw [sidx_nat, hg]
  rw [n138_eq _ hsx rfl, Lib.decode_at]
  have hb := bt_lt (s := s) i
  have h1 := bt_lt (s := s) (i + 1)
  have h2 := bt_lt (s := s) (i + 2)
  have h3 := bt_lt (s := s) (i + 3)
  have hn : 1 ≤ s.size - i := by omega
  have t2 := tail2_eq hs hi 128 191
  have t3a := tail3_eq hs hi 160 191
  have t3b := tail3_eq hs hi 128 159
  have t3c := tail3_eq hs hi 128 191
  have t4a := tail4_eq hs hi 144 191
  have t4b := tail4_eq hs hi 128 143
  have t4c := tail4_eq hs hi 128 191
  rw [show (((128 : Nat) : Int)) = 128 from rfl, show (((191 : Nat) : Int)) = 191 from rfl] at t2 t3c t4c
  rw [show (((160 : Nat) : Int)) = 160 from rfl, show (((191 : Nat) : Int)) = 191 from rfl] at t3a
  rw [show (((128 : Nat) : Int)) = 128 from rfl, show (((159 : Nat) : Int)) = 159 from rfl] at t3b
  rw [show (((144 : Nat) : Int)) = 144 from rfl, show (((191 : Nat) : Int)) = 191 from rfl] at t4a
  rw [show (((128 : Nat) : Int)) = 128 from rfl, show (((143 : Nat) : Int)) = 143 from rfl] at t4b
  have F : ∀ {p : Prop} [Decidable p], ¬ p → decide p = false := fun h => decide_eq_false h
  have T : ∀ {p : Prop} [Decidable p], p → decide p = true := fun h => decide_eq_true h
  have E0 : ∀ {z : Int}, ((bt s i : Nat) : Int) ≠ z → (((bt s i : Nat) : Int) == z) = false := fun h => beq_eq_false_iff_ne.2 h
  have E1 : ∀ {z : Int}, ((bt s i : Nat) : Int) = z → (((bt s i : Nat) : Int) == z) = true := fun h => beq_iff_eq.2 h
  by_cases c0 : bt s i < 128
  · rw [T (show ((bt s i : Nat) : Int) < 128 by omega), cond_true, Lib.ascii_eq _ _ _ _ _ (by unfold Lib.firstT; rw [if_pos c0])]
    have h0 : bt s i ≠ 65533 := by omega
    have hw : w64 (((s.get! i).toNat : Nat) : Int) = ((bt s i : Nat) : Int) := w64_id (n := ((bt s i : Nat) : Int)) (by omega) (by omega)
    rw [asRef, if_neg (fun h => h0 (congrArg Prod.fst h)), hw]
    rfl
  rw [F (show ¬ ((bt s i : Nat) : Int) < 128 by omega), cond_false]
  by_cases c1 : bt s i < 194
  · rw [F (show ¬ ((bt s i : Nat) : Int) ≥ 194 by omega), cond_false, cond_false, F (show ¬ ((bt s i : Nat) : Int) ≥ 224 by omega), cond_false, cond_false, F (show ¬ ((bt s i : Nat) : Int) ≥ 240 by omega), cond_false, cond_false,
      Lib.bad_eq _ _ _ _ _ hb (by unfold Lib.firstT; rw [if_neg c0, if_pos c1])]
    rfl
  rw [T (show ((bt s i : Nat) : Int) ≥ 194 by omega), cond_true]
  by_cases c2 : bt s i < 224
  · rw [T (show ((bt s i : Nat) : Int) ≤ 223 by omega), cond_true, t2, Lib.slow_C2 _ _ _ _ _ hn h1 h2 h3 ⟨by omega, c2⟩]
  rw [F (show ¬ ((bt s i : Nat) : Int) ≤ 223 by omega), cond_false, T (show ((bt s i : Nat) : Int) ≥ 224 by omega), cond_true]
  by_cases c3 : bt s i < 240
  · rw [T (show ((bt s i : Nat) : Int) ≤ 239 by omega), cond_true]
    by_cases d1 : bt s i = 224
    · rw [E1 (show ((bt s i : Nat) : Int) = 224 by omega), cond_true, E0 (show ((bt s i : Nat) : Int) ≠ 237 by omega), cond_false, t3a, Lib.slow_E0 _ _ _ _ _ hn h1 h2 h3 d1]
    · rw [E0 (show ((bt s i : Nat) : Int) ≠ 224 by omega), cond_false]
      by_cases d2 : bt s i = 237
      · rw [E1 (show ((bt s i : Nat) : Int) = 237 by omega), cond_true, t3b, Lib.slow_ED _ _ _ _ _ hn h1 h2 h3 d2]
      · rw [E0 (show ((bt s i : Nat) : Int) ≠ 237 by omega), cond_false, t3c, Lib.slow_E1 _ _ _ _ _ hn h1 h2 h3 (by omega)]
  rw [F (show ¬ ((bt s i : Nat) : Int) ≤ 239 by omega), cond_false, T (show ((bt s i : Nat) : Int) ≥ 240 by omega), cond_true]
  by_cases c4 : bt s i < 245
  · rw [T (show ((bt s i : Nat) : Int) ≤ 244 by omega), cond_true]
    by_cases d1 : bt s i = 240
    · rw [E1 (show ((bt s i : Nat) : Int) = 240 by omega), cond_true, E0 (show ((bt s i : Nat) : Int) ≠ 244 by omega), cond_false, t4a, Lib.slow_F0 _ _ _ _ _ hn h1 h2 h3 d1]
    · rw [E0 (show ((bt s i : Nat) : Int) ≠ 240 by omega), cond_false]
      by_cases d2 : bt s i = 244
      · rw [E1 (show ((bt s i : Nat) : Int) = 244 by omega), cond_true, t4b, Lib.slow_F4 _ _ _ _ _ hn h1 h2 h3 d2]
      · rw [E0 (show ((bt s i : Nat) : Int) ≠ 244 by omega), cond_false, t4c, Lib.slow_F1 _ _ _ _ _ hn h1 h2 h3 (by omega)]
  · rw [F (show ¬ ((bt s i : Nat) : Int) ≤ 244 by omega), cond_false, Lib.bad_eq _ _ _ _ _ hb (by unfold Lib.firstT; rw [if_neg c0, if_neg c1, if_neg c2, if_neg (by omega), if_neg (by omega), if_neg (by omega), if_neg c3, if_neg (by omega), if_neg (by omega), if_neg (by omega)])]
    rfl
end
theorem wd_pos (s : ByteArray) (i : Nat) : 1 ≤ wd s i := Lib.width_pos s i
theorem wd_le {s : ByteArray} {i : Nat} (h : i < s.size) : i + wd s i ≤ s.size := by
  unfold wd
  rw [Lib.decode_at]
  have := Lib.decodeN_width_le (s.size - i) (s.get! i).toNat (s.get! (i + 1)).toNat (s.get! (i + 2)).toNat (s.get! (i + 3)).toNat (by omega)
  omega
abbrev Ru := Int × Nat × Nat
def runesF (s : ByteArray) : Nat → Nat → List Ru
  | 0, _ => []
  | f + 1, i => if i < s.size then (rn s i, i, wd s i) :: runesF s f (i + wd s i) else []
theorem runesF_ge (s : ByteArray) : ∀ (f i : Nat), s.size ≤ i → runesF s f i = []
  | 0, _, _ => rfl
  | f + 1, i, h => by rw [runesF, if_neg (by omega)]
theorem runesF_any (s : ByteArray) : ∀ (f g i : Nat), s.size - i ≤ f → s.size - i ≤ g → runesF s f i = runesF s g i
  | 0, g, i, hf, _ => by rw [runesF_ge s g i (by omega), runesF]
  | f + 1, 0, i, _, hg => by rw [runesF_ge s (f + 1) i (by omega), runesF]
  | f + 1, g + 1, i, hf, hg => by
    rw [runesF, runesF]
    by_cases h : i < s.size
    · have := wd_pos s i
      rw [if_pos h, if_pos h, runesF_any s f g _ (by omega) (by omega)]
    · rw [if_neg h, if_neg h]
def runesL (s : ByteArray) (i : Nat) : List Ru := runesF s (s.size - i) i
theorem runesL_nil {s : ByteArray} {i : Nat} (h : s.size ≤ i) : runesL s i = [] := runesF_ge s _ i h
theorem runesL_cons {s : ByteArray} {i : Nat} (h : i < s.size) : runesL s i = (rn s i, i, wd s i) :: runesL s (i + wd s i) := by
  unfold runesL
  obtain ⟨f, hf⟩ : ∃ f, s.size - i = f + 1 := ⟨s.size - i - 1, by omega⟩
  have := wd_pos s i
  rw [hf, runesF, if_pos h, runesF_any s f (s.size - (i + wd s i)) _ (by omega) (by omega)]
theorem runesL_length {s : ByteArray} : ∀ (d i : Nat), s.size - i ≤ d → (runesL s i).length ≤ s.size - i := by
  intro d
  induction d with
  | zero => intro i h; rw [runesL_nil (by omega)]; simp
  | succ d ih =>
    intro i h
    by_cases hi : i < s.size
    · have := wd_pos s i
      have h2 := wd_le hi
      rw [runesL_cons hi, List.length_cons]
      have := ih (i + wd s i) (by omega)
      omega
    · rw [runesL_nil (by omega)]; simp
theorem asRef_eq (s : ByteArray) (i : Nat) : asRef (Utf8.decode s i) i = (rn s i, (i : Int), (wd s i : Int)) := rfl
theorem one_at {s : ByteArray} (hs : s.size ≤ 1048576) {i : Nat} (hi : i < s.size) : n104 (s, (i : Int)) = some (rn s i, (i : Int), (wd s i : Int)) := by rw [one_eq hs hi, asRef_eq]
def encR (r : Ru) : D := .agg [.val (.int .i64 r.1), .val (.int .i64 r.2.1), .val (.int .i64 r.2.2)]
theorem hasSize_map {α : Type} (f : α → D) (z : Nat) (hf : ∀ a, (f a).cells.length = z) : ∀ l : List α, hasSize z (l.map f) = true
  | [] => rfl
  | a :: l => by show ((f a).cells.length == z) = true; rw [hf a]; exact beq_iff_eq.2 rfl
theorem addOk_map {α : Type} (f : α → D) (z w : Nat) (hf : ∀ a, (f a).cells.length = z) (acc : List α) (a : α) (h : (acc.length + 1) * w ≤ maxBytes) : addOk (acc.map f).length (acc.map f) [f a] z w :=
  ⟨rfl, hasSize_map f z hf [a], hasSize_map f z hf acc, by simpa using h⟩
theorem toks_one {α : Type} (f : α → D) (acc : List α) (a : α) (k : Nat) : ([k, (acc.map f).length + ([f a] : List D).length] : List Nat) = [k, (acc.map f ++ [f a]).length] := by simp
theorem map_snoc {α : Type} (f : α → D) (acc : List α) (a : α) : acc.map f ++ [f a] = (acc ++ [a]).map f := by simp
theorem L126_step (s : ByteArray) (v3 : List D) (i k : Nat) (n : Nat) : L68_0 (n + 1) (s, v3, (i : Int), k) () = (bif (decide ((i : Int) < (s.size : Int))) then ((n104 (s, (i : Int))).bind fun y6 => (ask (addOk v3.length v3 ([.agg [.val (.int .i64 y6.1), .val (.int .i64 y6.2.1), .val (.int .i64 y6.2.2)]] : List D) 3 24) (ask (([k, (v3.length + ([.agg [.val (.int .i64 y6.1), .val (.int .i64 y6.2.1), .val (.int .i64 y6.2.2)]] : List D).length)] : List Nat) = [k, (v3 ++ ([.agg [.val (.int .i64 y6.1), .val (.int .i64 y6.2.1), .val (.int .i64 y6.2.2)]] : List D)).length]) (L68_0 n (s, (v3 ++ ([.agg [.val (.int .i64 y6.1), .val (.int .i64 y6.2.1), .val (.int .i64 y6.2.2)]] : List D)), (w64 ((i : Int) + y6.2.2)), k) ())))) else (ask (([k, v3.length] : List Nat) = [k, v3.length]) (some (O68_0.x0 v3 k, ())))) := rfl
theorem L126 {s : ByteArray} (hs : s.size ≤ 1048576) (k : Nat) : ∀ (d n i : Nat) (acc : List Ru), s.size - i ≤ d → d < n → acc.length ≤ i → i ≤ s.size → L68_0 n (s, acc.map encR, (i : Int), k) () = some (O68_0.x0 ((acc ++ runesL s i).map encR) k, ()) := by
  intro d
  induction d with
  | zero =>
    intro n i acc hd hn ha hi
    obtain ⟨m, rfl⟩ : ∃ m, n = m + 1 := ⟨n - 1, by omega⟩
    rw [L126_step, decide_eq_false (by omega), cond_false, ask_of rfl, runesL_nil (by omega), List.append_nil]
  | succ d ih =>
    intro n i acc hd hn ha hi
    obtain ⟨m, rfl⟩ : ∃ m, n = m + 1 := ⟨n - 1, by omega⟩
    by_cases h : i < s.size
    · have w1 := wd_pos s i
      have w2 := wd_le h
      have hadd := addOk_map encR 3 24 (fun _ => rfl) acc (rn s i, i, wd s i) (by unfold maxBytes; omega)
      have e5 : w64 ((i : Int) + (wd s i : Int)) = ((i + wd s i : Nat) : Int) := by rw [w64_id (by omega) (by omega)]; omega
      rw [L126_step, decide_eq_true (by omega), cond_true, one_at hs h, Option.bind_some]
      show ask (addOk (acc.map encR).length (acc.map encR) [encR (rn s i, i, wd s i)] 3 24) (ask (([k, (acc.map encR).length + ([encR (rn s i, i, wd s i)] : List D).length] : List Nat) = [k, (acc.map encR ++ [encR (rn s i, i, wd s i)]).length]) (L68_0 m (s, acc.map encR ++ [encR (rn s i, i, wd s i)], w64 ((i : Int) + (wd s i : Int)), k) ())) = _
      rw [ask_of hadd, ask_of (toks_one encR acc (rn s i, i, wd s i) k), e5]
      show L68_0 m (s, acc.map encR ++ [encR (rn s i, i, wd s i)], ((i + wd s i : Nat) : Int), k) () = _
      rw [map_snoc, ih m (i + wd s i) (acc ++ [(rn s i, i, wd s i)]) (by omega) (by omega) (by simp; omega) w2, runesL_cons h, List.append_assoc]
      rfl
    · rw [L126_step, decide_eq_false (by omega), cond_false, ask_of rfl, runesL_nil (by omega), List.append_nil]
theorem n126_eq {s : ByteArray} (hs : s.size ≤ 1048576) : n68 s = some ((runesL s 0).map encR) := by
  show (ask (([0, 0] : List Nat) = [0, ([] : List D).length]) ((L68_0 1000000000000 (s, ([] : List D), 0, 0) ()).bind fun p9 => match p9.1 with | .x0 z10 z11 => (some z10))) = _
  rw [ask_of (show ([0, 0] : List Nat) = [0, ([] : List D).length] from rfl)]
  have := L126 hs 0 s.size 1000000000000 0 [] (by omega) (by omega) (by simp) (by omega)
  rw [show ((0 : Nat) : Int) = 0 from rfl] at this
  show (L68_0 1000000000000 (s, ([] : List Ru).map encR, 0, 0) ()).bind _ = _
  rw [this]
  rfl
def letB (a0 : Int) : Bool := bif (bif (decide (a0 ≥ 97)) then (decide (a0 ≤ 122)) else false) then true else (bif (bif (decide (a0 ≥ 65)) then (decide (a0 ≤ 90)) else false) then true else (bif (a0 == 95) then true else (bif (bif (decide (a0 ≥ 192)) then (decide (a0 ≤ 591)) else false) then (bif (a0 != 215) then (a0 != 247) else false) else (bif (bif (decide (a0 ≥ 913)) then (decide (a0 ≤ 969)) else false) then (a0 != 930) else false))))
theorem n127_eq (r : Int) : n69 r = some (letB r) := by
  simp only [n69, letB, cond_some]
theorem n125_eq (r : Int) : n64 r = some (letB r) := by rw [letter_eq, n127_eq]
def restB (r : Int) : Bool := bif letB r then true else (bif (decide (r ≥ 48)) then (bif (decide (r ≤ 57)) then true else (r == 39)) else (r == 39))
theorem n128_eq (r : Int) : n70 r = some (restB r) := by
  show (n69 r).bind _ = _
  rw [n127_eq, Option.bind_some]
  simp only [restB, cond_some]
theorem letB_neg : letB (-1) = false := by decide +kernel
theorem letB_bad : letB 65533 = false := by decide +kernel
theorem restB_neg : restB (-1) = false := by decide +kernel
theorem restB_bad : restB 65533 = false := by decide +kernel
theorem raw_let (s : ByteArray) (i : Nat) : letB ((Utf8.decode s i).1 : Int) = letB (rn s i) := by
  unfold rn
  split
  · rename_i h
    rw [h, letB_neg]; exact letB_bad
  · rfl
theorem raw_rest (s : ByteArray) (i : Nat) : restB ((Utf8.decode s i).1 : Int) = restB (rn s i) := by
  unfold rn
  split
  · rename_i h
    rw [h, restB_neg]; exact restB_bad
  · rfl
def okFrom : Bool → List Ru → Bool
  | _, [] => true
  | true, r :: l => letB r.1 && okFrom false l
  | false, r :: l => restB r.1 && okFrom false l
theorem L107_step (s : ByteArray) (v : Int) (i n : Nat) : L39_0 (n + 1) (v, s, i) () = (bif decide (i < s.size) then ((n64 ((Utf8.decode s i).1 : Int)).bind fun y5 => (bif (!y5) then (bif ((w64 (v + 1)) == 1) then (some (O39_0.x0 21 s (i + (Utf8.decode s i).2), ())) else (bif (((Utf8.decode s i).1 : Int) != 39) then (bif (decide (((Utf8.decode s i).1 : Int) < 48)) then (some (O39_0.x0 21 s (i + (Utf8.decode s i).2), ())) else (bif (decide (((Utf8.decode s i).1 : Int) > 57)) then (some (O39_0.x0 21 s (i + (Utf8.decode s i).2), ())) else (L39_0 n ((w64 (v + 1)), s, (i + (Utf8.decode s i).2)) ()))) else (L39_0 n ((w64 (v + 1)), s, (i + (Utf8.decode s i).2)) ()))) else (L39_0 n ((w64 (v + 1)), s, (i + (Utf8.decode s i).2)) ()))) else (some (O39_0.x1 v s i, ()))) := rfl
theorem L107 {s : ByteArray} (hs : s.size ≤ 1048576) : ∀ (d n i c : Nat), s.size - i ≤ d → d < n → c ≤ i → i ≤ s.size →
    ∃ j, L39_0 n ((c : Int), s, i) () = some (if okFrom (decide (c = 0)) (runesL s i) = true then O39_0.x1 ((c + (runesL s i).length : Nat) : Int) s j else O39_0.x0 21 s j, ()) := by
  intro d
  induction d with
  | zero =>
    intro n i c hd hn hc hi
    obtain ⟨m, rfl⟩ : ∃ m, n = m + 1 := ⟨n - 1, by omega⟩
    rw [L107_step, decide_eq_false (by omega), cond_false, runesL_nil (by omega)]
    exact ⟨i, by rw [if_pos (by simp [okFrom])]; rfl⟩
  | succ d ih =>
    intro n i c hd hn hc hi
    obtain ⟨m, rfl⟩ : ∃ m, n = m + 1 := ⟨n - 1, by omega⟩
    by_cases h : i < s.size
    · have w1 := wd_pos s i
      have w2 := wd_le h
      have e5 : w64 ((c : Int) + 1) = ((c + 1 : Nat) : Int) := by rw [w64_id (by omega) (by omega)]; omega
      obtain ⟨j, hj⟩ := ih m (i + wd s i) (c + 1) (by omega) (by omega) (by omega) w2
      have hj' : L39_0 m (((c + 1 : Nat) : Int), s, i + (Utf8.decode s i).2) () = _ := hj
      rw [show decide (c + 1 = 0) = false by simp] at hj'
      rw [L107_step, decide_eq_true h, cond_true, e5, n125_eq, Option.bind_some, raw_let, runesL_cons h]
      have hlen : c + (runesL s (i + wd s i)).length + 1 = c + 1 + (runesL s (i + wd s i)).length := by omega
      cases hl : letB (rn s i) with
      | true =>
        refine ⟨j, ?_⟩
        have hr : restB (rn s i) = true := by simp [restB, hl]
        have ho : okFrom (decide (c = 0)) ((rn s i, i, wd s i) :: runesL s (i + wd s i)) = okFrom false (runesL s (i + wd s i)) := by
          cases decide (c = 0) with
          | true => simp [okFrom, hl]
          | false => simp [okFrom, hr]
        rw [ho, List.length_cons]
        show L39_0 m (((c + 1 : Nat) : Int), s, i + (Utf8.decode s i).2) () = _
        rw [hj', show c + ((runesL s (i + wd s i)).length + 1) = c + 1 + (runesL s (i + wd s i)).length by omega]
      | false =>
        by_cases hc0 : c = 0
        · subst hc0
          refine ⟨i + (Utf8.decode s i).2, ?_⟩
          have ho : okFrom (decide ((0 : Nat) = 0)) ((rn s i, i, wd s i) :: runesL s (i + wd s i)) = false := by simp [okFrom, hl]
          rw [ho, if_neg (by simp)]
          rfl
        · have b1 : ((((c + 1 : Nat)) : Int) == 1) = false := by rw [beq_eq_false_iff_ne]; omega
          have hrr := raw_rest s i
          have hlr := raw_let s i
          rw [hl] at hlr
          have ho : okFrom (decide (c = 0)) ((rn s i, i, wd s i) :: runesL s (i + wd s i)) = (restB (rn s i) && okFrom false (runesL s (i + wd s i))) := by
            rw [decide_eq_false hc0]; rfl
          rw [ho, ← hrr, List.length_cons]
          simp only [restB, hlr, cond_false, Bool.not_false, cond_true, b1]
          generalize hR : ((Utf8.decode s i).1 : Int) = R
          have done : (some (O39_0.x0 21 s (i + (Utf8.decode s i).2), ()) : Option (O39_0 × Unit)) = some (if (false && okFrom false (runesL s (i + wd s i))) = true then O39_0.x1 ((c + ((runesL s (i + wd s i)).length + 1) : Nat) : Int) s (i + (Utf8.decode s i).2) else O39_0.x0 21 s (i + (Utf8.decode s i).2), ()) := by
            rw [Bool.false_and, if_neg (by simp)]
          have next : L39_0 m (((c + 1 : Nat) : Int), s, i + (Utf8.decode s i).2) () = some (if (true && okFrom false (runesL s (i + wd s i))) = true then O39_0.x1 ((c + ((runesL s (i + wd s i)).length + 1) : Nat) : Int) s j else O39_0.x0 21 s j, ()) := by
            rw [Bool.true_and, hj', show c + ((runesL s (i + wd s i)).length + 1) = c + 1 + (runesL s (i + wd s i)).length by omega]
          by_cases h39 : R = 39
          · have a1 : (R != 39) = false := by rw [h39]; rfl
            have a2 : (R == 39) = true := by rw [h39]; rfl
            have a3 : decide (R ≥ 48) = false := by rw [h39]; rfl
            refine ⟨j, ?_⟩
            rw [a1, a2, a3, cond_false, cond_false]
            exact next
          · have a1 : (R != 39) = true := by rw [bne_iff_ne]; exact h39
            have a2 : (R == 39) = false := by rw [beq_eq_false_iff_ne]; exact h39
            rw [a1, a2, cond_true]
            by_cases h48 : R < 48
            · refine ⟨i + (Utf8.decode s i).2, ?_⟩
              rw [decide_eq_true h48, cond_true, decide_eq_false (by omega : ¬ R ≥ 48), cond_false]
              exact done
            · by_cases h57 : R > 57
              · refine ⟨i + (Utf8.decode s i).2, ?_⟩
                rw [decide_eq_false h48, cond_false, decide_eq_true h57, cond_true, decide_eq_true (by omega : R ≥ 48), cond_true, decide_eq_false (by omega : ¬ R ≤ 57), cond_false]
                exact done
              · refine ⟨j, ?_⟩
                rw [decide_eq_false h48, cond_false, decide_eq_false h57, cond_false, decide_eq_true (by omega : R ≥ 48), cond_true, decide_eq_true (by omega : R ≤ 57), cond_true]
                exact next
    · rw [L107_step, decide_eq_false h, cond_false, runesL_nil (by omega)]
      exact ⟨i, by rw [if_pos (by simp [okFrom])]; rfl⟩
def isName (s : ByteArray) : Bool := decide (1 ≤ (runesL s 0).length ∧ (runesL s 0).length ≤ 32) && okFrom true (runesL s 0)
theorem n107_eq {s : ByteArray} (hs : s.size ≤ 1048576) : n39 s = some (bif isName s then 0 else 21) := by
  obtain ⟨j, hj⟩ := L107 hs s.size 1000000000000 0 0 (by omega) (by omega) (by omega) (by omega)
  show (((L39_0 1000000000000 (0, s, 0) ()).bind fun p12 => match p12.1 with | .x0 z13 z14 z15 => (some z13) | .x1 z16 z17 z18 => (bif (bif (z16 == 0) then true else (decide (z16 > 32))) then (some 21) else (some 0))) : Option Int) = _
  rw [show (0 : Int) = ((0 : Nat) : Int) from rfl, hj, Option.bind_some, show decide ((0 : Nat) = 0) = true from rfl, Nat.zero_add]
  unfold isName
  cases okFrom true (runesL s 0) with
  | false => rw [Bool.and_false, if_neg (by simp)]; rfl
  | true =>
    rw [Bool.and_true, if_pos rfl]
    simp only
    by_cases h0 : (runesL s 0).length = 0
    · rw [h0]; rfl
    · have b0 : ((((runesL s 0).length : Nat) : Int) == ((0 : Nat) : Int)) = false := by rw [beq_eq_false_iff_ne]; omega
      rw [b0, cond_false]
      by_cases h32 : (runesL s 0).length ≤ 32
      · rw [decide_eq_false (by omega), cond_false, decide_eq_true (by omega)]; rfl
      · rw [decide_eq_true (by omega), cond_true, decide_eq_false (by omega)]; rfl
theorem lidx_map {α : Type} (f : α → D) (l : List α) (k : Nat) : lidx (l.map f) (k : Int) = (l[k]?).map f := by
  unfold lidx
  rw [if_pos (by omega), Int.toNat_natCast, List.getElem?_map]
theorem L108_step (v : List D) (k n : Nat) : L45_0 (n + 1) (v, (k : Int)) () = (bif (decide ((k : Int) < ((v.length : Nat) : Int))) then ((lidx v (k : Int)).bind fun d9 => ask (d9.cells.length = 3) ((cellAt 0 d9).bind fun x10 => (asInt .i64 x10).bind fun x11 => ((n70 x11).bind fun y12 => (bif (!y12) then (some (O45_0.x0 false, ())) else (L45_0 n (v, (w64 ((k : Int) + 1))) ()))))) else (some (O45_0.x1 , ()))) := rfl
theorem L108 {l : List Ru} (hl : l.length ≤ 1048576) : ∀ (d n k : Nat), l.length - k ≤ d → d < n → k ≤ l.length → L45_0 n (l.map encR, (k : Int)) () = some (if okFrom false (l.drop k) = true then O45_0.x1 else O45_0.x0 false, ()) := by
  intro d
  induction d with
  | zero =>
    intro n k hd hn hk
    obtain ⟨m, rfl⟩ : ∃ m, n = m + 1 := ⟨n - 1, by omega⟩
    rw [L108_step, List.length_map, decide_eq_false (by omega), cond_false, List.drop_eq_nil_of_le (by omega)]
    rfl
  | succ d ih =>
    intro n k hd hn hk
    obtain ⟨m, rfl⟩ : ∃ m, n = m + 1 := ⟨n - 1, by omega⟩
    by_cases h : k < l.length
    · have e5 : w64 ((k : Int) + 1) = ((k + 1 : Nat) : Int) := by rw [w64_id (by omega) (by omega)]; omega
      rw [L108_step, List.length_map, decide_eq_true (by omega), cond_true, lidx_map, List.getElem?_eq_getElem h, Option.map_some, Option.bind_some, ask_of (show (encR l[k]).cells.length = 3 from rfl)]
      show (n70 (l[k]).1).bind _ = _
      rw [n128_eq, Option.bind_some, e5, List.drop_eq_getElem_cons h]
      cases hr : restB (l[k]).1 with
      | false =>
        rw [if_neg (by simp [okFrom, hr])]; rfl
      | true =>
        rw [Bool.not_true, cond_false, ih m (k + 1) (by omega) (by omega) (by omega)]
        simp [okFrom, hr]
    · rw [L108_step, List.length_map, decide_eq_false (by omega), cond_false, List.drop_eq_nil_of_le (by omega)]
      rfl
theorem n108_eq {s : ByteArray} (hs : s.size ≤ 1048576) : n45 s = some (isName s) := by
  have hle := runesL_length (s := s) s.size 0 (by omega)
  show ((n68 s).bind fun y2 => (bif (bif (decide (((y2.length : Nat) : Int) < 1)) then true else (decide (((y2.length : Nat) : Int) > 32))) then (some false) else ((lidx y2 0).bind fun d3 => ask (d3.cells.length = 3) ((cellAt 0 d3).bind fun x4 => (asInt .i64 x4).bind fun x5 => ((n69 x5).bind fun y6 => (bif (!y6) then (some false) else ((L45_0 1000000000000 (y2, 1) ()).bind fun p14 => match p14.1 with | .x0 z15 => (some z15) | .x1  => (some true)))))))) = _
  rw [n126_eq hs, Option.bind_some, List.length_map]
  unfold isName
  by_cases h0 : (runesL s 0).length < 1
  · rw [decide_eq_true (by omega), cond_true, cond_true, decide_eq_false (by omega), Bool.false_and]
  · rw [decide_eq_false (by omega), cond_false]
    by_cases h32 : (runesL s 0).length > 32
    · rw [decide_eq_true (by omega), cond_true, decide_eq_false (by omega), Bool.false_and]
    · have hl := L108 (l := runesL s 0) (by omega) (runesL s 0).length 1000000000000 1 (by omega) (by omega) (by omega)
      rw [decide_eq_false (by omega), cond_false, decide_eq_true (by omega), Bool.true_and, show (0 : Int) = ((0 : Nat) : Int) from rfl, lidx_map, List.getElem?_eq_getElem (by omega), Option.map_some, Option.bind_some, ask_of (show (encR (runesL s 0)[0]).cells.length = 3 from rfl)]
      show (n69 ((runesL s 0)[0]).1).bind _ = _
      rw [n127_eq, Option.bind_some]
      have hc : okFrom true (runesL s 0) = (letB ((runesL s 0)[0]).1 && okFrom false ((runesL s 0).drop 1)) := by
        have : runesL s 0 = (runesL s 0)[0] :: (runesL s 0).drop 1 := by
          conv => lhs; rw [← List.drop_zero (l := runesL s 0), List.drop_eq_getElem_cons (by omega)]
        conv => lhs; rw [this]
        rfl
      rw [hc]
      cases letB ((runesL s 0)[0]).1 with
      | false => rfl
      | true =>
        rw [Bool.not_true, cond_false, Bool.true_and, show (1 : Int) = ((1 : Nat) : Int) from rfl, hl, Option.bind_some]
        cases okFrom false ((runesL s 0).drop 1) <;> rfl
end Ev

set_option linter.unusedSimpArgs false
set_option linter.unusedVariables false
namespace Ev
open Go
inductive V where
  | mk (k i m : Int) (t : ByteArray) (l : List V)
mutual
def V.d : V → D
  | .mk k i m t l => .agg [.val (.int .i64 k), .val (.int .i64 i), .val (.int .i64 m), .val (.string t), .slice (V.ds l)]
def V.ds : List V → List D
  | [] => []
  | v :: l => v.d :: V.ds l
end
theorem V.ds_eq : ∀ l : List V, V.ds l = l.map V.d
  | [] => by rw [V.ds]; rfl
  | v :: l => by rw [V.ds, V.ds_eq l]; rfl
theorem V.d_mk (k i m : Int) (t : ByteArray) (l : List V) : (V.mk k i m t l).d = .agg [.val (.int .i64 k), .val (.int .i64 i), .val (.int .i64 m), .val (.string t), .slice (V.ds l)] := by rw [V.d]
def V.tup : V → Int × Int × Int × ByteArray × List D
  | .mk k i m t l => (k, i, m, t, V.ds l)
theorem lidx_ds (l : List V) (i : Nat) : lidx (V.ds l) (i : Int) = (l[i]?).map V.d := by rw [V.ds_eq, lidx_map]
theorem ds_length (l : List V) : (V.ds l).length = l.length := by rw [V.ds_eq, List.length_map]
mutual
def V.nodes : V → Nat
  | .mk _ _ _ _ l => 1 + V.nodesL l
def V.nodesL : List V → Nat
  | [] => 0
  | v :: l => v.nodes + V.nodesL l
end
mutual
def V.hgt : V → Nat
  | .mk _ _ _ _ l => 1 + V.hgtL l
def V.hgtL : List V → Nat
  | [] => 0
  | v :: l => max v.hgt (V.hgtL l)
end
mutual
def V.big : V → Nat
  | .mk _ _ _ t l => 1 + t.size + V.bigL l
def V.bigL : List V → Nat
  | [] => 0
  | v :: l => v.big + V.bigL l
end
theorem V.hgt_pos (v : V) : 1 ≤ v.hgt := by cases v; rw [V.hgt]; omega
theorem V.big_pos (v : V) : 1 ≤ v.big := by cases v; rw [V.big]; omega
theorem V.len_bigL : ∀ l : List V, l.length ≤ V.bigL l
  | [] => by simp [V.bigL]
  | v :: l => by
    have := V.len_bigL l
    have := v.big_pos
    rw [V.bigL, List.length_cons]; omega
theorem V.mem_bigL : ∀ {l : List V} {v : V}, v ∈ l → v.big ≤ V.bigL l
  | w :: l, v, h => by
    rw [V.bigL]
    rcases List.mem_cons.1 h with rfl | h
    · omega
    · have := V.mem_bigL h; omega
theorem V.mem_hgtL : ∀ {l : List V} {v : V}, v ∈ l → v.hgt ≤ V.hgtL l
  | w :: l, v, h => by
    rw [V.hgtL]
    rcases List.mem_cons.1 h with rfl | h
    · omega
    · have := V.mem_hgtL h; omega
theorem drop_cons {α : Type} {l : List α} {i : Nat} {v : α} {r : List α} (h : l.drop i = v :: r) : l[i]? = some v ∧ l.drop (i + 1) = r ∧ i < l.length ∧ v ∈ l := by
  have hi : i < l.length := by
    rcases Nat.lt_or_ge i l.length with hi | hi
    · exact hi
    · rw [List.drop_eq_nil_of_le hi] at h; cases h
  rw [List.drop_eq_getElem_cons hi] at h
  injection h with h1 h2
  refine ⟨by rw [List.getElem?_eq_getElem hi, h1], h2, hi, ?_⟩
  rw [← h1]; exact List.getElem_mem hi
theorem drop_nil {α : Type} {l : List α} {i : Nat} (h : l.drop i = []) : l.length ≤ i := by simpa using h
theorem next_idx {i : Nat} (h : i < 9223372036854775807) : w64 ((i : Int) + 1) = ((i + 1 : Nat) : Int) := by rw [w64_id (by omega) (by omega)]; omega
def Fits (c dep : Nat) (v : V) : Prop := c + v.nodes ≤ 4096 ∧ dep + v.hgt ≤ 17
def FitsL (c dep : Nat) (l : List V) : Prop := c + V.nodesL l ≤ 4096 ∧ dep + V.hgtL l ≤ 16
def Good45 (k c dep : Nat) (v : V) : Prop := ∃ m c' : Nat, n95 k ((c : Int), v.tup.1, v.tup.2.1, v.tup.2.2.1, v.tup.2.2.2.1, v.tup.2.2.2.2, (dep : Int)) = some ((m : Int), (c' : Int)) ∧ m ≤ 17 ∧ c' ≤ 4097 ∧
  ((Fits c dep v ∧ m + 1 = dep + v.hgt ∧ c' = c + v.nodes) ∨ (¬ Fits c dep v ∧ (c' > 4096 ∨ m > 16)))
theorem L45_step (F : Int × Int × Int × Int × ByteArray × List D × Int → Option (Int × Int)) (n : Nat) (dep most : Int) (l : List V) (i : Nat) (len c x1 x2 x3 : Int) (x4 : ByteArray) (x5 : List D) (k im mm : Int) (t : ByteArray) (s : List V) (h : l[i]? = some (.mk k im mm t s)) :
    L95_0 F (n + 1) (dep, most, V.ds l, len, (i : Int), c, x1, x2, x3, x4, x5) () = (bif (decide ((i : Int) < len)) then ((F (c, k, im, mm, t, V.ds s, (w64 (dep + 1)))).bind fun y31 => (bif (bif (decide (y31.2 > 4096)) then true else (decide ((if y31.1 > most then y31.1 else most) > 16))) then (some (O95_0.x0 (if y31.1 > most then y31.1 else most) (if y31.1 > most then y31.1 else most) y31.2 x1 x2 x3 x4 x5, ())) else (L95_0 F n (dep, (if y31.1 > most then y31.1 else most), V.ds l, len, (w64 ((i : Int) + 1)), y31.2, x1, x2, x3, x4, x5) ()))) else (some (O95_0.x1 most c x1 x2 x3 x4 x5, ()))) := by
  rw [L95_0, lidx_ds, h, Option.map_some, Option.bind_some, V.d_mk]
  rfl
theorem L45_end (F : Int × Int × Int × Int × ByteArray × List D × Int → Option (Int × Int)) (n : Nat) (dep most : Int) (l : List D) (i : Nat) (len c x1 x2 x3 : Int) (x4 : ByteArray) (x5 : List D) (h : ¬ (i : Int) < len) :
    L95_0 F (n + 1) (dep, most, l, len, (i : Int), c, x1, x2, x3, x4, x5) () = (some (O95_0.x1 most c x1 x2 x3 x4 x5, ())) := by
  rw [L95_0, decide_eq_false h, cond_false]
theorem L45 {k : Nat} {l : List V} (hl : l.length ≤ 1048576) {dep : Nat} (hk : ∀ (c : Nat) (v : V), v ∈ l → c ≤ 4096 → Good45 k c (dep + 1) v) (hd : 1 ≤ dep ∧ dep ≤ 16) (x1 x2 x3 : Int) (x4 : ByteArray) (x5 : List D) : ∀ (rest : List V) (n i c most : Nat), l.drop i = rest → rest.length < n → c ≤ 4096 → dep ≤ most → most ≤ 16 →
    ∃ m c' : Nat, (L95_0 (n95 k) n ((dep : Int), (most : Int), V.ds l, ((l.length : Nat) : Int), (i : Int), (c : Int), x1, x2, x3, x4, x5) () = some (O95_0.x1 (m : Int) (c' : Int) x1 x2 x3 x4 x5, ()) ∧ FitsL c dep rest ∧ m = max most (dep + V.hgtL rest) ∧ c' = c + V.nodesL rest) ∨ (L95_0 (n95 k) n ((dep : Int), (most : Int), V.ds l, ((l.length : Nat) : Int), (i : Int), (c : Int), x1, x2, x3, x4, x5) () = some (O95_0.x0 (m : Int) (m : Int) (c' : Int) x1 x2 x3 x4 x5, ()) ∧ ¬ FitsL c dep rest ∧ m ≤ 17 ∧ c' ≤ 4097 ∧ (c' > 4096 ∨ m > 16)) := by
  intro rest
  induction rest with
  | nil =>
    intro n i c most hr hn hc hm1 hm2
    obtain ⟨n, rfl⟩ : ∃ m, n = m + 1 := ⟨n - 1, by simp at hn; omega⟩
    have := drop_nil hr
    refine ⟨most, c, .inl ⟨L45_end _ _ _ _ _ _ _ _ _ _ _ _ _ (by omega), ⟨by simp [V.nodesL]; omega, by simp [V.hgtL]; omega⟩, by simp [V.hgtL]; omega, by simp [V.nodesL]⟩⟩
  | cons v rest ih =>
    intro n i c most hr hn hc hm1 hm2
    obtain ⟨n, rfl⟩ : ∃ m, n = m + 1 := ⟨n - 1, by simp at hn; omega⟩
    obtain ⟨h1, h2, h3, h4⟩ := drop_cons hr
    obtain ⟨m, c', e1, e2, e3, e4⟩ := hk c v h4 hc
    obtain ⟨k0, i0, m0, t0, l0⟩ := v
    rw [L45_step _ _ _ _ _ _ _ _ _ _ _ _ _ _ _ _ _ _ h1, decide_eq_true (by omega : (i : Int) < ((l.length : Nat) : Int)), cond_true, next_idx (i := dep) (by omega)]
    simp only [V.tup] at e1
    rw [e1, Option.bind_some]
    have hmx : (if (m : Int) > (most : Int) then (m : Int) else (most : Int)) = ((max most m : Nat) : Int) := by split <;> omega
    simp only [hmx]
    rw [next_idx (i := i) (by omega)]
    have hp := V.hgt_pos (.mk k0 i0 m0 t0 l0)
    rcases e4 with ⟨f1, f2, f3⟩ | ⟨f1, f2⟩
    · 
      unfold Fits at f1
      rw [decide_eq_false (by omega : ¬ (c' : Int) > 4096), cond_false, decide_eq_false (by omega : ¬ ((max most m : Nat) : Int) > 16), cond_false]
      obtain ⟨m2, c2, g⟩ := ih n (i + 1) c' (max most m) h2 (by simp at hn; omega) (by omega) (by omega) (by omega)
      refine ⟨m2, c2, ?_⟩
      rcases g with ⟨g1, g2, g3, g4⟩ | ⟨g1, g2, g3⟩
      · left
        refine ⟨g1, ?_, ?_, ?_⟩
        · unfold FitsL at g2 ⊢
          rw [V.nodesL, V.hgtL]; omega
        · rw [V.hgtL]; omega
        · rw [V.nodesL]; omega
      · right
        refine ⟨g1, ?_, g3⟩
        intro q
        apply g2
        unfold FitsL at q ⊢
        rw [V.nodesL, V.hgtL] at q; omega
    · 
      have hb : (bif (decide ((c' : Int) > 4096)) then true else (decide (((max most m : Nat) : Int) > 16))) = true := by
        rcases f2 with f2 | f2
        · rw [decide_eq_true (by omega)]; rfl
        · rw [decide_eq_true (by omega : ((max most m : Nat) : Int) > 16)]; cases decide ((c' : Int) > 4096) <;> rfl
      rw [hb, cond_true]
      refine ⟨max most m, c', .inr ⟨rfl, ?_, by omega, e3, by omega⟩⟩
      intro q
      apply f1
      unfold FitsL at q
      unfold Fits
      rw [V.nodesL, V.hgtL] at q; omega
theorem good45 : ∀ (k c dep : Nat) (v : V), v.big ≤ 1048576 → c ≤ 4096 → 1 ≤ dep → dep ≤ 17 → 18 ≤ k + dep → Good45 k c dep v := by
  intro k
  induction k with
  | zero => intro c dep v _ _ _ h1 h2; omega
  | succ k ih =>
    intro c dep v hb hc h0 h1 h2
    obtain ⟨k0, i0, m0, t0, l0⟩ := v
    have hp : 1 ≤ 1 + V.hgtL l0 := by omega
    unfold Good45
    rw [n95]
    simp only [V.tup]
    rw [next_idx (i := c) (by omega)]
    rw [V.big] at hb
    have hll := V.len_bigL l0
    by_cases hx : c + 1 > 4096
    · rw [decide_eq_true (by omega : ((c + 1 : Nat) : Int) > 4096), cond_true, cond_true]
      exact ⟨dep, c + 1, rfl, by omega, by omega, .inr ⟨fun q => by unfold Fits at q; rw [V.nodes] at q; omega, by omega⟩⟩
    · rw [decide_eq_false (by omega : ¬ ((c + 1 : Nat) : Int) > 4096), cond_false]
      by_cases hy : dep > 16
      · rw [decide_eq_true (by omega : (dep : Int) > 16), cond_true]
        exact ⟨dep, c + 1, rfl, by omega, by omega, .inr ⟨fun q => by unfold Fits at q; rw [V.hgt] at q; omega, by omega⟩⟩
      · rw [decide_eq_false (by omega : ¬ (dep : Int) > 16), cond_false, ds_length]
        obtain ⟨m, c', g⟩ := L45 (k := k) (l := l0) (by omega) (dep := dep) (fun c v hv hc => ih c (dep + 1) v (by have := V.mem_bigL hv; omega) hc (by omega) (by omega) (by omega)) (by omega) k0 i0 m0 t0 (V.ds l0) l0 1000000000000 0 (c + 1) dep (by simp) (by omega) (by omega) (Nat.le_refl _) (by omega)
        rcases g with ⟨g1, g2, g3, g4⟩ | ⟨g1, g2, g3, g4, g5⟩
        · rw [show ((0 : Nat) : Int) = 0 from rfl] at g1
          rw [g1]
          unfold FitsL at g2
          refine ⟨m, c', rfl, by omega, by omega, .inl ⟨?_, ?_, ?_⟩⟩
          · unfold Fits; rw [V.nodes, V.hgt]; omega
          · rw [V.hgt]; omega
          · rw [V.nodes]; omega
        · rw [show ((0 : Nat) : Int) = 0 from rfl] at g1
          rw [g1]
          refine ⟨m, c', rfl, g3, g4, .inr ⟨?_, g5⟩⟩
          intro q
          apply g2
          unfold Fits at q
          unfold FitsL
          rw [V.nodes, V.hgt] at q; omega
def V.small (v : V) : Bool := decide (v.nodes ≤ 4096 ∧ v.hgt ≤ 16)
theorem small_eq {v : V} (hb : v.big ≤ 1048576) : n61 v.tup = some v.small := by
  obtain ⟨m, c', e1, e2, e3, e4⟩ := good45 64 0 1 v hb (by omega) (by omega) (by omega) (by omega)
  obtain ⟨k0, i0, m0, t0, l0⟩ := v
  simp only [V.tup, n61] at e1 ⊢
  rw [show (0 : Int) = ((0 : Nat) : Int) from rfl, show (1 : Int) = ((1 : Nat) : Int) from rfl, e1, Option.bind_some]
  congr 1
  unfold V.small
  rcases e4 with ⟨f1, f2, f3⟩ | ⟨f1, f2⟩
  · unfold Fits at f1
    rw [decide_eq_true (by omega : (m : Int) ≤ 16), cond_true, decide_eq_true (by omega : (c' : Int) ≤ 4096), decide_eq_true (by omega)]
  · rw [decide_eq_false (p := V.nodes _ ≤ 4096 ∧ _) (fun q => f1 ⟨by omega, by omega⟩)]
    by_cases hm : (m : Int) ≤ 16
    · rw [decide_eq_true hm, cond_true, decide_eq_false (by omega)]
    · rw [decide_eq_false hm, cond_false]
def Good41 (k c dep : Nat) (v : V) : Prop := ∃ c' : Nat, n36 k (v.tup.1, v.tup.2.1, v.tup.2.2.1, v.tup.2.2.2.1, v.tup.2.2.2.2, (c : Int), (dep : Int)) = some (c' : Int) ∧ c' ≤ 4097 ∧
  ((Fits c dep v ∧ c' = c + v.nodes) ∨ (¬ Fits c dep v ∧ c' > 4096))
theorem L41_step (F : Int × Int × Int × ByteArray × List D × Int × Int → Option Int) (n : Nat) (dep : Int) (l : List V) (i : Nat) (c x1 x2 x3 : Int) (x4 : ByteArray) (k im mm : Int) (t : ByteArray) (s : List V) (h : l[i]? = some (.mk k im mm t s)) :
    L36_0 F (n + 1) (c, dep, (i : Int), x1, x2, x3, x4, V.ds l) () = (bif (decide ((i : Int) < ((l.length : Nat) : Int))) then ((F (k, im, mm, t, V.ds s, c, (w64 (dep + 1)))).bind fun y27 => (bif (decide (y27 > 4096)) then (some (O36_0.x0 y27 y27 x1 x2 x3 x4 (V.ds l), ())) else (L36_0 F n (y27, dep, (w64 ((i : Int) + 1)), x1, x2, x3, x4, V.ds l) ()))) else (some (O36_0.x1 c x1 x2 x3 x4 (V.ds l), ()))) := by
  rw [L36_0, lidx_ds, h, Option.map_some, Option.bind_some, V.d_mk, ds_length]
  rfl
theorem L41_end (F : Int × Int × Int × ByteArray × List D × Int × Int → Option Int) (n : Nat) (dep : Int) (l : List V) (i : Nat) (c x1 x2 x3 : Int) (x4 : ByteArray) (h : l.length ≤ i) :
    L36_0 F (n + 1) (c, dep, (i : Int), x1, x2, x3, x4, V.ds l) () = (some (O36_0.x1 c x1 x2 x3 x4 (V.ds l), ())) := by
  rw [L36_0, ds_length, decide_eq_false (by omega), cond_false]
theorem L41c {k : Nat} {l : List V} (hl : l.length ≤ 1048576) {dep : Nat} (hk : ∀ (c : Nat) (v : V), v ∈ l → c ≤ 4096 → Good41 k c (dep + 1) v) (hd : 1 ≤ dep ∧ dep ≤ 16) (x1 x2 x3 : Int) (x4 : ByteArray) : ∀ (rest : List V) (n i c : Nat), l.drop i = rest → rest.length < n → c ≤ 4096 →
    ∃ c' : Nat, (L36_0 (n36 k) n ((c : Int), (dep : Int), (i : Int), x1, x2, x3, x4, V.ds l) () = some (O36_0.x1 (c' : Int) x1 x2 x3 x4 (V.ds l), ()) ∧ FitsL c dep rest ∧ c' = c + V.nodesL rest) ∨ (L36_0 (n36 k) n ((c : Int), (dep : Int), (i : Int), x1, x2, x3, x4, V.ds l) () = some (O36_0.x0 (c' : Int) (c' : Int) x1 x2 x3 x4 (V.ds l), ()) ∧ ¬ FitsL c dep rest ∧ c' ≤ 4097 ∧ c' > 4096) := by
  intro rest
  induction rest with
  | nil =>
    intro n i c hr hn hc
    obtain ⟨n, rfl⟩ : ∃ m, n = m + 1 := ⟨n - 1, by simp at hn; omega⟩
    have := drop_nil hr
    refine ⟨c, .inl ⟨L41_end _ _ _ _ _ _ _ _ _ _ this, ⟨by simp [V.nodesL]; omega, by simp [V.hgtL]; omega⟩, by simp [V.nodesL]⟩⟩
  | cons v rest ih =>
    intro n i c hr hn hc
    obtain ⟨n, rfl⟩ : ∃ m, n = m + 1 := ⟨n - 1, by simp at hn; omega⟩
    obtain ⟨h1, h2, h3, h4⟩ := drop_cons hr
    obtain ⟨c', e1, e3, e4⟩ := hk c v h4 hc
    obtain ⟨k0, i0, m0, t0, l0⟩ := v
    rw [L41_step _ _ _ _ _ _ _ _ _ _ _ _ _ _ _ h1, decide_eq_true (by omega : (i : Int) < ((l.length : Nat) : Int)), cond_true, next_idx (i := dep) (by omega)]
    simp only [V.tup] at e1
    rw [e1, Option.bind_some, next_idx (i := i) (by omega)]
    rcases e4 with ⟨f1, f3⟩ | ⟨f1, f2⟩
    · unfold Fits at f1
      rw [decide_eq_false (by omega : ¬ (c' : Int) > 4096), cond_false]
      obtain ⟨c2, g⟩ := ih n (i + 1) c' h2 (by simp at hn; omega) (by omega)
      refine ⟨c2, ?_⟩
      have hp := V.hgt_pos (.mk k0 i0 m0 t0 l0)
      rcases g with ⟨g1, g2, g4⟩ | ⟨g1, g2, g3⟩
      · left
        refine ⟨g1, ?_, ?_⟩
        · unfold FitsL at g2 ⊢
          rw [V.nodesL, V.hgtL]; omega
        · rw [V.nodesL]; omega
      · right
        refine ⟨g1, ?_, g3⟩
        intro q
        apply g2
        unfold FitsL at q ⊢
        rw [V.nodesL, V.hgtL] at q; omega
    · rw [decide_eq_true (by omega : (c' : Int) > 4096), cond_true]
      refine ⟨c', .inr ⟨rfl, ?_, e3, f2⟩⟩
      intro q
      apply f1
      unfold FitsL at q
      unfold Fits
      rw [V.nodesL, V.hgtL] at q; omega
theorem good41 : ∀ (k c dep : Nat) (v : V), v.big ≤ 1048576 → c ≤ 4096 → 1 ≤ dep → dep ≤ 17 → 18 ≤ k + dep → Good41 k c dep v := by
  intro k
  induction k with
  | zero => intro c dep v _ _ _ h1 h2; omega
  | succ k ih =>
    intro c dep v hb hc h0 h1 h2
    obtain ⟨k0, i0, m0, t0, l0⟩ := v
    unfold Good41
    rw [n36]
    simp only [V.tup]
    rw [next_idx (i := c) (by omega)]
    rw [V.big] at hb
    have hll := V.len_bigL l0
    by_cases hx : c + 1 > 4096
    · rw [decide_eq_true (by omega : ((c + 1 : Nat) : Int) > 4096), cond_true, cond_true]
      exact ⟨4097, rfl, by omega, .inr ⟨fun q => by unfold Fits at q; rw [V.nodes] at q; omega, by omega⟩⟩
    · rw [decide_eq_false (by omega : ¬ ((c + 1 : Nat) : Int) > 4096), cond_false]
      by_cases hy : dep > 16
      · rw [decide_eq_true (by omega : (dep : Int) > 16), cond_true]
        exact ⟨4097, rfl, by omega, .inr ⟨fun q => by unfold Fits at q; rw [V.hgt] at q; omega, by omega⟩⟩
      · rw [decide_eq_false (by omega : ¬ (dep : Int) > 16), cond_false]
        obtain ⟨c', g⟩ := L41c (k := k) (l := l0) (by omega) (dep := dep) (fun c v hv hc => ih c (dep + 1) v (by have := V.mem_bigL hv; omega) hc (by omega) (by omega) (by omega)) (by omega) k0 i0 m0 t0 l0 1000000000000 0 (c + 1) (by simp) (by omega) (by omega)
        rcases g with ⟨g1, g2, g4⟩ | ⟨g1, g2, g3, g4⟩
        · rw [show ((0 : Nat) : Int) = 0 from rfl] at g1
          rw [g1]
          unfold FitsL at g2
          refine ⟨c', rfl, by omega, .inl ⟨?_, ?_⟩⟩
          · unfold Fits; rw [V.nodes, V.hgt]; omega
          · rw [V.nodes]; omega
        · rw [show ((0 : Nat) : Int) = 0 from rfl] at g1
          rw [g1]
          refine ⟨c', rfl, g3, .inr ⟨?_, g4⟩⟩
          intro q
          apply g2
          unfold Fits at q
          unfold FitsL
          rw [V.nodes, V.hgt] at q; omega
theorem counted_eq {v : V} (hb : v.big ≤ 1048576) : ∃ c' : Int, n36 64 (v.tup.1, v.tup.2.1, v.tup.2.2.1, v.tup.2.2.2.1, v.tup.2.2.2.2, 0, 1) = some c' ∧ decide (c' ≤ 4096) = v.small := by
  obtain ⟨c', e1, e3, e4⟩ := good41 64 0 1 v hb (by omega) (by omega) (by omega) (by omega)
  refine ⟨c', e1, ?_⟩
  unfold V.small
  rcases e4 with ⟨f1, f3⟩ | ⟨f1, f2⟩
  · unfold Fits at f1
    rw [decide_eq_true (by omega : (c' : Int) ≤ 4096), decide_eq_true (by omega)]
  · rw [decide_eq_false (by omega : ¬ (c' : Int) ≤ 4096), decide_eq_false (fun q => f1 ⟨by omega, by omega⟩)]
end Ev

set_option linter.unusedVariables false
set_option linter.unusedSimpArgs false
set_option maxRecDepth 100000
namespace Ev
open Go Go.ChangeShapes Go.WideShapes Go.ChangeAt Go.RowKit Go.Proofs Go.Proofs.YtpnpdcfojbbglaaGreatDoor
variable {H : Type} {enc : TypeId × Value → H} {w : World}
mutual
def V.ok : V → Prop
  | .mk k i m t l => (-9223372036854775808 ≤ k ∧ k ≤ 9223372036854775807) ∧ (-9223372036854775808 ≤ i ∧ i ≤ 9223372036854775807) ∧ (-9223372036854775808 ≤ m ∧ m ≤ 9223372036854775807) ∧ V.okL l
def V.okL : List V → Prop
  | [] => True
  | v :: l => v.ok ∧ V.okL l
end
theorem wf_i64 {a : Int} (w : (Lit.int .i64 a).wf = true) : -9223372036854775808 ≤ a ∧ a ≤ 9223372036854775807 := by
  simp [Lit.wf, IntKind.min, IntKind.max, IntKind.signed, IntKind.bits] at w
  omega
theorem c22 : Tryz.prog.cellsOf 39 = 1 := by kernel_rfl
theorem c2 : Tryz.prog.cellsOf 2 = 1 := by kernel_rfl
theorem c9 : Tryz.prog.cellsOf 9 = 1 := by kernel_rfl
theorem c23 : Tryz.prog.cellsOf 40 = 1 := by kernel_rfl
theorem c25 : Tryz.prog.cellsOf 42 = 5 := by kernel_rfl
theorem val_trod {base : Nat} {sp : Nat → Bool} {held : Bool} (p : Pin) : ∀ (n : Nat) (cs : List Value) (x : DataW H × List MemPlace), DataW.trod enc Tryz.prog w base sp held n 42 cs = some x → ∃ v : V, v.ok ∧ DRel (allRO w p) v.d (.agg cs.toArray) ∧ cs.length = 5 ∧ v.big ≤ Rows.uptoBulk x.1 := by
  intro n
  induction n using Nat.strongRecOn with
  | ind n ih =>
    intro cs x h
    obtain ⟨xs, n', rfl, rfl, hl, hxl, hf⟩ := DataW.trod_struct Tryz.underlying42 h
    rw [c25] at hl
    obtain ⟨c0, c1, c2', c3, c4, rfl⟩ : ∃ c0 c1 c2 c3 c4, cs = [c0, c1, c2, c3, c4] := by
      match cs, hl with
      | [a, b, c, d, e], _ => exact ⟨a, b, c, d, e, rfl⟩
    obtain ⟨x0, x1, x2, x3, x4, rfl⟩ : ∃ c0 c1 c2 c3 c4, xs = [c0, c1, c2, c3, c4] := by
      have hx : xs.length = 5 := hxl
      match xs, hx with
      | [a, b, c, d, e], _ => exact ⟨a, b, c, d, e, rfl⟩
    have f0 : DataW.trod enc Tryz.prog w base sp held n' 39 (([c0, c1, c2', c3, c4].drop 0).take (Tryz.prog.cellsOf 39)) = some x0 := hf 0 _ rfl
    rw [c22] at f0
    have f1 : DataW.trod enc Tryz.prog w base sp held n' 2 (([c0, c1, c2', c3, c4].drop 1).take (Tryz.prog.cellsOf 2)) = some x1 := hf 1 _ rfl
    rw [c2] at f1
    have f2 : DataW.trod enc Tryz.prog w base sp held n' 2 (([c0, c1, c2', c3, c4].drop 2).take (Tryz.prog.cellsOf 2)) = some x2 := hf 2 _ rfl
    rw [c2] at f2
    have f3 : DataW.trod enc Tryz.prog w base sp held n' 9 (([c0, c1, c2', c3, c4].drop 3).take (Tryz.prog.cellsOf 9)) = some x3 := hf 3 _ rfl
    rw [c9] at f3
    have f4 : DataW.trod enc Tryz.prog w base sp held n' 40 (([c0, c1, c2', c3, c4].drop 4).take (Tryz.prog.cellsOf 40)) = some x4 := hf 4 _ rfl
    rw [c23] at f4
    obtain ⟨k, e0, rfl, w0⟩ := DataW.trod_int Tryz.underlying39 f0
    obtain ⟨i, e1, rfl, w1⟩ := DataW.trod_int Tryz.underlying2 f1
    obtain ⟨m, e2, rfl, w2⟩ := DataW.trod_int Tryz.underlying2 f2
    obtain ⟨t, e3, rfl, w3⟩ := DataW.trod_string Tryz.underlying9 f3
    simp at e0 e1 e2 e3
    subst e0; subst e1; subst e2; subst e3
    have items : ∃ l : List V, V.okL l ∧ DRel (allRO w p) (.slice (V.ds l)) c4 ∧ c4.oneCell' = true ∧ V.bigL l ≤ Rows.uptoBulk x4.1 := by
      rcases DataW.trod_slice Tryz.underlying40 f4 with ⟨h1, h2⟩ | ⟨a, len', cap', elems, rest, n'', e, h1, h2, hb, hle, hm, hlen, hel, _, _⟩
      · simp at h1
        subst h1
        refine ⟨[], trivial, ?_, rfl, by rw [V.bigL]; omega⟩
        rw [V.ds]
        simp only [DRel]
        exact ⟨none, 0, rfl, Nat.le_refl _, .inl (by first | trivial | rfl)⟩
      · simp at h1
        subst h1
        subst e
        rw [c25] at hel
        have each : ∀ i, i < len' → ∃ (v : V) (us : List Value) (x : DataW H × List MemPlace), elems[i]? = some x ∧ v.ok ∧ DRel (allRO w p) v.d (.agg us.toArray) ∧ us.length = 5 ∧ v.big ≤ Rows.uptoBulk x.1 ∧ ∀ (j : Nat) (y : Value), us[j]? = some y → w.cell? ((a.add (i * 5)).add j) = some y := by
          intro i hi
          have h := hel i hi
          obtain ⟨x, hx⟩ : ∃ x, elems[i]? = some x := ⟨_, List.getElem?_eq_getElem (by omega)⟩
          rw [hx, Option.bind_eq_some_iff] at h
          obtain ⟨us, q1, q2⟩ := h
          obtain ⟨v, r1, r2, r3, r4⟩ := ih n'' (by omega) us x q2
          obtain ⟨_, q4, q5⟩ := World.cells?_some q1
          refine ⟨v, us, x, hx, r1, r2, r3, r4, fun j y hj => ?_⟩
          have hjl := (List.getElem?_eq_some_iff.1 hj).1
          rw [q5 j (by omega)]; exact hj
        have build : ∀ (k i : Nat), i + k = len' → ∃ l : List (V × List Value), l.length = k ∧ V.okL (l.map (·.1)) ∧ V.bigL (l.map (·.1)) ≤ Rows.uptoBulkAll ((elems.drop i).map (·.1)) ∧ ∀ (j : Nat) (q : V × List Value), l[j]? = some q → DRel (allRO w p) q.1.d (.agg q.2.toArray) ∧ q.2.length = 5 ∧ ∀ (o : Nat) (y : Value), q.2[o]? = some y → w.cell? ((a.add ((i + j) * 5)).add o) = some y := by
          intro k
          induction k with
          | zero => intro i hi; exact ⟨[], rfl, trivial, by simp [V.bigL], by simp⟩
          | succ k ihk =>
            intro i hi
            obtain ⟨v, us, x, hx, r1, r2, r3, r4, r5⟩ := each i (by omega)
            obtain ⟨l, s1, s2, s3, s4⟩ := ihk (i + 1) (by omega)
            have hil : i < elems.length := by omega
            have hxe : elems[i] = x := by
              rw [List.getElem?_eq_getElem hil] at hx
              exact Option.some.inj hx
            refine ⟨(v, us) :: l, by simp [s1], ?_, ?_, fun j q hj => ?_⟩
            · rw [List.map_cons, V.okL]; exact ⟨r1, s2⟩
            · rw [List.drop_eq_getElem_cons hil, List.map_cons, List.map_cons, V.bigL, hxe]
              show _ ≤ Rows.uptoBulk x.1 + Rows.uptoBulkAll ((elems.drop (i + 1)).map (·.1))
              have : (V.big (v, us).1) = v.big := rfl
              omega
            · cases j with
              | zero =>
                simp at hj
                subst hj
                exact ⟨r2, r3, r5⟩
              | succ j =>
                have := s4 j q (by simpa using hj)
                rw [show i + (j + 1) = i + 1 + j by omega]
                exact this
        obtain ⟨l, s1, s2, s3, s4⟩ := build len' 0 (by omega)
        refine ⟨l.map (·.1), s2, ?_, rfl, ?_⟩
        · rw [V.ds_eq]
          simp only [DRel, List.length_map, s1]
          refine ⟨some a, cap', rfl, hle, ?_⟩
          by_cases h0 : l = []
          · exact .inl (by rw [h0]; rfl)
          right
          have hspot : a.spot = none := by
            match l, h0 with
            | q :: l', _ =>
              obtain ⟨g1, g2, g3⟩ := s4 0 q rfl
              have h := g3 0 q.2[0] (List.getElem?_eq_getElem (by omega))
              simp only [Nat.zero_add, Nat.zero_mul, Addr.add, if_true] at h
              unfold World.cell? at h
              cases hsp : a.spot with
              | none => rfl
              | some q =>
                rw [hsp] at h
                split at h <;> simp at h
          have hadd : ∀ x y, (a.add x).add y = ⟨a.block, a.off + x + y, none⟩ := by
            intro x y
            obtain ⟨b, o, q⟩ := a
            simp only at hspot
            subst hspot
            rw [add_eq, add_eq]
          refine ⟨a.block, a.off, 5, by obtain ⟨b, o, q⟩ := a; simp only at hspot; subst hspot; rfl, ?_⟩
          have rowsD : ∀ (l : List (V × List Value)) (i : Nat), (∀ (j : Nat) (q : V × List Value), l[j]? = some q → DRel (allRO w p) q.1.d (.agg q.2.toArray) ∧ q.2.length = 5 ∧ ∀ (o : Nat) (y : Value), q.2[o]? = some y → w.cell? ((a.add ((i + j) * 5)).add o) = some y) → DRows (allRO w p) a.block 5 (a.off + i * 5) ((l.map (·.1)).map V.d) := by
            intro l
            induction l with
            | nil => intro i _; trivial
            | cons q l ihl =>
              intro i hl'
              obtain ⟨g1, g2, g3⟩ := hl' 0 q rfl
              simp only [List.map_cons, DRows]
              refine ⟨⟨_, g1, by simp [Value.cells, g2], fun j y hj => ?_⟩, ?_⟩
              · have := g3 j y (by simpa [Value.cells] using hj)
                rw [hadd] at this
                simpa [allRO] using this
              · have := ihl (i + 1) (fun j x hx => by
                  have := hl' (j + 1) x (by simpa using hx)
                  rw [show i + 1 + j = i + (j + 1) by omega]; exact this)
                rw [Nat.succ_mul, ← Nat.add_assoc] at this
                exact this
          have := rowsD l 0 (fun j q hj => by have := s4 j q hj; exact this)
          simpa using this
        · simp only [Prod.mk.injEq] at h2
          rw [h2]
          simp only [Rows.uptoBulk]
          rw [List.drop_zero] at s3
          omega
    obtain ⟨l, l1, l2, l3, l4⟩ := items
    refine ⟨.mk k i m t l, ?_, ?_, rfl, ?_⟩
    · rw [V.ok]; exact ⟨wf_i64 w0, wf_i64 w1, wf_i64 w2, l1⟩
    · rw [V.d_mk]
      simp only [DRel]
      refine ⟨_, rfl, ?_⟩
      simp only [DRels]
      exact ⟨_, _, rfl, rfl, by simp only [DRel]; exact ⟨trivial, rfl⟩, _, _, rfl, rfl, by simp only [DRel]; exact ⟨trivial, rfl⟩, _, _, rfl, rfl, by simp only [DRel]; exact ⟨trivial, rfl⟩, _, _, rfl, rfl, by simp only [DRel]; exact ⟨trivial, rfl⟩, _, _, rfl, l3, l2, rfl⟩
    · rw [V.big]
      simp only [List.map_cons, List.map_nil, Rows.uptoBulk, Rows.uptoBulkAll]
      have : t.size = t.data.toList.length := by simp
      omega
end Ev

set_option linter.unusedSimpArgs false
set_option linter.unusedVariables false
namespace Ev
open Go
def lex (a b : Int) : Int := if a = 0 then b else a
def c3 (a b : Int) : Int := if a < b then -1 else if a > b then 1 else 0
def cB (s t : ByteArray) : Int := Lib.compareBytes s.data.toList t.data.toList
def cLen (a b : Nat) : Int := c3 a b
mutual
def V.cmp : V → V → Int
  | .mk k i m t l, .mk k' i' m' t' l' => lex (c3 k k') (lex (cLen l.length l'.length) (lex (c3 i i') (lex (c3 m m') (lex (cB t t') (V.cmpL l l')))))
def V.cmpL : List V → List V → Int
  | [], [] => 0
  | [], _ :: _ => -1
  | _ :: _, [] => 1
  | a :: l, b :: l' => lex (a.cmp b) (V.cmpL l l')
end
mutual
def V.cmpR : V → V → Int
  | .mk k i m t l, .mk k' i' m' t' l' => lex (c3 k k') (lex (c3 i i') (lex (c3 m m') (lex (cB t t') (lex (cLen l.length l'.length) (V.cmpRL l l')))))
def V.cmpRL : List V → List V → Int
  | [], [] => 0
  | [], _ :: _ => -1
  | _ :: _, [] => 1
  | a :: l, b :: l' => lex (a.cmpR b) (V.cmpRL l l')
end
theorem lex_ne {a b : Int} (h : a ≠ 0) : lex a b = a := if_neg h
theorem lex_eq {a b : Int} (h : a = 0) : lex a b = b := if_pos h
theorem c3_ne {a b : Int} (h : a ≠ b) : c3 a b ≠ 0 := by unfold c3; split <;> (try split) <;> omega
theorem c3_eq (a : Int) : c3 a a = 0 := by unfold c3; split <;> (try split) <;> omega
theorem c3_zero {a b : Int} : c3 a b = 0 ↔ a = b := ⟨fun h => Classical.byContradiction fun q => c3_ne q h, fun h => h ▸ c3_eq a⟩
def Tri (x y z : Int) : Prop := (-1 ≤ x ∧ x ≤ 1) ∧ (-1 ≤ y ∧ y ≤ 1) ∧ (-1 ≤ z ∧ z ≤ 1) ∧ (0 < x ∨ 0 < y ∨ z < 0 ∨ (x = 0 ∧ y = 0 ∧ z = 0)) ∧ (x < 0 ∨ y < 0 ∨ 0 < z ∨ (x = 0 ∧ y = 0 ∧ z = 0))
theorem Tri.lex {x y z x' y' z' : Int} (h : Tri x y z) (h' : Tri x' y' z') : Tri (lex x x') (lex y y') (lex z z') := by
  unfold Tri Ev.lex at *
  obtain ⟨a1, a2, a3, a4, a5⟩ := h
  obtain ⟨b1, b2, b3, b4, b5⟩ := h'
  by_cases hx : x = 0 <;> by_cases hy : y = 0 <;> by_cases hz : z = 0 <;> simp only [hx, hy, hz, if_true, if_false] <;> refine ⟨by omega, by omega, by omega, by omega, by omega⟩
theorem Tri.c3 (a b c : Int) : Tri (c3 a b) (c3 b c) (c3 a c) := by
  unfold Tri Ev.c3
  by_cases h1 : a < b <;> by_cases h2 : a > b <;> by_cases h3 : b < c <;> by_cases h4 : b > c <;> by_cases h5 : a < c <;> by_cases h6 : a > c <;> simp only [h1, h2, h3, h4, h5, h6, if_true, if_false] <;> (first | omega | decide)
theorem u8_lt (a b : UInt8) : a < b ↔ a.toNat < b.toNat := UInt8.lt_iff_toNat_lt
theorem compareBytes_cons (a b : UInt8) (l l' : List UInt8) : Lib.compareBytes (a :: l) (b :: l') = lex (c3 a.toNat b.toNat) (Lib.compareBytes l l') := by
  rw [Lib.compareBytes]
  unfold lex c3
  simp only [u8_lt]
  by_cases h : a.toNat < b.toNat
  · simp only [h, show (a.toNat : Int) < b.toNat from by omega, if_true]
    rfl
  · by_cases h' : b.toNat < a.toNat
    · simp only [h, h', show ¬ (a.toNat : Int) < b.toNat from by omega, show (a.toNat : Int) > b.toNat from by omega, if_true, if_false]
      rfl
    · simp only [h, h', show ¬ (a.toNat : Int) < b.toNat from by omega, show ¬ (a.toNat : Int) > b.toNat from by omega, if_true, if_false]
def Rg (x : Int) : Prop := -1 ≤ x ∧ x ≤ 1
theorem Rg.lex {x y : Int} (h : Rg x) (h' : Rg y) : Rg (lex x y) := by
  unfold Ev.lex; split
  · exact h'
  · exact h
theorem Rg.c3 (a b : Int) : Rg (c3 a b) := by unfold Rg Ev.c3; split <;> (try split) <;> omega
theorem Rg.bytes : ∀ a b : List UInt8, Rg (Lib.compareBytes a b)
  | [], [] => by simp [Lib.compareBytes, Rg]
  | [], _ :: _ => by simp [Lib.compareBytes, Rg]
  | _ :: _, [] => by simp [Lib.compareBytes, Rg]
  | x :: a, y :: b => by rw [compareBytes_cons]; exact Rg.lex (Rg.c3 _ _) (Rg.bytes a b)
theorem Tri.bytes : ∀ a b c : List UInt8, Tri (Lib.compareBytes a b) (Lib.compareBytes b c) (Lib.compareBytes a c)
  | [], [], [] => by simp [Lib.compareBytes, Tri]
  | [], [], _ :: _ => by simp [Lib.compareBytes, Tri]
  | [], _ :: _, [] => by simp [Lib.compareBytes, Tri]
  | _ :: _, [], [] => by simp [Lib.compareBytes, Tri]
  | x :: a, [], z :: c => by
    have := Rg.bytes (x :: a) (z :: c)
    unfold Rg at this
    unfold Tri
    simp only [Lib.compareBytes] at this ⊢
    refine ⟨by omega, by omega, this, by omega, by omega⟩
  | [], y :: b, z :: c => by
    have := Rg.bytes (y :: b) (z :: c)
    unfold Rg at this
    unfold Tri
    simp only [Lib.compareBytes] at this ⊢
    refine ⟨by omega, this, by omega, by omega, by omega⟩
  | x :: a, y :: b, [] => by
    have := Rg.bytes (x :: a) (y :: b)
    unfold Rg at this
    unfold Tri
    simp only [Lib.compareBytes] at this ⊢
    refine ⟨this, by omega, by omega, by omega, by omega⟩
  | x :: a, y :: b, z :: c => by
    rw [compareBytes_cons, compareBytes_cons, compareBytes_cons]
    exact Tri.lex (Tri.c3 _ _ _) (Tri.bytes a b c)
theorem Tri.cB (a b c : ByteArray) : Tri (cB a b) (cB b c) (cB a c) := Tri.bytes _ _ _
theorem less_iff : ∀ a b : List UInt8, Op.bytesLess a b = decide (Lib.compareBytes a b < 0)
  | [], [] => by simp [Op.bytesLess, Lib.compareBytes]
  | [], _ :: _ => by simp [Op.bytesLess, Lib.compareBytes]
  | _ :: _, [] => by simp [Op.bytesLess, Lib.compareBytes]
  | x :: a, y :: b => by
    rw [Op.bytesLess, compareBytes_cons, less_iff a b]
    rw [Bool.eq_iff_iff]
    simp only [Bool.or_eq_true, Bool.and_eq_true, decide_eq_true_eq, beq_iff_eq, u8_lt, ← UInt8.toNat_inj]
    unfold lex c3
    by_cases h : x.toNat < y.toNat
    · simp only [h, show (x.toNat : Int) < y.toNat from by omega, if_true]
      simp
    · by_cases h' : x.toNat = y.toNat
      · simp only [h', Int.lt_irrefl, gt_iff_lt, if_false, if_true, Nat.lt_irrefl, false_or, true_and]
      · simp only [h, h', show ¬ (x.toNat : Int) < y.toNat from by omega, show (x.toNat : Int) > y.toNat from by omega, if_true, if_false, false_and, or_false, false_iff]
        simp
theorem compareBytes_zero : ∀ a b : List UInt8, Lib.compareBytes a b = 0 ↔ a = b
  | [], [] => by simp [Lib.compareBytes]
  | [], _ :: _ => by simp [Lib.compareBytes]
  | _ :: _, [] => by simp [Lib.compareBytes]
  | x :: a, y :: b => by
    rw [compareBytes_cons]
    unfold lex
    split
    · rename_i h
      rw [c3_zero] at h
      rw [compareBytes_zero a b]
      have : x = y := UInt8.toNat_inj.1 (by omega)
      simp [this]
    · rename_i h
      constructor
      · intro q; exact absurd q h
      · intro q; injection q with q1 q2; rw [q1] at h; exact absurd (c3_eq _) h
theorem cB_zero (s t : ByteArray) : cB s t = 0 ↔ s = t := by
  unfold cB
  rw [compareBytes_zero]
  exact ⟨fun h => ByteArray.ext (Array.toList_inj.1 h), fun h => h ▸ rfl⟩
theorem sLt_eq (s t : ByteArray) : sLt s t = decide (cB s t < 0) := by
  have e : ∀ x : ByteArray, x.toList = x.data.toList := fun x => by simp [ByteArray.toList_eq]
  unfold sLt cB
  rw [less_iff, e, e]
theorem sEq_eq (s t : ByteArray) : sEq s t = decide (cB s t = 0) := by
  rw [Bool.eq_iff_iff, sEq_iff, decide_eq_true_eq, cB_zero]
theorem n80_c3 (a b : Int) : n98 (decide (a < b), decide (a > b)) = some (c3 a b) := by
  unfold n98 c3
  by_cases h : a < b
  · simp [h]
  · simp only [h, decide_false, cond_false, if_false]
    by_cases h' : a > b <;> simp [h']
theorem n80_ne {a b : Int} (h : a ≠ b) : n98 (decide (a < b), true) = some (c3 a b) := by
  unfold n98 c3
  by_cases h' : a < b
  · simp [h']
  · simp only [h', decide_false, cond_false, if_false, cond_true]
    rw [if_pos (by omega)]
theorem n51_c3 (a b : Int) : n75 (decide (a < b), decide (a > b)) = some (c3 a b) := n80_c3 a b
theorem n51_cB (s t : ByteArray) : n75 (sLt s t, !(sLt s t || sEq s t)) = some (cB s t) := by
  have h := (Tri.cB s t t).1
  rw [sLt_eq, sEq_eq]
  unfold n75
  by_cases h1 : cB s t < 0
  · simp only [h1, decide_true, cond_true]; congr 1; omega
  · by_cases h2 : cB s t = 0
    · rw [h2]; rfl
    · simp only [h1, h2, decide_false, cond_false, Bool.false_or, Bool.not_false, cond_true]; congr 1; omega
def V.two : V → V → Int × Int × Int × ByteArray × List D × Int × Int × Int × ByteArray × List D
  | .mk k i m t l, .mk k' i' m' t' l' => (k, i, m, t, V.ds l, k', i', m', t', V.ds l')
theorem L49_2_raw (F : Int × Int × Int × ByteArray × List D × Int × Int × Int × ByteArray × List D → Option Int) (n : Nat) (l l' : List V) (i : Nat) (len x1 x2 x3 : Int) (x4 : ByteArray) (x5 : List D) (y1 y2 y3 : Int) (y4 : ByteArray) (q : Nat) (k im mm : Int) (t : ByteArray) (s : List V) (k' im' mm' : Int) (t' : ByteArray) (s' : List V) (h : l[i]? = some (.mk k im mm t s)) (h' : l'[i]? = some (.mk k' im' mm' t' s')) :
    L63_2 F (n + 1) (V.ds l, len, (i : Int), x1, x2, x3, x4, x5, y1, y2, y3, y4, V.ds l', q) () = (bif decide ((i : Int) < len) then ((F (k, im, mm, t, V.ds s, k', im', mm', t', V.ds s')).bind fun y115 => (bif (y115 != 0) then (ask (([q] : List Nat) = [q]) (some (O63_2.x0 y115 x1 x2 x3 x4 x5 y1 y2 y3 y4 (V.ds l') q, ()))) else (ask (([q] : List Nat) = [q]) (L63_2 F n (V.ds l, len, (w64 ((i : Int) + 1)), x1, x2, x3, x4, x5, y1, y2, y3, y4, V.ds l', q) ())))) else (ask (([q] : List Nat) = [q]) (some (O63_2.x1 x1 x2 x3 x4 x5 y1 y2 y3 y4 (V.ds l') q, ())))) := by
  rw [L63_2, lidx_ds, lidx_ds, h, h', Option.map_some, Option.map_some, Option.bind_some, V.d_mk, V.d_mk]
  rfl
theorem L49_2_step (F : Int × Int × Int × ByteArray × List D × Int × Int × Int × ByteArray × List D → Option Int) (n : Nat) (l l' : List V) (i : Nat) (x1 x2 x3 : Int) (x4 : ByteArray) (x5 : List D) (y1 y2 y3 : Int) (y4 : ByteArray) (q : Nat) (v w : V) (h : l[i]? = some v) (h' : l'[i]? = some w) (hi : i < l.length) :
    L63_2 F (n + 1) (V.ds l, ((l.length : Nat) : Int), (i : Int), x1, x2, x3, x4, x5, y1, y2, y3, y4, V.ds l', q) () = ((F (v.two w)).bind fun y115 => (bif (y115 != 0) then (some (O63_2.x0 y115 x1 x2 x3 x4 x5 y1 y2 y3 y4 (V.ds l') q, ())) else (L63_2 F n (V.ds l, ((l.length : Nat) : Int), (w64 ((i : Int) + 1)), x1, x2, x3, x4, x5, y1, y2, y3, y4, V.ds l', q) ()))) := by
  obtain ⟨k, im, mm, t, s⟩ := v
  obtain ⟨k', im', mm', t', s'⟩ := w
  rw [L49_2_raw F n l l' i _ x1 x2 x3 x4 x5 y1 y2 y3 y4 q k im mm t s k' im' mm' t' s' h h', decide_eq_true (by omega : (i : Int) < ((l.length : Nat) : Int)), cond_true]
  simp only [ask_of (show ([q] : List Nat) = [q] from rfl)]
  rfl
theorem L49_2_eq {F : Int × Int × Int × ByteArray × List D × Int × Int × Int × ByteArray × List D → Option Int} {l l' : List V} (hl : l.length ≤ 1048576) (hF : ∀ v ∈ l, ∀ w, F (v.two w) = some (v.cmp w)) (x1 x2 x3 : Int) (x4 : ByteArray) (x5 : List D) (y1 y2 y3 : Int) (y4 : ByteArray) (q : Nat) : ∀ (rest rest' : List V) (n i : Nat), l.drop i = rest → l'.drop i = rest' → rest.length = rest'.length → rest.length < n →
    L63_2 F n (V.ds l, ((l.length : Nat) : Int), (i : Int), x1, x2, x3, x4, x5, y1, y2, y3, y4, V.ds l', q) () = some (if V.cmpL rest rest' = 0 then O63_2.x1 x1 x2 x3 x4 x5 y1 y2 y3 y4 (V.ds l') q else O63_2.x0 (V.cmpL rest rest') x1 x2 x3 x4 x5 y1 y2 y3 y4 (V.ds l') q, ()) := by
  intro rest
  induction rest with
  | nil =>
    intro rest' n i hr hr' he hn
    obtain ⟨n, rfl⟩ : ∃ m, n = m + 1 := ⟨n - 1, by simp at hn; omega⟩
    have : rest' = [] := by cases rest' with | nil => rfl | cons => simp at he
    subst this
    have := drop_nil hr
    rw [L63_2, decide_eq_false (by omega), cond_false, V.cmpL, if_pos rfl]
    exact ask_of rfl
  | cons v rest ih =>
    intro rest' n i hr hr' he hn
    obtain ⟨n, rfl⟩ : ∃ m, n = m + 1 := ⟨n - 1, by simp at hn; omega⟩
    obtain ⟨w, rest', rfl⟩ : ∃ w r, rest' = w :: r := by cases rest' with | nil => simp at he | cons w r => exact ⟨w, r, rfl⟩
    obtain ⟨h1, h2, h3, h4⟩ := drop_cons hr
    obtain ⟨g1, g2, g3, g4⟩ := drop_cons hr'
    rw [L49_2_step F n l l' i x1 x2 x3 x4 x5 y1 y2 y3 y4 q v w h1 g1 h3, hF v h4 w, Option.bind_some, next_idx (by omega), V.cmpL]
    by_cases hz : v.cmp w = 0
    · rw [lex_eq hz, hz, show ((0 : Int) != 0) = false from rfl, cond_false, ih rest' n (i + 1) h2 g2 (by simpa using he) (by simp at hn; omega)]
    · rw [lex_ne hz, if_neg hz, show (v.cmp w != 0) = true by rw [bne_iff_ne]; exact hz, cond_true]
theorem L49_0_eq (F : Int × Int × Int × ByteArray × List D × Int × Int × Int × ByteArray × List D → Option Int) (a b c : Int) (x1 x2 x3 : Int) (x4 : ByteArray) (x5 : List D) (y1 y2 y3 : Int) (y4 : ByteArray) (y5 : List D) :
    L63_0 F 1000000000000 (([.val (.int .i64 a), .val (.int .i64 b), .val (.int .i64 c)] : List D), ((([.val (.int .i64 a), .val (.int .i64 b), .val (.int .i64 c)] : List D).length : Nat) : Int), 0, x1, x2, x3, x4, x5, y1, y2, y3, y4, y5) () = some (if lex a (lex b c) = 0 then O63_0.x1 x1 x2 x3 x4 x5 y1 y2 y3 y4 y5 3 else O63_0.x0 (lex a (lex b c)) x1 x2 x3 x4 x5 y1 y2 y3 y4 y5 3, ()) := by
  have step : ∀ (n : Nat) (i : Nat) (x : Int), ([.val (.int .i64 a), .val (.int .i64 b), .val (.int .i64 c)] : List D)[i]? = some (.val (.int .i64 x)) → i < 3 →
      L63_0 F (n + 1) (([.val (.int .i64 a), .val (.int .i64 b), .val (.int .i64 c)] : List D), ((([.val (.int .i64 a), .val (.int .i64 b), .val (.int .i64 c)] : List D).length : Nat) : Int), (i : Int), x1, x2, x3, x4, x5, y1, y2, y3, y4, y5) () = (bif (x != 0) then (some (O63_0.x0 x x1 x2 x3 x4 x5 y1 y2 y3 y4 y5 3, ())) else (L63_0 F n (([.val (.int .i64 a), .val (.int .i64 b), .val (.int .i64 c)] : List D), ((([.val (.int .i64 a), .val (.int .i64 b), .val (.int .i64 c)] : List D).length : Nat) : Int), ((i + 1 : Nat) : Int), x1, x2, x3, x4, x5, y1, y2, y3, y4, y5) ())) := by
    intro n i x hx hi
    rw [L63_0, show lidx ([.val (.int .i64 a), .val (.int .i64 b), .val (.int .i64 c)] : List D) (i : Int) = some (.val (.int .i64 x)) by unfold lidx; rw [if_pos (by omega), Int.toNat_natCast]; exact hx, decide_eq_true (show (i : Int) < _ by show (i : Int) < (3 : Int); omega), cond_true, next_idx (by omega)]
    rfl
  obtain ⟨n, hn⟩ : ∃ n, 1000000000000 = n + 1 + 1 + 1 + 1 := ⟨999999999996, rfl⟩
  rw [hn, show (0 : Int) = ((0 : Nat) : Int) from rfl, step _ 0 a rfl (by omega)]
  by_cases ha : a = 0
  · rw [lex_eq ha, ha, show ((0 : Int) != 0) = false from rfl, cond_false]
    subst ha
    rw [step _ 1 b rfl (by omega)]
    by_cases hb : b = 0
    · rw [lex_eq hb, hb, show ((0 : Int) != 0) = false from rfl, cond_false]
      subst hb
      rw [step _ 2 c rfl (by omega)]
      by_cases hc : c = 0
      · rw [hc, show ((0 : Int) != 0) = false from rfl, cond_false, L63_0, show decide (((2 + 1 : Nat) : Int) < ((([.val (.int .i64 0), .val (.int .i64 0), .val (.int .i64 0)] : List D).length : Nat) : Int)) = false from rfl, cond_false, ask_of rfl]
        rfl
      · rw [show (c != 0) = true by rw [bne_iff_ne]; exact hc, cond_true, if_neg (by simpa using hc)]
    · rw [lex_ne hb, show (b != 0) = true by rw [bne_iff_ne]; exact hb, cond_true, if_neg (by simpa using hb)]
  · rw [lex_ne ha, show (a != 0) = true by rw [bne_iff_ne]; exact ha, cond_true, if_neg (by simpa using ha)]
theorem bnat (a b : Nat) : (((a : Nat) : Int) != ((b : Nat) : Int)) = decide (a ≠ b) := by
  rw [Bool.eq_iff_iff, bne_iff_ne, decide_eq_true_eq]; omega
theorem n49_eq : ∀ (k : Nat) (v w : V), v.hgt ≤ k → v.big ≤ 1048576 → n63 k (v.two w) = some (v.cmp w) := by
  intro k
  induction k with
  | zero => intro v w h; have := v.hgt_pos; omega
  | succ k ih =>
    intro v w h hb
    obtain ⟨k0, i0, m0, t0, l0⟩ := v
    obtain ⟨k', i', m', t', l'⟩ := w
    rw [V.hgt] at h
    rw [V.big] at hb
    have hll := V.len_bigL l0
    simp only [V.two]
    rw [n63, V.cmp]
    by_cases hk : k0 = k'
    · subst hk
      rw [show (k0 != k0) = false by simp, cond_false, ds_length, ds_length, lex_eq (c3_eq k0), bnat]
      by_cases hl : l0.length = l'.length
      · rw [show decide (l0.length ≠ l'.length) = false by simp [hl], cond_false, lex_eq (show cLen _ _ = 0 by unfold cLen; rw [hl]; exact c3_eq _), n80_c3, n80_c3]
        simp only [Option.bind_some, n99]
        refine (ask_of (by simp)).trans ?_
        rw [L49_0_eq, Option.bind_some, show Lib.compareBytes t0.data.toList t'.data.toList = cB t0 t' from rfl]
        have hass : lex (c3 i0 i') (lex (c3 m0 m') (lex (cB t0 t') (V.cmpL l0 l'))) = lex (lex (c3 i0 i') (lex (c3 m0 m') (cB t0 t'))) (V.cmpL l0 l') := by
          unfold lex
          by_cases p : c3 i0 i' = 0 <;> by_cases q : c3 m0 m' = 0 <;> by_cases r : cB t0 t' = 0 <;> simp [p, q, r]
        rw [hass]
        by_cases hz : lex (c3 i0 i') (lex (c3 m0 m') (cB t0 t')) = 0
        · rw [lex_eq hz, if_pos hz]
          dsimp only
          rw [ask_of trivial, ds_length, show (0 : Int) = ((0 : Nat) : Int) from rfl, L49_2_eq (F := n63 k) (l := l0) (l' := l') (by omega) (fun v hv w => ih v w (by have := V.mem_hgtL hv; omega) (by have := V.mem_bigL hv; omega)) _ _ _ _ _ _ _ _ _ _ l0 l' 1000000000000 0 (by simp) (by simp) hl (by omega), Option.bind_some]
          by_cases hc : V.cmpL l0 l' = 0
          · rw [if_pos hc, hc]; rfl
          · rw [if_neg hc]
        · rw [lex_ne hz, if_neg hz]
      · rw [show decide (l0.length ≠ l'.length) = true by simp [hl], cond_true, lex_ne (show cLen _ _ ≠ 0 by unfold cLen; exact c3_ne (by omega)), n80_ne (by omega)]
        rfl
    · rw [show (k0 != k') = true by rw [bne_iff_ne]; exact hk, cond_true, lex_ne (c3_ne hk), n80_ne hk]
      rfl
end Ev

set_option linter.unusedSimpArgs false
set_option linter.unusedVariables false
namespace Ev
open Go
theorem L50_raw (F : Int × Int × Int × ByteArray × List D × Int × Int × Int × ByteArray × List D → Option Int) (n : Nat) (l l' : List V) (i : Nat) (x1 x2 x3 : Int) (x4 : ByteArray) (y1 y2 y3 : Int) (y4 : ByteArray) (k im mm : Int) (t : ByteArray) (s : List V) (k' im' mm' : Int) (t' : ByteArray) (s' : List V) (h : l[i]? = some (.mk k im mm t s)) (h' : l'[i]? = some (.mk k' im' mm' t' s')) :
    L48_0 F (n + 1) ((i : Int), x1, x2, x3, x4, V.ds l, y1, y2, y3, y4, V.ds l') () = (bif decide ((i : Int) < ((l.length : Nat) : Int)) then ((F (k, im, mm, t, V.ds s, k', im', mm', t', V.ds s')).bind fun y49 => (bif (y49 != 0) then (some (O48_0.x0 y49 x1 x2 x3 x4 (V.ds l) y1 y2 y3 y4 (V.ds l'), ())) else (L48_0 F n ((w64 ((i : Int) + 1)), x1, x2, x3, x4, V.ds l, y1, y2, y3, y4, V.ds l') ()))) else (some (O48_0.x1 x1 x2 x3 x4 (V.ds l) y1 y2 y3 y4 (V.ds l'), ()))) := by
  rw [L48_0, lidx_ds, lidx_ds, h, h', Option.map_some, Option.map_some, Option.bind_some, V.d_mk, V.d_mk, ds_length]
  rfl
theorem L50_step (F : Int × Int × Int × ByteArray × List D × Int × Int × Int × ByteArray × List D → Option Int) (n : Nat) (l l' : List V) (i : Nat) (x1 x2 x3 : Int) (x4 : ByteArray) (y1 y2 y3 : Int) (y4 : ByteArray) (v w : V) (h : l[i]? = some v) (h' : l'[i]? = some w) (hi : i < l.length) :
    L48_0 F (n + 1) ((i : Int), x1, x2, x3, x4, V.ds l, y1, y2, y3, y4, V.ds l') () = ((F (v.two w)).bind fun y49 => (bif (y49 != 0) then (some (O48_0.x0 y49 x1 x2 x3 x4 (V.ds l) y1 y2 y3 y4 (V.ds l'), ())) else (L48_0 F n ((w64 ((i : Int) + 1)), x1, x2, x3, x4, V.ds l, y1, y2, y3, y4, V.ds l') ()))) := by
  obtain ⟨k, im, mm, t, s⟩ := v
  obtain ⟨k', im', mm', t', s'⟩ := w
  rw [L50_raw F n l l' i x1 x2 x3 x4 y1 y2 y3 y4 k im mm t s k' im' mm' t' s' h h', decide_eq_true (by omega : (i : Int) < ((l.length : Nat) : Int)), cond_true]
  rfl
theorem L50_eq {F : Int × Int × Int × ByteArray × List D × Int × Int × Int × ByteArray × List D → Option Int} {l l' : List V} (hl : l.length ≤ 1048576) (hF : ∀ v ∈ l, ∀ w, F (v.two w) = some (v.cmpR w)) (x1 x2 x3 : Int) (x4 : ByteArray) (y1 y2 y3 : Int) (y4 : ByteArray) : ∀ (rest rest' : List V) (n i : Nat), l.drop i = rest → l'.drop i = rest' → rest.length = rest'.length → rest.length < n →
    L48_0 F n ((i : Int), x1, x2, x3, x4, V.ds l, y1, y2, y3, y4, V.ds l') () = some (if V.cmpRL rest rest' = 0 then O48_0.x1 x1 x2 x3 x4 (V.ds l) y1 y2 y3 y4 (V.ds l') else O48_0.x0 (V.cmpRL rest rest') x1 x2 x3 x4 (V.ds l) y1 y2 y3 y4 (V.ds l'), ()) := by
  intro rest
  induction rest with
  | nil =>
    intro rest' n i hr hr' he hn
    obtain ⟨n, rfl⟩ : ∃ m, n = m + 1 := ⟨n - 1, by simp at hn; omega⟩
    have : rest' = [] := by cases rest' with | nil => rfl | cons => simp at he
    subst this
    have := drop_nil hr
    rw [L48_0, ds_length, decide_eq_false (by omega), cond_false, V.cmpRL, if_pos rfl]
  | cons v rest ih =>
    intro rest' n i hr hr' he hn
    obtain ⟨n, rfl⟩ : ∃ m, n = m + 1 := ⟨n - 1, by simp at hn; omega⟩
    obtain ⟨w, rest', rfl⟩ : ∃ w r, rest' = w :: r := by cases rest' with | nil => simp at he | cons w r => exact ⟨w, r, rfl⟩
    obtain ⟨h1, h2, h3, h4⟩ := drop_cons hr
    obtain ⟨g1, g2, g3, g4⟩ := drop_cons hr'
    rw [L50_step F n l l' i x1 x2 x3 x4 y1 y2 y3 y4 v w h1 g1 h3, hF v h4 w, Option.bind_some, next_idx (by omega), V.cmpRL]
    by_cases hz : v.cmpR w = 0
    · rw [lex_eq hz, hz, show ((0 : Int) != 0) = false from rfl, cond_false, ih rest' n (i + 1) h2 g2 (by simpa using he) (by simp at hn; omega)]
    · rw [lex_ne hz, if_neg hz, show (v.cmpR w != 0) = true by rw [bne_iff_ne]; exact hz, cond_true]
theorem bne_self {a b : Int} (h : a = b) : (a != b) = false := by rw [h]; simp
theorem bne_of {a b : Int} (h : a ≠ b) : (a != b) = true := by rw [bne_iff_ne]; exact h
theorem n50_eq : ∀ (k : Nat) (v w : V), v.hgt ≤ k → v.big ≤ 1048576 → n48 k (v.two w) = some (v.cmpR w) := by
  intro k
  induction k with
  | zero => intro v w h; have := v.hgt_pos; omega
  | succ k ih =>
    intro v w h hb
    obtain ⟨k0, i0, m0, t0, l0⟩ := v
    obtain ⟨k', i', m', t', l'⟩ := w
    rw [V.hgt] at h
    rw [V.big] at hb
    have hll := V.len_bigL l0
    simp only [V.two]
    rw [n48, V.cmpR, ds_length, ds_length, n51_c3, n51_c3, n51_c3, n51_c3, n51_cB]
    simp only [Option.bind_some]
    by_cases hk : k0 = k'
    · rw [bne_self hk, cond_false, lex_eq (c3_zero.2 hk)]
      by_cases hi : i0 = i'
      · rw [bne_self hi, cond_false, lex_eq (c3_zero.2 hi)]
        by_cases hm : m0 = m'
        · rw [bne_self hm, cond_false, lex_eq (c3_zero.2 hm)]
          by_cases ht : cB t0 t' = 0
          · rw [sEq_eq, decide_eq_true ht, Bool.not_true, cond_false, lex_eq ht]
            by_cases hl : l0.length = l'.length
            · rw [bne_self (by omega), cond_false, lex_eq (by unfold cLen; exact c3_zero.2 (by omega)), show (0 : Int) = ((0 : Nat) : Int) from rfl, L50_eq (F := n48 k) (l := l0) (l' := l') (by omega) (fun v hv w => ih v w (by have := V.mem_hgtL hv; omega) (by have := V.mem_bigL hv; omega)) _ _ _ _ _ _ _ _ l0 l' 1000000000000 0 (by simp) (by simp) hl (by omega), Option.bind_some]
              by_cases hc : V.cmpRL l0 l' = 0
              · rw [if_pos hc, hc]; rfl
              · rw [if_neg hc]
            · rw [bne_of (by omega), cond_true, lex_ne (by unfold cLen; exact c3_ne (by omega))]
              rfl
          · rw [sEq_eq, decide_eq_false ht, Bool.not_false, cond_true, lex_ne ht]
        · rw [bne_of hm, cond_true, lex_ne (c3_ne hm)]
      · rw [bne_of hi, cond_true, lex_ne (c3_ne hi)]
    · rw [bne_of hk, cond_true, lex_ne (c3_ne hk)]
end Ev

set_option linter.unusedSimpArgs false
set_option linter.unusedVariables false
namespace Ev
open Go
abbrev noT : ByteArray := ⟨#[]⟩
def symB (s : ByteArray) : Bool := bif (bif isName s then (!(sEq s (⟨#[116, 114, 117, 101]⟩ : ByteArray))) else false) then (!(sEq s (⟨#[102, 97, 108, 115, 101]⟩ : ByteArray))) else false
theorem n67_eq {s : ByteArray} (hs : s.size ≤ 1048576) : n97 s = some (symB s) := by
  unfold n97
  rw [n107_eq hs]
  unfold symB
  cases isName s <;> rfl
theorem n68_eq {s : ByteArray} (hs : s.size ≤ 1048576) : n74 s = some (symB s) := by
  unfold n74
  rw [n108_eq hs]
  rfl
def partB (a : Int) : Bool := bif (decide (a ≥ (-1048576))) then (decide (a ≤ 1048576)) else false
def V.above : Option V → V → Bool
  | none, _ => true
  | some q, v => decide (q.cmp v < 0)
mutual
def V.formed : V → Bool
  | .mk k i m t l => 
    (bif (k == 1) then (bif (bif (bif (sEq t noT) then (((l.length : Nat) : Int) == 0) else false) then (m == 0) else false) then (bif (i == 0) then true else (i == 1)) else false)
    else (bif (k == 2) then (bif (bif (sEq t noT) then (((l.length : Nat) : Int) == 0) else false) then (m == 0) else false)
    else (bif (k == 3) then (bif (bif (sEq t noT) then (((l.length : Nat) : Int) == 0) else false) then (bif partB i then partB m else false) else false)
    else (bif (k == 4) then (bif (bif (bif (i == 0) then (m == 0) else false) then (((l.length : Nat) : Int) == 0) else false) then symB t else false)
    else (bif (bif (k == 5) then true else bif (k == 6) then true else (k == 7)) then (bif (bif (bif (i != 0) then true else (m != 0)) then true else (!(sEq t noT))) then false else V.formedL (k == 7) none l) else false)))))
def V.formedL (s : Bool) (p : Option V) : List V → Bool
  | [] => true
  | v :: l => v.formed && (bif s then V.above p v else true) && V.formedL s (some v) l
end
theorem formed_facts {k i m : Int} {t : ByteArray} {l : List V} (h : (V.mk k i m t l).formed = true) : (k ≤ 4 ∧ l = []) ∨ (5 ≤ k ∧ i = 0 ∧ m = 0 ∧ t = noT ∧ V.formedL (k == 7) none l = true) := by
  rw [V.formed] at h
  have len0 : ∀ {b : Bool}, (bif b then (((l.length : Nat) : Int) == 0) else false) = true → l = [] := by
    intro b hb
    cases b with
    | false => cases hb
    | true =>
      have : ((l.length : Nat) : Int) = 0 := by simpa using hb
      exact List.eq_nil_of_length_eq_zero (by omega)
  by_cases h1 : k = 1
  · left
    refine ⟨by omega, ?_⟩
    rw [show (k == 1) = true by simp [h1], cond_true] at h
    cases hc : (bif (sEq t noT) then (((l.length : Nat) : Int) == 0) else false) with
    | false => rw [hc] at h; simp at h
    | true => exact len0 hc
  rw [show (k == 1) = false by simp [h1], cond_false] at h
  by_cases h2 : k = 2
  · left
    refine ⟨by omega, ?_⟩
    rw [show (k == 2) = true by simp [h2], cond_true] at h
    cases hc : (bif (sEq t noT) then (((l.length : Nat) : Int) == 0) else false) with
    | false => rw [hc] at h; simp at h
    | true => exact len0 hc
  rw [show (k == 2) = false by simp [h2], cond_false] at h
  by_cases h3 : k = 3
  · left
    refine ⟨by omega, ?_⟩
    rw [show (k == 3) = true by simp [h3], cond_true] at h
    cases hc : (bif (sEq t noT) then (((l.length : Nat) : Int) == 0) else false) with
    | false => rw [hc] at h; simp at h
    | true => exact len0 hc
  rw [show (k == 3) = false by simp [h3], cond_false] at h
  by_cases h4 : k = 4
  · left
    refine ⟨by omega, ?_⟩
    rw [show (k == 4) = true by simp [h4], cond_true] at h
    cases hc : (bif (bif (i == 0) then (m == 0) else false) then (((l.length : Nat) : Int) == 0) else false) with
    | false => rw [hc] at h; simp at h
    | true => exact len0 hc
  rw [show (k == 4) = false by simp [h4], cond_false] at h
  cases hk : (bif (k == 5) then true else bif (k == 6) then true else (k == 7)) with
  | false => rw [hk] at h; cases h
  | true =>
    right
    rw [hk, cond_true] at h
    have hk5 : 5 ≤ k := by
      by_cases p : k = 5
      · omega
      · by_cases q : k = 6
        · omega
        · rw [show (k == 5) = false by simp [p], show (k == 6) = false by simp [q]] at hk
          have : k = 7 := by simpa using hk
          omega
    by_cases hi : i = 0
    · by_cases hm : m = 0
      · cases ht : sEq t noT with
        | true =>
          rw [ht, hi, hm] at h
          exact ⟨hk5, hi, hm, (sEq_iff _ _).1 ht, by simpa using h⟩
        | false => rw [ht, hi, hm] at h; simp at h
      · rw [bne_of hm] at h; simp at h
    · rw [bne_of hi] at h; simp at h
mutual
theorem V.cmp_same : ∀ a b : V, a.formed = true → b.formed = true → a.cmpR b = a.cmp b
  | .mk k i m t l, .mk k' i' m' t' l', h, h' => by
    rw [V.cmp, V.cmpR]
    by_cases hk : k = k'
    · rw [lex_eq (c3_zero.2 hk), lex_eq (c3_zero.2 hk)]
      rcases formed_facts h with ⟨f1, f2⟩ | ⟨f1, f2, f3, f4, f5⟩
      · rcases formed_facts h' with ⟨g1, g2⟩ | ⟨g1, g2⟩
        · subst f2; subst g2
          rw [lex_eq (show cLen _ _ = 0 from rfl), lex_eq (show cLen _ _ = 0 from rfl), V.cmpL, V.cmpRL]
        · omega
      · rcases formed_facts h' with ⟨g1, g2⟩ | ⟨g1, g2, g3, g4, g5⟩
        · omega
        · subst f2; subst f3; subst f4; subst g2; subst g3; subst g4
          rw [lex_eq (c3_eq 0), lex_eq (c3_eq 0), lex_eq (show cB noT noT = 0 from rfl), V.cmpL_same _ _ _ _ l l' f5 g5, lex_eq (c3_eq 0), lex_eq (c3_eq 0), lex_eq (show cB noT noT = 0 from rfl)]
    · rw [lex_ne (c3_ne hk), lex_ne (c3_ne hk)]
theorem V.cmpL_same : ∀ (s s' : Bool) (p p' : Option V) (a b : List V), V.formedL s p a = true → V.formedL s' p' b = true → V.cmpRL a b = V.cmpL a b
  | _, _, _, _, [], [], _, _ => by rw [V.cmpL, V.cmpRL]
  | _, _, _, _, [], _ :: _, _, _ => by rw [V.cmpL, V.cmpRL]
  | _, _, _, _, _ :: _, [], _, _ => by rw [V.cmpL, V.cmpRL]
  | s, s', p, p', x :: a, y :: b, h, h' => by
    rw [V.formedL, Bool.and_eq_true, Bool.and_eq_true] at h h'
    rw [V.cmpL, V.cmpRL, V.cmp_same x y h.1.1 h'.1.1, V.cmpL_same _ _ _ _ a b h.2 h'.2]
end
theorem L44_zero (F : Int × Int × Int × ByteArray × List D → Option Bool) (n : Nat) (l : List V) (x1 x2 x3 : Int) (x4 : ByteArray) (v : V) (h : l[0]? = some v) (hi : 0 < l.length) :
    L62_1 F (n + 1) (V.ds l, ((l.length : Nat) : Int), ((0 : Nat) : Int), x1, x2, x3, x4, V.ds l) () = ((F v.tup).bind fun y28 => (bif (!y28) then (some (O62_1.x0 false x1 x2 x3 x4 (V.ds l), ())) else (L62_1 F n (V.ds l, ((l.length : Nat) : Int), ((1 : Nat) : Int), x1, x2, x3, x4, V.ds l) ()))) := by
  obtain ⟨k, im, mm, t, s⟩ := v
  rw [L62_1, lidx_ds, h, Option.map_some, Option.bind_some, V.d_mk, decide_eq_true (by omega : ((0 : Nat) : Int) < ((l.length : Nat) : Int)), cond_true, decide_eq_false (by omega : ¬ ((0 : Nat) : Int) > 0)]
  simp only [cond_false]
  rw [next_idx (by omega)]
  have : ∀ y28, (bif (!y28) then (some (O62_1.x0 false x1 x2 x3 x4 (V.ds l), ())) else (bif (x1 == 7) then (L62_1 F n (V.ds l, ((l.length : Nat) : Int), ((0 + 1 : Nat) : Int), x1, x2, x3, x4, V.ds l) ()) else (L62_1 F n (V.ds l, ((l.length : Nat) : Int), ((0 + 1 : Nat) : Int), x1, x2, x3, x4, V.ds l) ()))) = (bif (!y28) then (some (O62_1.x0 false x1 x2 x3 x4 (V.ds l), ())) else (L62_1 F n (V.ds l, ((l.length : Nat) : Int), ((1 : Nat) : Int), x1, x2, x3, x4, V.ds l) ())) := by
    intro y28; cases (x1 == 7) <;> rfl
  show ((F (k, im, mm, t, V.ds s)).bind fun y28 => (bif (!y28) then (some (O62_1.x0 false x1 x2 x3 x4 (V.ds l), ())) else (bif (x1 == 7) then (L62_1 F n (V.ds l, ((l.length : Nat) : Int), ((0 + 1 : Nat) : Int), x1, x2, x3, x4, V.ds l) ()) else (L62_1 F n (V.ds l, ((l.length : Nat) : Int), ((0 + 1 : Nat) : Int), x1, x2, x3, x4, V.ds l) ())))) = _
  simp only [this]
  rfl
theorem L44_raw (F : Int × Int × Int × ByteArray × List D → Option Bool) (n : Nat) (l : List V) (i : Nat) (len x1 x2 x3 : Int) (x4 : ByteArray) (k im mm : Int) (t : ByteArray) (s : List V) (k' im' mm' : Int) (t' : ByteArray) (s' : List V) (h : l[i + 1]? = some (.mk k im mm t s)) (h' : l[i]? = some (.mk k' im' mm' t' s')) (hw : w64 (((i + 1 : Nat) : Int) - 1) = (i : Int)) :
    L62_1 F (n + 1) (V.ds l, len, ((i + 1 : Nat) : Int), x1, x2, x3, x4, V.ds l) () = (bif (decide (((i + 1 : Nat) : Int) < len)) then ((F (k, im, mm, t, V.ds s)).bind fun y28 => (bif (!y28) then (some (O62_1.x0 false x1 x2 x3 x4 (V.ds l), ())) else (bif (x1 == 7) then (bif (decide (((i + 1 : Nat) : Int) > 0)) then ((n63 64 (k', im', mm', t', V.ds s', k, im, mm, t, V.ds s)).bind fun y46 => (bif (decide (y46 ≥ 0)) then (some (O62_1.x0 false x1 x2 x3 x4 (V.ds l), ())) else (L62_1 F n (V.ds l, len, (w64 (((i + 1 : Nat) : Int) + 1)), x1, x2, x3, x4, V.ds l) ()))) else (L62_1 F n (V.ds l, len, (w64 (((i + 1 : Nat) : Int) + 1)), x1, x2, x3, x4, V.ds l) ())) else (L62_1 F n (V.ds l, len, (w64 (((i + 1 : Nat) : Int) + 1)), x1, x2, x3, x4, V.ds l) ())))) else (some (O62_1.x1 x1 x2 x3 x4 (V.ds l), ()))) := by
  rw [L62_1, lidx_ds, h, Option.map_some, Option.bind_some, V.d_mk, hw, lidx_ds, h', Option.map_some, V.d_mk]
  rfl
theorem L44_succ (F : Int × Int × Int × ByteArray × List D → Option Bool) (n : Nat) (l : List V) (i : Nat) (x1 x2 x3 : Int) (x4 : ByteArray) (v q : V) (h : l[i + 1]? = some v) (h' : l[i]? = some q) (hi : i + 1 < l.length) (hl : l.length ≤ 1048576) :
    L62_1 F (n + 1) (V.ds l, ((l.length : Nat) : Int), ((i + 1 : Nat) : Int), x1, x2, x3, x4, V.ds l) () = ((F v.tup).bind fun y28 => (bif (!y28) then (some (O62_1.x0 false x1 x2 x3 x4 (V.ds l), ())) else (bif (x1 == 7) then ((n63 64 (q.two v)).bind fun y46 => (bif (decide (y46 ≥ 0)) then (some (O62_1.x0 false x1 x2 x3 x4 (V.ds l), ())) else (L62_1 F n (V.ds l, ((l.length : Nat) : Int), ((i + 1 + 1 : Nat) : Int), x1, x2, x3, x4, V.ds l) ()))) else (L62_1 F n (V.ds l, ((l.length : Nat) : Int), ((i + 1 + 1 : Nat) : Int), x1, x2, x3, x4, V.ds l) ())))) := by
  obtain ⟨k, im, mm, t, s⟩ := v
  obtain ⟨k', im', mm', t', s'⟩ := q
  rw [L44_raw F n l i _ x1 x2 x3 x4 k im mm t s k' im' mm' t' s' h h' (by rw [w64_id (by omega) (by omega)]; omega), decide_eq_true (by omega : ((i + 1 : Nat) : Int) < ((l.length : Nat) : Int)), cond_true, next_idx (by omega), decide_eq_true (by omega : ((i + 1 : Nat) : Int) > 0)]
  rfl
theorem L44_eq {F : Int × Int × Int × ByteArray × List D → Option Bool} {l : List V} (hl : V.bigL l ≤ 1048576) (hh : V.hgtL l ≤ 64) (hF : ∀ v ∈ l, F v.tup = some v.formed) (x1 x2 x3 : Int) (x4 : ByteArray) : ∀ (rest : List V) (n i : Nat) (p : Option V), l.drop i = rest → rest.length < n → (p = match i with | 0 => none | j + 1 => l[j]?) →
    L62_1 F n (V.ds l, ((l.length : Nat) : Int), (i : Int), x1, x2, x3, x4, V.ds l) () = some (bif V.formedL (x1 == 7) p rest then O62_1.x1 x1 x2 x3 x4 (V.ds l) else O62_1.x0 false x1 x2 x3 x4 (V.ds l), ()) := by
  have hll := V.len_bigL l
  intro rest
  induction rest with
  | nil =>
    intro n i p hr hn hp
    obtain ⟨n, rfl⟩ : ∃ m, n = m + 1 := ⟨n - 1, by simp at hn; omega⟩
    have := drop_nil hr
    rw [L62_1, decide_eq_false (by omega), cond_false, V.formedL, cond_true]
  | cons v rest ih =>
    intro n i p hr hn hp
    obtain ⟨n, rfl⟩ : ∃ m, n = m + 1 := ⟨n - 1, by simp at hn; omega⟩
    obtain ⟨h1, h2, h3, h4⟩ := drop_cons hr
    cases i with
    | zero =>
      subst hp
      rw [L44_zero F n l x1 x2 x3 x4 v h1 h3, hF v h4, Option.bind_some, V.formedL]
      cases hf : v.formed with
      | false => rfl
      | true =>
        rw [Bool.not_true, cond_false, ih n 1 (some v) h2 (by simp at hn; omega) h1.symm, V.above]
        cases (x1 == 7) <;> rfl
    | succ j =>
      obtain ⟨q, hq⟩ : ∃ q, l[j]? = some q := ⟨_, List.getElem?_eq_getElem (by omega)⟩
      have hp' : p = some q := hp.trans hq
      subst hp'
      have hm := List.mem_of_getElem? hq
      rw [L44_succ F n l j x1 x2 x3 x4 v q h1 hq h3 (by omega), hF v h4, Option.bind_some, V.formedL, n49_eq 64 q v (by have := V.mem_hgtL hm; omega) (by have := V.mem_bigL hm; omega), Option.bind_some]
      cases hf : v.formed with
      | false => rfl
      | true =>
        rw [Bool.not_true, cond_false, ih n (j + 1 + 1) (some v) h2 (by simp at hn; omega) h1.symm]
        cases (x1 == 7) with
        | false => rfl
        | true =>
          rw [cond_true, cond_true, V.above]
          by_cases hc : q.cmp v < 0
          · rw [decide_eq_false (by omega), cond_false, decide_eq_true hc]; rfl
          · rw [decide_eq_true (by omega : q.cmp v ≥ 0), cond_true, decide_eq_false hc]; rfl
theorem n44_eq : ∀ (k : Nat) (v : V), v.hgt ≤ k → v.hgt ≤ 64 → v.big ≤ 1048576 → n62 k v.tup = some v.formed := by
  intro k
  induction k with
  | zero => intro v h; have := v.hgt_pos; omega
  | succ k ih =>
    intro v h h64 hb
    obtain ⟨k0, i0, m0, t0, l0⟩ := v
    rw [V.hgt] at h h64
    rw [V.big] at hb
    have hll := V.len_bigL l0
    have hL := L44_eq (F := n62 k) (l := l0) (by omega) (by omega) (fun v hv => ih v (by have := V.mem_hgtL hv; omega) (by have := V.mem_hgtL hv; omega) (by have := V.mem_bigL hv; omega)) k0 i0 m0 t0 l0 1000000000000 0 none (by simp) (by omega) rfl
    rw [show ((0 : Nat) : Int) = 0 from rfl] at hL
    simp only [V.tup]
    rw [n62, ds_length, hL, n67_eq (by omega), V.formed]
    simp only [Option.bind_some, n96, cond_some]
    congr 1
    show _ = _
    cases (k0 == 1) with
    | true => rfl
    | false =>
      cases (k0 == 2) with
      | true => rfl
      | false =>
        cases (k0 == 3) with
        | true => rfl
        | false =>
          cases (k0 == 4) with
          | true => rfl
          | false =>
            cases h5 : (k0 == 5) <;> cases h6 : (k0 == 6) <;> cases h7 : (k0 == 7) <;> simp only [cond_true, cond_false] <;> (try cases (bif bif i0 != 0 then true else m0 != 0 then true else !sEq t0 noT)) <;> simp only [cond_true, cond_false] <;> (try cases V.formedL false none l0) <;> (try cases V.formedL true none l0) <;> rfl
theorem L42_zero (F : Int × Int × Int × ByteArray × List D → Option Bool) (n : Nat) (l : List V) (x1 x2 x3 : Int) (x4 : ByteArray) (v : V) (h : l[0]? = some v) (hi : 0 < l.length) :
    L47_1 F (n + 1) (((0 : Nat) : Int), x1, x2, x3, x4, V.ds l) () = ((F v.tup).bind fun y28 => (bif (!y28) then (some (O47_1.x0 false x1 x2 x3 x4 (V.ds l), ())) else (L47_1 F n (((1 : Nat) : Int), x1, x2, x3, x4, V.ds l) ()))) := by
  obtain ⟨k, im, mm, t, s⟩ := v
  rw [L47_1, lidx_ds, h, Option.map_some, Option.bind_some, V.d_mk, ds_length, decide_eq_true (by omega : ((0 : Nat) : Int) < ((l.length : Nat) : Int)), cond_true, decide_eq_false (by omega : ¬ ((0 : Nat) : Int) > 0)]
  simp only [cond_false]
  rw [next_idx (by omega)]
  have : ∀ y28, (bif (!y28) then (some (O47_1.x0 false x1 x2 x3 x4 (V.ds l), ())) else (bif (x1 == 7) then (L47_1 F n (((0 + 1 : Nat) : Int), x1, x2, x3, x4, V.ds l) ()) else (L47_1 F n (((0 + 1 : Nat) : Int), x1, x2, x3, x4, V.ds l) ()))) = (bif (!y28) then (some (O47_1.x0 false x1 x2 x3 x4 (V.ds l), ())) else (L47_1 F n (((1 : Nat) : Int), x1, x2, x3, x4, V.ds l) ())) := by
    intro y28; cases (x1 == 7) <;> rfl
  show ((F (k, im, mm, t, V.ds s)).bind fun y28 => (bif (!y28) then (some (O47_1.x0 false x1 x2 x3 x4 (V.ds l), ())) else (bif (x1 == 7) then (L47_1 F n (((0 + 1 : Nat) : Int), x1, x2, x3, x4, V.ds l) ()) else (L47_1 F n (((0 + 1 : Nat) : Int), x1, x2, x3, x4, V.ds l) ())))) = _
  simp only [this]
  rfl
theorem L42_raw (F : Int × Int × Int × ByteArray × List D → Option Bool) (n : Nat) (l : List V) (i : Nat) (x1 x2 x3 : Int) (x4 : ByteArray) (k im mm : Int) (t : ByteArray) (s : List V) (k' im' mm' : Int) (t' : ByteArray) (s' : List V) (h : l[i + 1]? = some (.mk k im mm t s)) (h' : l[i]? = some (.mk k' im' mm' t' s')) (hw : w64 (((i + 1 : Nat) : Int) - 1) = (i : Int)) :
    L47_1 F (n + 1) (((i + 1 : Nat) : Int), x1, x2, x3, x4, V.ds l) () = (bif (decide (((i + 1 : Nat) : Int) < ((l.length : Nat) : Int))) then ((F (k, im, mm, t, V.ds s)).bind fun y28 => (bif (!y28) then (some (O47_1.x0 false x1 x2 x3 x4 (V.ds l), ())) else (bif (x1 == 7) then (bif (decide (((i + 1 : Nat) : Int) > 0)) then ((n48 64 (k', im', mm', t', V.ds s', k, im, mm, t, V.ds s)).bind fun y46 => (bif (decide (y46 ≥ 0)) then (some (O47_1.x0 false x1 x2 x3 x4 (V.ds l), ())) else (L47_1 F n ((w64 (((i + 1 : Nat) : Int) + 1)), x1, x2, x3, x4, V.ds l) ()))) else (L47_1 F n ((w64 (((i + 1 : Nat) : Int) + 1)), x1, x2, x3, x4, V.ds l) ())) else (L47_1 F n ((w64 (((i + 1 : Nat) : Int) + 1)), x1, x2, x3, x4, V.ds l) ())))) else (some (O47_1.x1 x1 x2 x3 x4 (V.ds l), ()))) := by
  rw [L47_1, lidx_ds, h, Option.map_some, V.d_mk, hw, lidx_ds, h', Option.map_some, V.d_mk, ds_length]
  rfl
theorem L42_succ (F : Int × Int × Int × ByteArray × List D → Option Bool) (n : Nat) (l : List V) (i : Nat) (x1 x2 x3 : Int) (x4 : ByteArray) (v q : V) (h : l[i + 1]? = some v) (h' : l[i]? = some q) (hi : i + 1 < l.length) (hl : l.length ≤ 1048576) :
    L47_1 F (n + 1) (((i + 1 : Nat) : Int), x1, x2, x3, x4, V.ds l) () = ((F v.tup).bind fun y28 => (bif (!y28) then (some (O47_1.x0 false x1 x2 x3 x4 (V.ds l), ())) else (bif (x1 == 7) then ((n48 64 (q.two v)).bind fun y46 => (bif (decide (y46 ≥ 0)) then (some (O47_1.x0 false x1 x2 x3 x4 (V.ds l), ())) else (L47_1 F n (((i + 1 + 1 : Nat) : Int), x1, x2, x3, x4, V.ds l) ()))) else (L47_1 F n (((i + 1 + 1 : Nat) : Int), x1, x2, x3, x4, V.ds l) ())))) := by
  obtain ⟨k, im, mm, t, s⟩ := v
  obtain ⟨k', im', mm', t', s'⟩ := q
  rw [L42_raw F n l i x1 x2 x3 x4 k im mm t s k' im' mm' t' s' h h' (by rw [w64_id (by omega) (by omega)]; omega), decide_eq_true (by omega : ((i + 1 : Nat) : Int) < ((l.length : Nat) : Int)), cond_true, next_idx (by omega), decide_eq_true (by omega : ((i + 1 : Nat) : Int) > 0)]
  rfl
theorem L42_eq {F : Int × Int × Int × ByteArray × List D → Option Bool} {l : List V} (hl : V.bigL l ≤ 1048576) (hh : V.hgtL l ≤ 64) (hF : ∀ v ∈ l, F v.tup = some v.formed) (x1 x2 x3 : Int) (x4 : ByteArray) : ∀ (rest : List V) (n i : Nat) (p : Option V), l.drop i = rest → rest.length < n → (p = match i with | 0 => none | j + 1 => l[j]?) → (∀ q, p = some q → q.formed = true) →
    L47_1 F n ((i : Int), x1, x2, x3, x4, V.ds l) () = some (bif V.formedL (x1 == 7) p rest then O47_1.x1 x1 x2 x3 x4 (V.ds l) else O47_1.x0 false x1 x2 x3 x4 (V.ds l), ()) := by
  have hll := V.len_bigL l
  intro rest
  induction rest with
  | nil =>
    intro n i p hr hn hp _
    obtain ⟨n, rfl⟩ : ∃ m, n = m + 1 := ⟨n - 1, by simp at hn; omega⟩
    have := drop_nil hr
    rw [L47_1, ds_length, decide_eq_false (by omega), cond_false, V.formedL, cond_true]
  | cons v rest ih =>
    intro n i p hr hn hp hpf
    obtain ⟨n, rfl⟩ : ∃ m, n = m + 1 := ⟨n - 1, by simp at hn; omega⟩
    obtain ⟨h1, h2, h3, h4⟩ := drop_cons hr
    cases i with
    | zero =>
      subst hp
      rw [L42_zero F n l x1 x2 x3 x4 v h1 h3, hF v h4, Option.bind_some, V.formedL]
      cases hf : v.formed with
      | false => rfl
      | true =>
        rw [Bool.not_true, cond_false, ih n 1 (some v) h2 (by simp at hn; omega) h1.symm (fun q hq => by cases hq; exact hf), V.above]
        cases (x1 == 7) <;> rfl
    | succ j =>
      obtain ⟨q, hq⟩ : ∃ q, l[j]? = some q := ⟨_, List.getElem?_eq_getElem (by omega)⟩
      have hp' : p = some q := hp.trans hq
      subst hp'
      have hm := List.mem_of_getElem? hq
      rw [L42_succ F n l j x1 x2 x3 x4 v q h1 hq h3 (by omega), hF v h4, Option.bind_some, V.formedL, n50_eq 64 q v (by have := V.mem_hgtL hm; omega) (by have := V.mem_bigL hm; omega), Option.bind_some]
      cases hf : v.formed with
      | false => rfl
      | true =>
        rw [Bool.not_true, cond_false, ih n (j + 1 + 1) (some v) h2 (by simp at hn; omega) h1.symm (fun q hq => by cases hq; exact hf), V.cmp_same q v (hpf q rfl) hf]
        cases (x1 == 7) with
        | false => rfl
        | true =>
          rw [cond_true, cond_true, V.above]
          by_cases hc : q.cmp v < 0
          · rw [decide_eq_false (by omega), cond_false, decide_eq_true hc]; rfl
          · rw [decide_eq_true (by omega : q.cmp v ≥ 0), cond_true, decide_eq_false hc]; rfl
theorem n42_eq : ∀ (k : Nat) (v : V), v.hgt ≤ k → v.hgt ≤ 64 → v.big ≤ 1048576 → n47 k v.tup = some v.formed := by
  intro k
  induction k with
  | zero => intro v h; have := v.hgt_pos; omega
  | succ k ih =>
    intro v h h64 hb
    obtain ⟨k0, i0, m0, t0, l0⟩ := v
    rw [V.hgt] at h h64
    rw [V.big] at hb
    have hll := V.len_bigL l0
    have hL := L42_eq (F := n47 k) (l := l0) (by omega) (by omega) (fun v hv => ih v (by have := V.mem_hgtL hv; omega) (by have := V.mem_hgtL hv; omega) (by have := V.mem_bigL hv; omega)) k0 i0 m0 t0 l0 1000000000000 0 none (by simp) (by omega) rfl (by simp)
    rw [show ((0 : Nat) : Int) = 0 from rfl] at hL
    simp only [V.tup]
    rw [n47, hL, n68_eq (by omega), V.formed]
    simp only [Option.bind_some, n73, n72, ds_length, cond_some, cond_true, cond_false]
    congr 1
    generalize hE : sEq t0 noT = E
    generalize hZ : (((l0.length : Nat) : Int) == 0) = Z
    generalize hI : (i0 == 0) = I
    generalize hM : (m0 == 0) = M
    have hI' : (i0 != 0) = !I := by rw [← hI]; rfl
    have hM' : (m0 != 0) = !M := by rw [← hM]; rfl
    rw [hI', hM']
    cases (k0 == 1) with
    | true => cases E <;> cases Z <;> cases M <;> cases I <;> rfl
    | false =>
      cases (k0 == 2) with
      | true => cases E <;> cases Z <;> cases M <;> cases I <;> rfl
      | false =>
        cases (k0 == 3) with
        | true => cases E <;> cases Z <;> cases M <;> cases I <;> rfl
        | false =>
          cases (k0 == 4) with
          | true => cases E <;> cases Z <;> cases M <;> cases I <;> rfl
          | false =>
            cases h5 : (k0 == 5) <;> cases h6 : (k0 == 6) <;> cases h7 : (k0 == 7) <;> cases E <;> cases M <;> cases I <;> simp only [cond_true, cond_false, Bool.not_true, Bool.not_false] <;> (try cases V.formedL false none l0) <;> (try cases V.formedL true none l0) <;> rfl
def V.right (v : V) : Bool := v.small && v.formed
theorem hgt_small {v : V} (h : v.small = true) : v.hgt ≤ 16 := (of_decide_eq_true h).2
theorem check_eq {v : V} (hb : v.big ≤ 1048576) : n34 v.tup = some (bif v.right then 0 else 40) := by
  have h1 := small_eq hb
  have h2 := fun h => n44_eq 64 v h h hb
  obtain ⟨k, i, m, t, l⟩ := v
  simp only [V.tup, n34] at h1 h2 ⊢
  rw [h1, Option.bind_some]
  unfold V.right
  cases hs : (V.mk k i m t l).small with
  | false => rfl
  | true =>
    have := hgt_small hs
    rw [Bool.not_true, cond_false, h2 (by omega), Option.bind_some]
    cases (V.mk k i m t l).formed <;> rfl
theorem right_eq {v : V} (hb : v.big ≤ 1048576) : n22 v.tup = some v.right := by
  obtain ⟨c, h1, h1'⟩ := counted_eq hb
  have h2 := fun h => n42_eq 64 v h h hb
  obtain ⟨k, i, m, t, l⟩ := v
  simp only [V.tup, n22] at h1 h2 ⊢
  rw [h1, Option.bind_some, h1']
  unfold V.right
  cases hs : (V.mk k i m t l).small with
  | false => rfl
  | true =>
    have := hgt_small hs
    rw [cond_true, h2 (by omega), Option.bind_some]
    rfl
end Ev

set_option linter.unusedSimpArgs false
set_option linter.unusedVariables false
namespace Ev
open Go
structure E where
  k : Int
  p : ByteArray
  o : ByteArray
  q : ByteArray
  v : V
  x : Int
  y : Int
  z : Int
def E.d (e : E) : D := match e.v with
  | .mk a b c t l => .agg [.val (.int .i64 e.k), .val (.string e.p), .val (.string e.o), .val (.string e.q), .val (.int .i64 a), .val (.int .i64 b), .val (.int .i64 c), .val (.string t), .slice (V.ds l), .val (.int .i64 e.x), .val (.int .i64 e.y), .val (.int .i64 e.z)]
def E.big (e : E) : Nat := 1 + e.p.size + e.o.size + e.q.size + e.v.big
theorem lidx_es (l : List E) (i : Nat) : lidx (l.map E.d) (i : Int) = (l[i]?).map E.d := lidx_map ..
end Ev

set_option linter.unusedVariables false
set_option linter.unusedSimpArgs false
set_option maxRecDepth 100000
namespace Ev
open Go Go.ChangeShapes Go.WideShapes Go.ChangeAt Go.RowKit Go.Proofs Go.Proofs.YtpnpdcfojbbglaaGreatDoor
variable {H : Type} {enc : TypeId × Value → H} {w : World}
def i64ok (a : Int) : Prop := -9223372036854775808 ≤ a ∧ a ≤ 9223372036854775807
def E.ok (e : E) : Prop := i64ok e.k ∧ e.v.ok ∧ i64ok e.x ∧ i64ok e.y ∧ i64ok e.z
theorem wf_i64' {a : Int} (w : (Lit.int .i64 a).wf = true) : i64ok a := wf_i64 w
theorem k38 : Tryz.prog.cellsOf 38 = 1 := by kernel_rfl
theorem k3 : Tryz.prog.cellsOf 3 = 1 := by kernel_rfl
theorem k44 : Tryz.prog.cellsOf 44 = 3 := by kernel_rfl
theorem k46 : Tryz.prog.cellsOf 46 = 12 := by kernel_rfl
theorem spot_trod {base : Nat} {sp : Nat → Bool} {held : Bool} {n : Nat} {cs : List Value} {x : DataW H × List MemPlace} (h : DataW.trod enc Tryz.prog w base sp held n 44 cs = some x) :
    ∃ a b c : Int, cs = [.int .i64 a, .int .i64 b, .int .i64 c] ∧ i64ok a ∧ i64ok b ∧ i64ok c := by
  obtain ⟨xs, n', rfl, rfl, hl, hxl, hf⟩ := DataW.trod_struct Tryz.underlying44 h
  rw [k44] at hl
  obtain ⟨c0, c1, c2', rfl⟩ : ∃ c0 c1 c2, cs = [c0, c1, c2] := by
    match cs, hl with
    | [a, b, c], _ => exact ⟨a, b, c, rfl⟩
  obtain ⟨x0, x1, x2, rfl⟩ : ∃ c0 c1 c2, xs = [c0, c1, c2] := by
    have hx : xs.length = 3 := hxl
    match xs, hx with
    | [a, b, c], _ => exact ⟨a, b, c, rfl⟩
  have f0 : DataW.trod enc Tryz.prog w base sp held n' 3 (([c0, c1, c2'].drop 0).take (Tryz.prog.cellsOf 3)) = some x0 := hf 0 _ rfl
  rw [k3] at f0
  have f1 : DataW.trod enc Tryz.prog w base sp held n' 3 (([c0, c1, c2'].drop 1).take (Tryz.prog.cellsOf 3)) = some x1 := hf 1 _ rfl
  rw [k3] at f1
  have f2 : DataW.trod enc Tryz.prog w base sp held n' 3 (([c0, c1, c2'].drop 2).take (Tryz.prog.cellsOf 3)) = some x2 := hf 2 _ rfl
  rw [k3] at f2
  obtain ⟨k, e0, rfl, w0⟩ := DataW.trod_int Tryz.underlying3 f0
  obtain ⟨i, e1, rfl, w1⟩ := DataW.trod_int Tryz.underlying3 f1
  obtain ⟨m, e2, rfl, w2⟩ := DataW.trod_int Tryz.underlying3 f2
  simp at e0 e1 e2
  subst e0; subst e1; subst e2
  exact ⟨_, _, _, rfl, wf_i64' w0, wf_i64' w1, wf_i64' w2⟩
theorem ev_trod {base : Nat} {sp : Nat → Bool} {held : Bool} (p : Pin) (n : Nat) (cs : List Value) (x : DataW H × List MemPlace) (h : DataW.trod enc Tryz.prog w base sp held n 46 cs = some x) : ∃ e : E, e.ok ∧ DRel (allRO w p) e.d (.agg cs.toArray) ∧ cs.length = 12 ∧ e.big ≤ Rows.uptoBulk x.1 := by
  obtain ⟨xs, n', rfl, rfl, hl, hxl, hf⟩ := DataW.trod_struct Tryz.underlying46 h
  rw [k46] at hl
  obtain ⟨c0, c1, c2', c3, c4, c5, c6, c7, c8, c9', c10, c11, rfl⟩ : ∃ c0 c1 c2 c3 c4 c5 c6 c7 c8 c9 c10 c11, cs = [c0, c1, c2, c3, c4, c5, c6, c7, c8, c9, c10, c11] := by
    match cs, hl with
    | [a, b, c, d, e, f, g, h, i, j, k, l], _ => exact ⟨a, b, c, d, e, f, g, h, i, j, k, l, rfl⟩
  obtain ⟨x0, x1, x2, x3, x4, x5, rfl⟩ : ∃ c0 c1 c2 c3 c4 c5, xs = [c0, c1, c2, c3, c4, c5] := by
    have hx : xs.length = 6 := hxl
    match xs, hx with
    | [a, b, c, d, e, f], _ => exact ⟨a, b, c, d, e, f, rfl⟩
  have f0 : DataW.trod enc Tryz.prog w base sp held n' 38 (([c0, c1, c2', c3, c4, c5, c6, c7, c8, c9', c10, c11].drop 0).take (Tryz.prog.cellsOf 38)) = some x0 := hf 0 _ rfl
  rw [k38] at f0
  have f1 : DataW.trod enc Tryz.prog w base sp held n' 9 (([c0, c1, c2', c3, c4, c5, c6, c7, c8, c9', c10, c11].drop 1).take (Tryz.prog.cellsOf 9)) = some x1 := hf 1 _ rfl
  rw [c9] at f1
  have f2 : DataW.trod enc Tryz.prog w base sp held n' 9 (([c0, c1, c2', c3, c4, c5, c6, c7, c8, c9', c10, c11].drop 2).take (Tryz.prog.cellsOf 9)) = some x2 := hf 2 _ rfl
  rw [c9] at f2
  have f3 : DataW.trod enc Tryz.prog w base sp held n' 9 (([c0, c1, c2', c3, c4, c5, c6, c7, c8, c9', c10, c11].drop 3).take (Tryz.prog.cellsOf 9)) = some x3 := hf 3 _ rfl
  rw [c9] at f3
  have f4 : DataW.trod enc Tryz.prog w base sp held n' 42 (([c0, c1, c2', c3, c4, c5, c6, c7, c8, c9', c10, c11].drop 4).take (Tryz.prog.cellsOf 42)) = some x4 := hf 4 _ rfl
  rw [c25] at f4
  have f5 : DataW.trod enc Tryz.prog w base sp held n' 44 (([c0, c1, c2', c3, c4, c5, c6, c7, c8, c9', c10, c11].drop 9).take (Tryz.prog.cellsOf 44)) = some x5 := hf 5 _ rfl
  rw [k44] at f5
  obtain ⟨k, e0, rfl, w0⟩ := DataW.trod_int Tryz.underlying38 f0
  obtain ⟨t1, e1, rfl, w1⟩ := DataW.trod_string Tryz.underlying9 f1
  obtain ⟨t2, e2, rfl, w2⟩ := DataW.trod_string Tryz.underlying9 f2
  obtain ⟨t3, e3, rfl, w3⟩ := DataW.trod_string Tryz.underlying9 f3
  obtain ⟨v, v1, v2, v3, v4⟩ := val_trod p _ _ _ f4
  obtain ⟨a, b, c, e5, wa, wb, wc⟩ := spot_trod f5
  simp at e0 e1 e2 e3 e5
  subst e0; subst e1; subst e2; subst e3
  obtain ⟨rfl, rfl, rfl⟩ := e5
  refine ⟨⟨k, t1, t2, t3, v, a, b, c⟩, ⟨wf_i64' w0, v1, wa, wb, wc⟩, ?_, rfl, ?_⟩
  · obtain ⟨k', i, m, t, l⟩ := v
    rw [V.d_mk] at v2
    simp only [E.d]
    simp only [DRel, DRels] at v2 ⊢
    obtain ⟨us, q1, u0, r0, rfl, o0, h0, u1, r1, rfl, o1, h1, u2, r2, rfl, o2, h2, u3, r3, rfl, o3, h3, u4, r4, rfl, o4, h4, rfl⟩ := v2
    simp at q1
    obtain ⟨rfl, rfl, rfl, rfl, rfl⟩ := q1
    refine ⟨_, rfl, ?_⟩
    exact ⟨_, _, rfl, rfl, ⟨rfl, rfl⟩, _, _, rfl, rfl, ⟨rfl, rfl⟩, _, _, rfl, rfl, ⟨rfl, rfl⟩, _, _, rfl, rfl, ⟨rfl, rfl⟩, _, _, rfl, o0, h0, _, _, rfl, o1, h1, _, _, rfl, o2, h2, _, _, rfl, o3, h3, _, _, rfl, o4, h4, _, _, rfl, rfl, ⟨rfl, rfl⟩, _, _, rfl, rfl, ⟨rfl, rfl⟩, _, _, rfl, rfl, ⟨rfl, rfl⟩, rfl⟩
  · rw [E.big]
    simp only [List.map_cons, List.map_nil, Rows.uptoBulk, Rows.uptoBulkAll]
    have g1 : t1.size = t1.data.toList.length := by simp
    have g2 : t2.size = t2.data.toList.length := by simp
    have g3 : t3.size = t3.data.toList.length := by simp
    omega
theorem open_evs {base b0 : Nat} {sp : Nat → Bool} {held : Bool} {r0 : Reach} {v : Value} {d : DataW H} {ps : List MemPlace} (hval : Value.okWide Tryz.prog w r0 b0 22 v) (hd : DataW.Trod enc Tryz.prog w base sp held 22 v d ps) (p : Pin) :
    ∃ l : List E, (∀ e ∈ l, e.ok) ∧ DRel (allRO w p) (.slice (l.map E.d)) v ∧ (l.map E.big).sum ≤ Rows.uptoBulk d := by
  obtain ⟨A, len, cap, rfl⟩ := okWide_slice Tryz.underlying22 hval
  obtain ⟨n, hn⟩ := hd
  obtain ⟨l, h1, h2, _, h4⟩ := open_row (dd := E.d) (ok := E.ok) (bg := E.big) (sz := 12) Tryz.underlying22 k46 (by omega) p (fun n cs x h => ev_trod p n cs x h) n _ _ hn
  exact ⟨l, h1, h2, h4⟩
theorem evs_len (l : List E) : l.length ≤ (l.map E.big).sum := by
  induction l with
  | nil => simp
  | cons e l ih =>
    rw [List.map_cons, List.sum_cons, List.length_cons]
    have : 1 ≤ e.big := by unfold E.big; omega
    omega
theorem evs_mem {l : List E} : ∀ e ∈ l, e.big ≤ (l.map E.big).sum := by
  induction l with
  | nil => intro e he; cases he
  | cons f l ih =>
    intro e he
    rw [List.map_cons, List.sum_cons]
    rcases List.mem_cons.1 he with rfl | he
    · omega
    · have := ih e he; omega
end Ev

set_option linter.unusedSimpArgs false
set_option linter.unusedVariables false
namespace Ev
open Go
def E.tup (e : E) : Int × ByteArray × ByteArray × ByteArray × Int × Int × Int × ByteArray × List D × Int × Int × Int := match e.v with
  | .mk a b c t l => (e.k, e.p, e.o, e.q, a, b, c, t, V.ds l, e.x, e.y, e.z)
def E.right (e : E) : Bool := bif symB e.p then (bif e.v.right then (bif e.k == 1 then (bif isName e.o then symB e.q else false) else (bif e.k == 2 then (bif sEq e.o noT then sEq e.q noT else false) else false)) else false) else false
theorem n38_sym {s : ByteArray} (hs : s.size ≤ 1048576) : n38 s = some (symB s) := by
  unfold n38
  rw [n107_eq hs]
  unfold symB
  cases isName s <;> rfl
theorem n44_sym {s : ByteArray} (hs : s.size ≤ 1048576) : n44 s = some (symB s) := by
  unfold n44
  rw [n108_eq hs]
  unfold symB
  cases isName s <;> rfl
theorem E.parts {e : E} (hb : e.big ≤ 1048576) : e.p.size ≤ 1048576 ∧ e.o.size ≤ 1048576 ∧ e.q.size ≤ 1048576 ∧ e.v.big ≤ 1048576 := by
  unfold E.big at hb
  exact ⟨by omega, by omega, by omega, by omega⟩
theorem n16_eq {e : E} (hb : e.big ≤ 1048576) : n16 e.tup = some e.right := by
  obtain ⟨hp, ho, hq, hv⟩ := E.parts hb
  obtain ⟨k, p, o, q, ⟨a, b, c, t, l⟩, x, y, z⟩ := e
  have h1 := check_eq hv
  simp only [V.tup] at h1 hp ho hq
  simp only [E.tup, n16, n38_sym hp, Option.bind_some, E.right]
  cases symB p with
  | false => rfl
  | true =>
    rw [Bool.not_true, cond_false, cond_true, h1, Option.bind_some]
    cases (V.mk a b c t l).right with
    | false => rfl
    | true =>
      simp only [cond_true, cond_false, show ((0 : Int) != 0) = false from rfl]
      cases (k == 1) with
      | true =>
        simp only [cond_true]
        rw [n107_eq ho, Option.bind_some]
        cases isName o with
        | false => rfl
        | true => rw [cond_true, cond_true, show ((0 : Int) == 0) = true from rfl, cond_true, n38_sym hq, Option.bind_some]
      | false =>
        simp only [cond_false]
        cases (k == 2) <;> rfl
theorem n20_eq {e : E} (hb : e.big ≤ 1048576) : n20 e.tup = some e.right := by
  obtain ⟨hp, ho, hq, hv⟩ := E.parts hb
  obtain ⟨k, p, o, q, ⟨a, b, c, t, l⟩, x, y, z⟩ := e
  have h1 := right_eq hv
  simp only [V.tup] at h1 hp ho hq
  simp only [E.tup, n20, n44_sym hp, Option.bind_some, E.right]
  cases symB p with
  | false => rfl
  | true =>
    rw [Bool.not_true, cond_false, cond_true, h1, Option.bind_some]
    cases (V.mk a b c t l).right with
    | false => rfl
    | true =>
      simp only [cond_true, cond_false, Bool.not_true]
      cases (k == 1) with
      | true =>
        simp only [cond_true]
        rw [n108_eq ho, Option.bind_some]
        cases isName o with
        | false => rfl
        | true => rw [cond_true, cond_true, n44_sym hq, Option.bind_some]
      | false =>
        simp only [cond_false]
        cases (k == 2) with
        | false => rfl
        | true => simp only [cond_true]
theorem E.right_v {e : E} (h : e.right = true) : e.v.right = true := by
  unfold E.right at h
  cases hv : e.v.right with
  | true => rfl
  | false =>
    rw [hv] at h
    cases hp : symB e.p <;> rw [hp] at h <;> exact h
end Ev

set_option linter.unusedSimpArgs false
set_option linter.unusedVariables false
namespace Ev
open Go
theorem app_assoc (a b c : ByteArray) : (a ++ b) ++ c = a ++ (b ++ c) := by apply ByteArray.ext; simp
theorem app_size (a b : ByteArray) : (a ++ b).size = a.size + b.size := by simp
theorem app_no (a : ByteArray) : a ++ noT = a := by apply ByteArray.ext; simp
theorem no_app (a : ByteArray) : noT ++ a = a := by apply ByteArray.ext; simp
theorem addB {n : Nat} {a b : ByteArray} (hn : n = a.size) (h : a.size + b.size ≤ 1099511627776) : addBOk n a b 1 := ⟨hn, by unfold maxBytes; omega⟩
end Ev

set_option linter.unusedSimpArgs false
set_option linter.unusedVariables false
namespace Ev
open Go
theorem okL_all : ∀ {l : List V}, V.okL l → ∀ v ∈ l, v.ok
  | [], _, v, hv => by cases hv
  | x :: l, h, v, hv => by
    rw [V.okL] at h
    rcases List.mem_cons.1 hv with rfl | hv
    · exact h.1
    · exact okL_all h.2 v hv
end Ev

set_option linter.unusedSimpArgs false
set_option linter.unusedVariables false
namespace Ev
open Go
theorem wu8_range (n : Int) : 0 ≤ wu8 n ∧ wu8 n < 256 := by
  unfold wu8 IntKind.wrap
  simp only [IntKind.signed, IntKind.bits]
  constructor
  · exact Int.emod_nonneg _ (by decide)
  · exact Int.emod_lt_of_pos _ (by decide)
theorem wu8_ok (n : Int) : byteOk (wu8 n) := wu8_range n
theorem bor8_ok (x y : Int) : byteOk (bOr .u8 x y) := by
  unfold bOr
  exact wu8_range _
def b1 (n : Int) : ByteArray := bcons n ByteArray.empty
theorem b1_size (n : Int) : (b1 n).size = 1 := by
  unfold b1 bcons
  rw [app_size]
  rfl
def uLast (u : Nat) : ByteArray := b1 (wu8 (u : Int))
def uMore (u : Nat) : ByteArray := b1 (bOr .u8 (wu8 (u : Int)) 128)
def uvl : Nat → Nat → ByteArray
  | 0, _ => noT
  | k + 1, u => if u < 128 then uLast u else uMore u ++ uvl k (u / 128)
theorem uvl_size : ∀ k u, (uvl k u).size ≤ k
  | 0, u => Nat.le_refl 0
  | k + 1, u => by
    rw [uvl]
    split
    · rw [uLast, b1_size]; omega
    · rw [app_size, uMore, b1_size]
      have := uvl_size k (u / 128); omega
theorem fdiv7 (u : Nat) : (u : Int).fdiv (2 ^ (min (Int.toNat 7) 64)) = ((u / 128 : Nat) : Int) := by
  rw [show ((2 : Int) ^ (min (Int.toNat 7) 64)) = 128 from rfl, Int.fdiv_eq_ediv_of_nonneg _ (by decide)]
  omega
theorem pow128 (k : Nat) : 128 ^ (k + 1) = 128 ^ k * 128 := Nat.pow_succ ..
theorem n85_eq : ∀ (k u : Nat), 1 ≤ k → k ≤ 64 → u < 128 ^ k → n93 k (u : Int) = some (uvl k u)
  | 0, u, h, _, _ => by omega
  | k + 1, u, _, hk, h => by
    rw [n93, uvl]
    by_cases hu : u < 128
    · rw [decide_eq_true (by omega : (u : Int) < 128), cond_true, ask_of (wu8_ok _), if_pos hu]
      rfl
    · have hk0 : 1 ≤ k := by
        rcases Nat.eq_zero_or_pos k with rfl | hk
        · simp at h; omega
        · exact hk
      rw [pow128] at h
      rw [decide_eq_false (by omega : ¬ (u : Int) < 128), cond_false, ask_of (bor8_ok _ _), if_neg hu, fdiv7, n85_eq k (u / 128) hk0 (by omega) (by omega), Option.bind_some]
      have hs := uvl_size k (u / 128)
      have h1 : (bcons (bOr .u8 (wu8 (u : Int)) 128) ByteArray.empty).size = 1 := b1_size _
      rw [ask_of (addB rfl (by omega))]
      rfl
theorem L84_eq : ∀ (k u n : Nat) (acc : ByteArray) (t : Nat), 1 ≤ k → k ≤ 64 → u < 128 ^ k → k < n → acc.size ≤ 4096 - k * 4 →
    ∃ (u' : Nat) (acc' : ByteArray), L26_0 n ((u : Int), acc, t) () = some (O26_0.x0 (u' : Int) acc' t, ()) ∧ acc' ++ uLast u' = acc ++ uvl k u ∧ acc'.size ≤ 4096
  | 0, u, n, acc, t, h, _, _, _, _ => by omega
  | k + 1, u, n, acc, t, _, hk, h, hn, ha => by
    obtain ⟨n, rfl⟩ : ∃ m, n = m + 1 := ⟨n - 1, by omega⟩
    rw [L26_0, uvl]
    by_cases hu : u < 128
    · rw [decide_eq_false (by omega : ¬ (u : Int) ≥ 128), cond_false, ask_of rfl, if_pos hu]
      exact ⟨u, acc, rfl, rfl, by omega⟩
    · have hk0 : 1 ≤ k := by
        rcases Nat.eq_zero_or_pos k with rfl | hk
        · simp at h; omega
        · exact hk
      rw [pow128] at h
      have h1 : (bcons (bOr .u8 (wu8 (u : Int)) 128) ByteArray.empty).size = 1 := b1_size _
      rw [decide_eq_true (by omega : (u : Int) ≥ 128), cond_true, ask_of (bor8_ok _ _), ask_of (addB rfl (by omega)), ask_of (by rw [app_size]), fdiv7, if_neg hu]
      obtain ⟨u', acc', e1, e2, e3⟩ := L84_eq k (u / 128) n (acc ++ bcons (bOr .u8 (wu8 (u : Int)) 128) ByteArray.empty) t hk0 (by omega) (by omega) (by omega) (by rw [app_size]; omega)
      refine ⟨u', acc', e1, ?_, e3⟩
      rw [e2, app_assoc]
      rfl
def uv (u : Nat) : ByteArray := uvl 64 u
theorem uv_size (u : Nat) : (uv u).size ≤ 64 := uvl_size 64 u
theorem n84_eq {u : Nat} (h : u < 18446744073709551616) : n26 (u : Int) = some (uv u) := by
  have hp : u < 128 ^ 64 := Nat.lt_of_lt_of_le h (by decide)
  obtain ⟨u', acc', e1, e2, e3⟩ := L84_eq 64 u 1000000000000 ByteArray.empty 0 (by omega) (by omega) hp (by omega) (by show 0 ≤ _; omega)
  have h1 : (bcons (wu8 (u' : Int)) ByteArray.empty).size = 1 := b1_size _
  rw [n26, ask_of (show ([0, 0] : List Nat) = [0, ByteArray.empty.size] from rfl), e1, Option.bind_some]
  dsimp only
  rw [ask_of (wu8_ok _), ask_of (addB rfl (by omega))]
  have e2' : acc' ++ bcons (wu8 (u' : Int)) ByteArray.empty = noT ++ uvl 64 u := e2
  rw [e2', no_app]
  rfl
theorem n85_64 {u : Nat} (h : u < 18446744073709551616) : n93 64 (u : Int) = some (uv u) := n85_eq 64 u (by omega) (by omega) (Nat.lt_of_lt_of_le h (by decide))
def zz (i : Int) : Nat := if i < 0 then (-2 * i - 1).toNat else (2 * i).toNat
theorem zz_lt {i : Int} (h0 : -9223372036854775808 ≤ i) (h1 : i ≤ 9223372036854775807) : zz i < 18446744073709551616 := by
  unfold zz; split <;> omega
theorem n86_eq {i : Int} (h0 : -9223372036854775808 ≤ i) (h1 : i ≤ 9223372036854775807) : n94 i = some ((zz i : Nat) : Int) := by
  unfold n94 zz
  by_cases h : i < 0
  · rw [decide_eq_true h, cond_true, if_pos h, w64_id (n := i + 1) (by omega) (by omega), w64_id (by omega) (by omega), wu64_id (n := 0 - (i + 1)) (by omega) (by omega), wu64_id (n := 2 * _) (by omega) (by omega), wu64_id (by omega) (by omega)]
    congr 1; omega
  · rw [decide_eq_false h, cond_false, if_neg h, wu64_id (n := i) (by omega) (by omega), wu64_id (by omega) (by omega)]
    congr 1; omega
theorem bnot64 {x : Int} (h0 : 0 ≤ x) (h1 : x < 18446744073709551616) : bXor .u64 18446744073709551615 x = 18446744073709551615 - x := by
  obtain ⟨n, rfl⟩ : ∃ n : Nat, x = n := ⟨x.toNat, by omega⟩
  have e : (BitVec.ofInt 64 18446744073709551615) ^^^ (BitVec.ofInt 64 (n : Int)) = ~~~ (BitVec.ofNat 64 n) := by
    rw [show BitVec.ofInt 64 18446744073709551615 = BitVec.allOnes 64 by decide, BitVec.ofInt_natCast, BitVec.allOnes_xor]
  have e2 : (~~~ (BitVec.ofNat 64 n)).toNat = 18446744073709551615 - n := by
    rw [BitVec.toNat_not, BitVec.toNat_ofNat, Nat.mod_eq_of_lt (by omega)]
  show IntKind.u64.wrap ((BitVec.ofInt 64 18446744073709551615) ^^^ (BitVec.ofInt 64 (n : Int))).toNat = _
  rw [e, e2]
  have := wu64_id (n := ((18446744073709551615 - n : Nat) : Int)) (by omega) (by omega)
  unfold wu64 at this
  rw [this]
  omega
theorem n82_eq {i : Int} (h0 : -9223372036854775808 ≤ i) (h1 : i ≤ 9223372036854775807) : n92 i = some (uv (zz i)) := by
  have hz := zz_lt h0 h1
  have hm : ∀ x : Int, x * 2 ^ (min (Int.toNat 1) 64) = x * 2 := fun x => by rw [show (2 : Int) ^ (min (Int.toNat 1) 64) = 2 from rfl]
  unfold n92
  by_cases h : i < 0
  · have e1 : wu64 i = i + 18446744073709551616 := by
      unfold wu64 IntKind.wrap
      simp only [IntKind.signed, IntKind.bits]
      have : (i % 18446744073709551616) = i + 18446744073709551616 := by omega
      simpa using this
    have e2 : wu64 ((i + 18446744073709551616) * 2) = 2 * i + 18446744073709551616 := by
      unfold wu64 IntKind.wrap
      simp only [IntKind.signed, IntKind.bits]
      have : ((i + 18446744073709551616) * 2) % 18446744073709551616 = 2 * i + 18446744073709551616 := by omega
      simpa using this
    have e3 : 18446744073709551615 - (2 * i + 18446744073709551616) = ((zz i : Nat) : Int) := by unfold zz; rw [if_pos h]; omega
    rw [decide_eq_true h, cond_true, hm, e1, e2, bnot64 (by omega) (by omega), e3, n84_eq hz]
    rfl
  · have e3 : i * 2 = ((zz i : Nat) : Int) := by unfold zz; rw [if_neg h]; omega
    rw [decide_eq_false h, cond_false, hm, wu64_id (n := i) (by omega) (by omega), e3, wu64_id (by omega) (by omega), n84_eq hz]
    rfl
end Ev

set_option linter.unusedSimpArgs false
set_option linter.unusedVariables false
namespace Ev
open Go
mutual
def V.lay : V → ByteArray
  | .mk k i m t l => b1 (wu8 k) ++ (bif (k == 2) then uv (zz i) else bif (k == 1) then b1 (wu8 i) else bif (k == 4) then uv t.size ++ t else bif (k == 3) then uv (zz i) ++ uv (zz m) else uv l.length ++ V.layL l)
def V.layL : List V → ByteArray
  | [] => noT
  | v :: l => v.lay ++ V.layL l
end
mutual
theorem V.lay_size : ∀ v : V, v.lay.size ≤ 256 * v.big
  | .mk k i m t l => by
    have h := V.layL_size l
    have s1 := uv_size (zz i)
    have s2 := uv_size (zz m)
    have s3 := uv_size t.size
    have s4 := uv_size l.length
    have s5 := b1_size (wu8 k)
    have s6 := b1_size (wu8 i)
    rw [V.lay, V.big, app_size]
    cases (k == 2) <;> cases (k == 1) <;> cases (k == 4) <;> cases (k == 3) <;> simp only [cond_true, cond_false, app_size] <;> omega
theorem V.layL_size : ∀ l : List V, (V.layL l).size ≤ 256 * V.bigL l
  | [] => by rw [V.layL]; exact Nat.zero_le _
  | v :: l => by
    have h1 := V.lay_size v
    have h2 := V.layL_size l
    rw [V.layL, V.bigL, app_size]; omega
end
abbrev F52 := ByteArray × Int × Int × Int × ByteArray × List D × Nat → Option (ByteArray × Nat)
def P52 (F : F52) (v : V) : Prop := ∀ buf : ByteArray, buf.size + v.lay.size ≤ 1099511627776 → F (buf, v.tup.1, v.tup.2.1, v.tup.2.2.1, v.tup.2.2.2.1, v.tup.2.2.2.2, buf.size) = some (buf ++ v.lay, (buf ++ v.lay).size)
theorem L52_step (F : F52) (n : Nat) (buf : ByteArray) (l : List V) (i : Nat) (len : Int) (x1 x2 x3 : Int) (x4 : ByteArray) (x5 : List D) (k23 k24 : Nat) (k im mm : Int) (t : ByteArray) (s : List V) (h : l[i]? = some (.mk k im mm t s)) (hi : (i : Int) < len) :
    L59_1 F (n + 1) (buf, V.ds l, len, (i : Int), x1, x2, x3, x4, x5, k23, k24) () = ((F (buf, k, im, mm, t, V.ds s, buf.size)).bind fun y36 => (ask (([y36.2, k23, k24] : List Nat) = [y36.1.size, k23, k24]) (L59_1 F n (y36.1, V.ds l, len, (w64 ((i : Int) + 1)), x1, x2, x3, x4, x5, k23, k24) ()))) := by
  rw [L59_1, lidx_ds, h, Option.map_some, Option.bind_some, V.d_mk, decide_eq_true hi, cond_true]
  rfl
theorem L52_eq {F : F52} {l : List V} (hl : l.length ≤ 1048576) (hF : ∀ v ∈ l, P52 F v) (x1 x2 x3 : Int) (x4 : ByteArray) (x5 : List D) (k23 k24 : Nat) : ∀ (rest : List V) (n i : Nat) (buf : ByteArray), l.drop i = rest → rest.length < n → buf.size + (V.layL rest).size ≤ 1099511627776 →
    L59_1 F n (buf, V.ds l, ((l.length : Nat) : Int), (i : Int), x1, x2, x3, x4, x5, k23, k24) () = some (O59_1.x0 (buf ++ V.layL rest) x1 x2 x3 x4 x5 k23 k24, ()) := by
  intro rest
  induction rest with
  | nil =>
    intro n i buf hr hn hb
    obtain ⟨n, rfl⟩ : ∃ m, n = m + 1 := ⟨n - 1, by simp at hn; omega⟩
    have := drop_nil hr
    rw [L59_1, decide_eq_false (by omega), cond_false, V.layL, app_no]
    exact ask_of rfl
  | cons v rest ih =>
    intro n i buf hr hn hb
    obtain ⟨n, rfl⟩ : ∃ m, n = m + 1 := ⟨n - 1, by simp at hn; omega⟩
    obtain ⟨h1, h2, h3, h4⟩ := drop_cons hr
    have hf := hF v h4
    rw [V.layL, app_size] at hb
    obtain ⟨k, im, mm, t, s⟩ := v
    unfold P52 at hf
    simp only [V.tup] at hf
    rw [L52_step F n buf l i _ x1 x2 x3 x4 x5 k23 k24 k im mm t s h1 (by omega), V.layL, hf buf (by omega), Option.bind_some]
    dsimp only
    rw [ask_of rfl, next_idx (by omega), ih n (i + 1) _ h2 (by simp at hn; omega) (by rw [app_size]; omega), app_assoc]
theorem wlen {n : Nat} (h : n ≤ 1048576) : wu64 ((n : Nat) : Int) = ((n : Nat) : Int) := wu64_id (by omega) (by omega)
theorem n83_eq {t : ByteArray} (h : t.size ≤ 1048576) (hO : nO26 ((t.size : Nat) : Int) = some (uv t.size)) : n27 t = some (uv t.size ++ t) := by
  have := uv_size t.size
  rw [n27, wlen h, hO, Option.bind_some, ask_of (addB rfl (by omega))]
theorem LO84_eq : ∀ (n : Nat) (a : Int) (acc : ByteArray) (t : Nat), (LO26_0 n (a, acc, t) () : Option (OO26_0 × Unit)).map (fun p => match p.1 with | .x0 x y z => (x, y, z)) = (L26_0 n (a, acc, t) () : Option (O26_0 × Unit)).map (fun p => match p.1 with | .x0 x y z => (x, y, z))
  | 0, a, acc, t => rfl
  | n + 1, a, acc, t => by
    rw [LO26_0, L26_0]
    cases decide (a ≥ 128) with
    | false =>
      rw [cond_false, cond_false]
      rw [ask_of rfl, ask_of rfl]
      rfl
    | true =>
      rw [cond_true, cond_true]
      unfold ask
      split
      · split
        · split
          · exact LO84_eq n _ _ _
          · rfl
        · rfl
      · rfl
theorem nO84_eq {u : Nat} (h : u < 18446744073709551616) : nO26 (u : Int) = some (uv u) := by
  have hp : u < 128 ^ 64 := Nat.lt_of_lt_of_le h (by decide)
  obtain ⟨u', acc', e1, e2, e3⟩ := L84_eq 64 u 1000000000000 ByteArray.empty 0 (by omega) (by omega) hp (by omega) (by show 0 ≤ _; omega)
  have e4 := LO84_eq 1000000000000 (u : Int) ByteArray.empty 0
  rw [e1] at e4
  have h1 : (bcons (wu8 (u' : Int)) ByteArray.empty).size = 1 := b1_size _
  have e5 : LO26_0 1000000000000 ((u : Int), ByteArray.empty, 0) () = some (OO26_0.x0 (u' : Int) acc' 0, ()) := by
    cases hq : (LO26_0 1000000000000 ((u : Int), ByteArray.empty, 0) () : Option (OO26_0 × Unit)) with
    | none => rw [hq] at e4; cases e4
    | some p =>
      rw [hq] at e4
      obtain ⟨⟨x, y, z⟩, ⟨⟩⟩ := p
      simp only [Option.map_some, Option.some.injEq, Prod.mk.injEq] at e4
      obtain ⟨rfl, rfl, rfl⟩ := e4
      rfl
  rw [nO26, ask_of (show ([0, 0] : List Nat) = [0, ByteArray.empty.size] from rfl), e5, Option.bind_some]
  dsimp only
  have e2' : acc' ++ bcons (wu8 (u' : Int)) ByteArray.empty = noT ++ uvl 64 u := e2
  have hz : (acc' ++ bcons (wu8 (u' : Int)) ByteArray.empty).size = acc'.size + (bcons (wu8 (u' : Int)) ByteArray.empty).size := app_size _ _
  rw [ask_of (wu8_ok _), ask_of (addB rfl (by omega)), ask_of (by simp only [app_size])]
  rw [e2', no_app]
  rfl
theorem n52_eq : ∀ (k : Nat) (v : V), v.hgt ≤ k → v.big ≤ 1048576 → v.ok → P52 (n59 k) v := by
  intro k
  induction k with
  | zero => intro v h; have := v.hgt_pos; omega
  | succ k ih =>
    intro v h hb hok buf hsz
    obtain ⟨k0, i0, m0, t0, l0⟩ := v
    rw [V.hgt] at h
    rw [V.big] at hb
    rw [V.ok] at hok
    obtain ⟨_, ⟨a1, a2⟩, ⟨b1', b2⟩, hokl⟩ := hok
    have hll := V.len_bigL l0
    simp only [V.tup]
    have s5 : (bcons (wu8 k0) ByteArray.empty).size = 1 := b1_size _
    have s6 : (bcons (wu8 i0) ByteArray.empty).size = 1 := b1_size _
    have s1 := uv_size (zz i0)
    have s2 := uv_size (zz m0)
    have s3 := uv_size t0.size
    have s4 := uv_size l0.length
    have g1 := n82_eq a1 a2
    have g2 := n82_eq b1' b2
    rw [V.lay, app_size, b1_size] at hsz
    rw [n59, ask_of (wu8_ok _), ask_of (addB rfl (by omega)), V.lay]
    cases h2 : (k0 == 2) with
    | true =>
      rw [cond_true, cond_true, g1, Option.bind_some]
      rw [h2, cond_true] at hsz
      rw [ask_of (addB (by simp only [app_size]) (by rw [app_size]; omega))]
      simp only [app_assoc, app_size, Nat.add_assoc, b1]
    | false =>
      rw [cond_false, cond_false]
      rw [h2, cond_false] at hsz
      cases h1 : (k0 == 1) with
      | true =>
        rw [cond_true, cond_true, ask_of (wu8_ok _)]
        rw [h1, cond_true, b1_size] at hsz
        rw [ask_of (addB (by simp only [app_size]) (by rw [app_size]; omega))]
        simp only [app_assoc, app_size, Nat.add_assoc, b1]
      | false =>
        rw [cond_false, cond_false]
        rw [h1, cond_false] at hsz
        cases h4 : (k0 == 4) with
        | true =>
          rw [h4, cond_true, app_size] at hsz
          rw [cond_true, cond_true, n83_eq (by omega) (nO84_eq (by omega)), Option.bind_some]
          rw [ask_of (addB (by simp only [app_size]) (by rw [app_size, app_size]; omega))]
          simp only [app_assoc, app_size, Nat.add_assoc, b1]
        | false =>
          rw [cond_false, cond_false]
          rw [h4, cond_false] at hsz
          cases h3 : (k0 == 3) with
          | true =>
            rw [h3, cond_true, app_size] at hsz
            rw [cond_true, cond_true, g1, Option.bind_some, ask_of (addB (by simp only [app_size]) (by rw [app_size]; omega)), g2, Option.bind_some, ask_of (addB (by simp only [app_size]) (by rw [app_size, app_size]; omega))]
            simp only [app_assoc, app_size, Nat.add_assoc, b1]
          | false =>
            rw [h3, cond_false, app_size] at hsz
            rw [cond_false, cond_false, ds_length, wlen (by omega), n84_eq (by omega), Option.bind_some, ask_of (addB (by simp only [app_size]) (by rw [app_size]; omega)), ask_of (by simp only [app_size])]
            have hL := L52_eq (F := n59 k) (l := l0) (by omega) (fun v hv => ih v (by have := V.mem_hgtL hv; omega) (by have := V.mem_bigL hv; omega) (okL_all hokl v hv)) k0 i0 m0 t0 (V.ds l0) 0 (bcons (wu8 k0) ByteArray.empty).size l0 1000000000000 0 ((buf ++ bcons (wu8 k0) ByteArray.empty) ++ uv l0.length) (by simp) (by omega) (by rw [app_size, app_size]; omega)
            rw [show ((0 : Nat) : Int) = 0 from rfl] at hL
            rw [hL, Option.bind_some]
            dsimp only
            simp only [app_assoc, app_size, Nat.add_assoc, b1]
end Ev

set_option linter.unusedSimpArgs false
set_option linter.unusedVariables false
namespace Ev
open Go
end Ev

set_option linter.unusedSimpArgs false
set_option linter.unusedVariables false
namespace Ev
open Go
abbrev F53 := Int × Int × Int × ByteArray × List D → Option ByteArray
theorem L53_step (F : F53) (n : Nat) (buf : ByteArray) (l : List V) (i : Nat) (x1 x2 x3 : Int) (x4 : ByteArray) (k21 : Nat) (v : V) (h : l[i]? = some v) (hi : i < l.length) :
    L60_1 F (n + 1) (buf, (i : Int), x1, x2, x3, x4, V.ds l, k21) () = ((F v.tup).bind fun y33 => (ask (addBOk buf.size buf y33 1) (ask (([k21, (buf.size + y33.size)] : List Nat) = [k21, (buf ++ y33).size]) (L60_1 F n ((buf ++ y33), (w64 ((i : Int) + 1)), x1, x2, x3, x4, V.ds l, k21) ())))) := by
  obtain ⟨k, im, mm, t, s⟩ := v
  rw [L60_1, lidx_ds, h, Option.map_some, Option.bind_some, V.d_mk, ds_length, decide_eq_true (by omega : (i : Int) < ((l.length : Nat) : Int)), cond_true]
  rfl
theorem L53_eq {F : F53} {l : List V} (hl : l.length ≤ 1048576) (hF : ∀ v ∈ l, F v.tup = some v.lay) (x1 x2 x3 : Int) (x4 : ByteArray) (k21 : Nat) : ∀ (rest : List V) (n i : Nat) (buf : ByteArray), l.drop i = rest → rest.length < n → buf.size + (V.layL rest).size ≤ 1099511627776 →
    L60_1 F n (buf, (i : Int), x1, x2, x3, x4, V.ds l, k21) () = some (O60_1.x0 (buf ++ V.layL rest) x1 x2 x3 x4 (V.ds l) k21, ()) := by
  intro rest
  induction rest with
  | nil =>
    intro n i buf hr hn hb
    obtain ⟨n, rfl⟩ : ∃ m, n = m + 1 := ⟨n - 1, by simp at hn; omega⟩
    have := drop_nil hr
    rw [L60_1, ds_length, decide_eq_false (by omega), cond_false, V.layL, app_no]
    exact ask_of rfl
  | cons v rest ih =>
    intro n i buf hr hn hb
    obtain ⟨n, rfl⟩ : ∃ m, n = m + 1 := ⟨n - 1, by simp at hn; omega⟩
    obtain ⟨h1, h2, h3, h4⟩ := drop_cons hr
    rw [V.layL, app_size] at hb
    rw [L53_step F n buf l i x1 x2 x3 x4 k21 v h1 h3, hF v h4, Option.bind_some, ask_of (addB rfl (by omega)), ask_of (by simp only [app_size]), next_idx (by omega), ih n (i + 1) _ h2 (by simp at hn; omega) (by rw [app_size]; omega), V.layL, app_assoc]
theorem n53_eq : ∀ (k : Nat) (v : V), v.hgt ≤ k → v.big ≤ 1048576 → v.ok → n60 k v.tup = some v.lay := by
  intro k
  induction k with
  | zero => intro v h; have := v.hgt_pos; omega
  | succ k ih =>
    intro v h hb hok
    have hls := V.lay_size v
    obtain ⟨k0, i0, m0, t0, l0⟩ := v
    rw [V.hgt] at h
    have hb0 := hb
    rw [V.big] at hb
    rw [V.ok] at hok
    obtain ⟨_, ⟨a1, a2⟩, ⟨c1, c2⟩, hokl⟩ := hok
    have hll := V.len_bigL l0
    have hlz := V.layL_size l0
    simp only [V.tup]
    have s5 : (bcons (wu8 k0) ByteArray.empty).size = 1 := b1_size _
    have s6 : (bcons (wu8 i0) ByteArray.empty).size = 1 := b1_size _
    have s1 := uv_size (zz i0)
    have s2 := uv_size (zz m0)
    have s3 := uv_size t0.size
    have s4 := uv_size l0.length
    have g1 := n86_eq a1 a2
    have g2 := n86_eq c1 c2
    have g3 := n85_64 (zz_lt a1 a2)
    have g4 := n85_64 (zz_lt c1 c2)
    rw [n60, ask_of (wu8_ok _), V.lay]
    cases h1 : (k0 == 1) with
    | true =>
      have e : k0 = 1 := by simpa using h1
      subst e
      rw [cond_true, ask_of (wu8_ok _), ask_of (addB rfl (by omega))]
      rfl
    | false =>
      rw [cond_false]
      cases h2 : (k0 == 2) with
      | true =>
        rw [cond_true, cond_true, g1, Option.bind_some, g3, Option.bind_some, ask_of (addB rfl (by omega))]
        rfl
      | false =>
        rw [cond_false, cond_false, cond_false]
        cases h3 : (k0 == 3) with
        | true =>
          have e : k0 = 3 := by simpa using h3
          subst e
          rw [cond_true, g1, Option.bind_some, g3, Option.bind_some, ask_of (addB rfl (by omega)), g2, Option.bind_some, g4, Option.bind_some, ask_of (addB (by simp only [app_size]) (by rw [app_size]; omega)), app_assoc]
          rfl
        | false =>
          rw [cond_false]
          cases h4 : (k0 == 4) with
          | true =>
            rw [cond_true, cond_true, wlen (by omega), n85_64 (by omega), Option.bind_some, ask_of (addB rfl (by omega)), ask_of (addB (by simp only [app_size]) (by rw [app_size]; omega)), app_assoc]
            rfl
          | false =>
            rw [cond_false, cond_false, cond_false, ds_length, wlen (by omega), n85_64 (by omega), Option.bind_some, ask_of (addB rfl (by omega)), ask_of (by simp only [app_size])]
            have hL := L53_eq (F := n60 k) (l := l0) (by omega) (fun v hv => ih v (by have := V.mem_hgtL hv; omega) (by have := V.mem_bigL hv; omega) (okL_all hokl v hv)) k0 i0 m0 t0 0 l0 1000000000000 0 (bcons (wu8 k0) ByteArray.empty ++ uv l0.length) (by simp) (by omega) (by rw [app_size]; omega)
            rw [show ((0 : Nat) : Int) = 0 from rfl] at hL
            rw [hL, Option.bind_some]
            dsimp only
            rw [app_assoc]
            rfl
theorem LZ52_step (n : Nat) (buf : ByteArray) (l : List V) (i : Nat) (len : Int) (x1 x2 x3 : Int) (x4 : ByteArray) (x5 : List D) (k20 k21 : Nat) (k im mm : Int) (t : ByteArray) (s : List V) (h : l[i]? = some (.mk k im mm t s)) (hi : (i : Int) < len) :
    LZ59_1 (n + 1) (buf, V.ds l, len, (i : Int), x1, x2, x3, x4, x5, k20, k21) () = ((n59 64 (buf, k, im, mm, t, V.ds s, buf.size)).bind fun y33 => (ask (([k20, k21, y33.2] : List Nat) = [k20, k21, y33.1.size]) (LZ59_1 n (y33.1, V.ds l, len, (w64 ((i : Int) + 1)), x1, x2, x3, x4, x5, k20, k21) ()))) := by
  rw [LZ59_1, lidx_ds, h, Option.map_some, Option.bind_some, V.d_mk, decide_eq_true hi, cond_true]
  rfl
theorem LZ52_eq {l : List V} (hl : l.length ≤ 1048576) (hF : ∀ v ∈ l, P52 (n59 64) v) (x1 x2 x3 : Int) (x4 : ByteArray) (x5 : List D) (k20 k21 : Nat) : ∀ (rest : List V) (n i : Nat) (buf : ByteArray), l.drop i = rest → rest.length < n → buf.size + (V.layL rest).size ≤ 1099511627776 →
    LZ59_1 n (buf, V.ds l, ((l.length : Nat) : Int), (i : Int), x1, x2, x3, x4, x5, k20, k21) () = some (OZ59_1.x0 (buf ++ V.layL rest) x1 x2 x3 x4 x5 k20 k21, ()) := by
  intro rest
  induction rest with
  | nil =>
    intro n i buf hr hn hb
    obtain ⟨n, rfl⟩ : ∃ m, n = m + 1 := ⟨n - 1, by simp at hn; omega⟩
    have := drop_nil hr
    rw [LZ59_1, decide_eq_false (by omega), cond_false, V.layL, app_no]
    exact ask_of rfl
  | cons v rest ih =>
    intro n i buf hr hn hb
    obtain ⟨n, rfl⟩ : ∃ m, n = m + 1 := ⟨n - 1, by simp at hn; omega⟩
    obtain ⟨h1, h2, h3, h4⟩ := drop_cons hr
    have hf := hF v h4
    rw [V.layL, app_size] at hb
    obtain ⟨k, im, mm, t, s⟩ := v
    unfold P52 at hf
    simp only [V.tup] at hf
    rw [LZ52_step n buf l i _ x1 x2 x3 x4 x5 k20 k21 k im mm t s h1 (by omega), V.layL, hf buf (by omega), Option.bind_some]
    dsimp only
    rw [ask_of rfl, next_idx (by omega), ih n (i + 1) _ h2 (by simp at hn; omega) (by rw [app_size]; omega), app_assoc]
theorem newB {b : ByteArray} (h0 : b.size ≠ 0) (h : b.size ≤ 1099511627776) : newBOk b 1 := ⟨h0, by unfold maxBytes; omega⟩
theorem nZ52_eq {v : V} (h : v.hgt ≤ 64) (hb : v.big ≤ 1048576) (hok : v.ok) : nZ59 v.tup = some v.lay := by
  have hls := V.lay_size v
  obtain ⟨k0, i0, m0, t0, l0⟩ := v
  rw [V.hgt] at h
  rw [V.big] at hb
  rw [V.ok] at hok
  obtain ⟨_, ⟨a1, a2⟩, ⟨c1, c2⟩, hokl⟩ := hok
  have hll := V.len_bigL l0
  have hlz := V.layL_size l0
  simp only [V.tup]
  have s5 : (bcons (wu8 k0) ByteArray.empty).size = 1 := b1_size _
  have s6 : (bcons (wu8 i0) ByteArray.empty).size = 1 := b1_size _
  have s1 := uv_size (zz i0)
  have s2 := uv_size (zz m0)
  have s3 := uv_size t0.size
  have s4 := uv_size l0.length
  have g1 := n82_eq a1 a2
  have g2 := n82_eq c1 c2
  rw [nZ59, ask_of (wu8_ok _), ask_of (newB (by omega) (by omega)), V.lay]
  cases h2 : (k0 == 2) with
  | true =>
    rw [cond_true, cond_true, g1, Option.bind_some, ask_of (addB rfl (by omega)), ask_of (by simp only [app_size])]
    rfl
  | false =>
    rw [cond_false, cond_false]
    cases h1 : (k0 == 1) with
    | true =>
      rw [cond_true, cond_true, ask_of (wu8_ok _), ask_of (addB rfl (by omega)), ask_of (by simp only [app_size])]
      rfl
    | false =>
      rw [cond_false, cond_false]
      cases h4 : (k0 == 4) with
      | true =>
        rw [cond_true, cond_true, n83_eq (by omega) (nO84_eq (by omega)), Option.bind_some, ask_of (addB rfl (by rw [app_size]; omega)), ask_of (by simp only [app_size])]
        rfl
      | false =>
        rw [cond_false, cond_false]
        cases h3 : (k0 == 3) with
        | true =>
          rw [cond_true, cond_true, g1, Option.bind_some, ask_of (addB rfl (by omega)), g2, Option.bind_some, ask_of (addB (by simp only [app_size]) (by rw [app_size]; omega)), ask_of (by simp only [app_size]), app_assoc]
          rfl
        | false =>
          rw [cond_false, cond_false, ds_length, wlen (by omega), n84_eq (by omega), Option.bind_some, ask_of (addB rfl (by omega)), ask_of (by simp only [app_size])]
          have hL := LZ52_eq (l := l0) (by omega) (fun v hv => n52_eq 64 v (by have := V.mem_hgtL hv; omega) (by have := V.mem_bigL hv; omega) (okL_all hokl v hv)) k0 i0 m0 t0 (V.ds l0) 0 (bcons (wu8 k0) ByteArray.empty).size l0 1000000000000 0 (bcons (wu8 k0) ByteArray.empty ++ uv l0.length) (by simp) (by omega) (by rw [app_size]; omega)
          rw [show ((0 : Nat) : Int) = 0 from rfl] at hL
          rw [hL, Option.bind_some]
          dsimp only
          rw [ask_of rfl, app_assoc]
          rfl
def V.enc (v : V) : ByteArray × Int := bif v.right then (v.lay, 0) else (noT, 40)
theorem right_small {v : V} (h : v.right = true) : v.hgt ≤ 16 := hgt_small ((Bool.and_eq_true _ _ ▸ h : _ ∧ _)).1
theorem encode_eq {v : V} (hb : v.big ≤ 1048576) (hok : v.ok) : n28 v.tup = some v.enc := by
  have h1 := check_eq hb
  cases hr : v.right with
  | false =>
    rw [hr] at h1
    have he : v.enc = (noT, 40) := by unfold V.enc; rw [hr]; rfl
    rw [he]
    obtain ⟨k, i, m, t, l⟩ := v
    simp only [V.tup, n28] at h1 ⊢
    rw [h1, Option.bind_some]
    rfl
  | true =>
    rw [hr] at h1
    have h3 := nZ52_eq (by have := right_small hr; omega) hb hok
    have he : v.enc = (v.lay, 0) := by unfold V.enc; rw [hr]; rfl
    rw [he]
    generalize v.lay = T at *
    obtain ⟨k, i, m, t, l⟩ := v
    simp only [V.tup, n28] at h1 h3 ⊢
    rw [h1, Option.bind_some]
    simp only [cond_true, show ((0 : Int) != 0) = false from rfl, cond_false]
    rw [h3, Option.bind_some]
theorem encodeR_eq {v : V} (hb : v.big ≤ 1048576) (hok : v.ok) : n31 v.tup = some v.enc := by
  have h1 := right_eq hb
  cases hr : v.right with
  | false =>
    rw [hr] at h1
    have he : v.enc = (noT, 40) := by unfold V.enc; rw [hr]; rfl
    rw [he]
    obtain ⟨k, i, m, t, l⟩ := v
    simp only [V.tup, n31] at h1 ⊢
    rw [h1, Option.bind_some]
    rfl
  | true =>
    rw [hr] at h1
    have h3 := n53_eq 64 v (by have := right_small hr; omega) hb hok
    have he : v.enc = (v.lay, 0) := by unfold V.enc; rw [hr]; rfl
    rw [he]
    generalize v.lay = T at *
    obtain ⟨k, i, m, t, l⟩ := v
    simp only [V.tup, n31] at h1 h3 ⊢
    rw [h1, Option.bind_some]
    simp only [cond_true, Bool.not_true, cond_false]
    rw [h3, Option.bind_some]
theorem rowBytes_of (b : ByteArray) : rowBytes b.size (bytesD b) = some b := by
  unfold rowBytes
  rw [if_pos (bytesD_len b)]
  have : ∀ l : List UInt8, toBytes (l.map fun x => D.val (.int .u8 x.toNat)) = some ⟨l.toArray⟩ := by
    intro l
    induction l with
    | nil => rfl
    | cons x l ih =>
      have hx := x.toNat_lt
      rw [List.map_cons, toBytes, ih]
      dsimp only
      rw [if_pos ⟨by omega, by omega⟩]
      have : ((x.toNat : Int).toNat.toUInt8) = x := by simp
      rw [this]
      congr 1
  unfold bytesD
  rw [this]
end Ev

set_option linter.unusedSimpArgs false
set_option linter.unusedVariables false
namespace Ev
open Go
theorem n29_eq : ∀ (k u : Nat), 1 ≤ k → k ≤ 64 → u < 128 ^ k → n29 k (u : Int) = some (uvl k u)
  | 0, u, h, _, _ => by omega
  | k + 1, u, _, hk, h => by
    rw [n29, uvl]
    by_cases hu : u < 128
    · rw [decide_eq_true (by omega : (u : Int) < 128), cond_true, ask_of (wu8_ok _), if_pos hu]
      rfl
    · have hk0 : 1 ≤ k := by
        rcases Nat.eq_zero_or_pos k with rfl | hk
        · simp at h; omega
        · exact hk
      rw [pow128] at h
      rw [decide_eq_false (by omega : ¬ (u : Int) < 128), cond_false, ask_of (bor8_ok _ _), if_neg hu, fdiv7, n29_eq k (u / 128) hk0 (by omega) (by omega), Option.bind_some]
      have hs := uvl_size k (u / 128)
      have h1 : (bcons (bOr .u8 (wu8 (u : Int)) 128) ByteArray.empty).size = 1 := b1_size _
      rw [ask_of (addB rfl (by omega))]
      rfl
theorem uvl_more : ∀ (k u : Nat), 1 ≤ k → u < 128 ^ k → uvl (k + 1) u = uvl k u
  | 0, u, h, _ => by omega
  | k + 1, u, _, h => by
    rw [show uvl (k + 1 + 1) u = if u < 128 then uLast u else uMore u ++ uvl (k + 1) (u / 128) from rfl, show uvl (k + 1) u = if u < 128 then uLast u else uMore u ++ uvl k (u / 128) from rfl]
    by_cases hu : u < 128
    · rw [if_pos hu, if_pos hu]
    · have hk0 : 1 ≤ k := by
        rcases Nat.eq_zero_or_pos k with rfl | hk
        · simp at h; omega
        · exact hk
      rw [pow128] at h
      rw [if_neg hu, if_neg hu, uvl_more k (u / 128) hk0 (by omega)]
theorem n29_64 {u : Nat} (h : u < 18446744073709551616) : n29 64 (u : Int) = some (uv u) := n29_eq 64 u (by omega) (by omega) (Nat.lt_of_lt_of_le h (by decide))
theorem nO29_eq {u : Nat} (h : u < 18446744073709551616) : nO29 (u : Int) = some (uv u) := by
  have hp : u < 128 ^ 64 := Nat.lt_of_lt_of_le h (by decide)
  have hu2 : uv u = uvl 65 u := (uvl_more 64 u (by omega) hp).symm
  rw [nO29, hu2, uvl]
  by_cases hu : u < 128
  · rw [decide_eq_true (by omega : (u : Int) < 128), cond_true, ask_of (wu8_ok _), ask_of rfl, if_pos hu]
    rfl
  · rw [decide_eq_false (by omega : ¬ (u : Int) < 128), cond_false, ask_of (bor8_ok _ _), if_neg hu, fdiv7, n29_eq 64 (u / 128) (by omega) (by omega) (by omega), Option.bind_some]
    have hs := uvl_size 64 (u / 128)
    have h1 : (bcons (bOr .u8 (wu8 (u : Int)) 128) ByteArray.empty).size = 1 := b1_size _
    rw [ask_of (addB rfl (by omega)), ask_of (by rw [app_size])]
    rfl
def nm (t : ByteArray) : ByteArray := uv t.size ++ t
theorem nm_size (t : ByteArray) : (nm t).size ≤ 64 + t.size := by unfold nm; rw [app_size]; have := uv_size t.size; omega
theorem n27_nm {t : ByteArray} (h : t.size ≤ 1048576) : n27 t = some (nm t) := n83_eq h (nO84_eq (by omega))
theorem n30_nm {b t : ByteArray} (h : t.size ≤ 1048576) (hb : b.size ≤ 549755813888) : n30 (b, t, b.size) = some (b ++ nm t, (b ++ nm t).size) := by
  have hu := uv_size t.size
  rw [n30, n29_64 (by omega), Option.bind_some, ask_of (addB rfl (by omega)), ask_of (addB (by rw [app_size]) (by rw [app_size]; omega))]
  unfold nm
  rw [← app_assoc, app_size (b ++ uv t.size)]
def E.lay (e : E) : ByteArray := bif e.k == 1 then (((b1 (wu8 e.k) ++ nm e.p) ++ nm e.o) ++ nm e.q) ++ e.v.lay else (b1 (wu8 e.k) ++ nm e.p) ++ e.v.lay
theorem E.lay_size (e : E) : e.lay.size ≤ 256 * e.big := by
  have h1 := V.lay_size e.v
  have hp := nm_size e.p
  have ho := nm_size e.o
  have hq := nm_size e.q
  have hb := b1_size (wu8 e.k)
  unfold E.lay E.big
  cases (e.k == 1) with
  | true => simp only [cond_true, app_size]; omega
  | false => simp only [cond_false, app_size]; omega
def lays (acc : ByteArray) : List E → Option ByteArray
  | [] => some acc
  | e :: l => bif e.right then lays (acc ++ e.lay) l else none
theorem lays_size : ∀ {l : List E} {acc t : ByteArray}, lays acc l = some t → acc.size ≤ t.size ∧ t.size ≤ acc.size + 256 * (l.map E.big).sum
  | [], acc, t, h => by cases h; exact ⟨Nat.le_refl _, by omega⟩
  | e :: l, acc, t, h => by
    rw [lays] at h
    cases hr : e.right with
    | false => rw [hr] at h; cases h
    | true =>
      rw [hr, cond_true] at h
      obtain ⟨h1, h2⟩ := lays_size h
      have := e.lay_size
      rw [app_size] at h1 h2
      rw [List.map_cons, List.sum_cons]
      exact ⟨by omega, by omega⟩
def encE (l : List E) : ByteArray × Int := match lays (uv l.length) l with | some t => (t, 0) | none => (noT, 60)
def KT (p : OT12_0 × Unit) : Option (ByteArray × Int) := match p.1 with | .x0 z47 z48 z49 z50 => (ask (z47.size = 0) (some (ByteArray.empty, z48))) | .x1 z51 z52 => (ask (z51.size = z51.size) (some (z51, 0)))
theorem nT12_K (a0 : List D) : nT12 a0 = ((nO26 (wu64 ((a0.length : Nat) : Int))).bind fun y3 => (ask (([0, y3.size] : List Nat) = [0, y3.size]) ((LT12_0 1000000000000 (y3, a0, ((a0.length : Nat) : Int), 0, 0) ()).bind KT))) := rfl
theorem LT_step (n : Nat) (l : List E) (len : Int) (i q : Nat) (acc : ByteArray) (e : E) (h : l[i]? = some e) (hi : (i : Int) < len) (he : e.big ≤ 1048576) (hk : e.v.ok) (hs : acc.size + 256 * e.big ≤ 536870912) :
    LT12_0 (n + 1) (acc, l.map E.d, len, (i : Int), q) () = bif e.right then LT12_0 n (acc ++ e.lay, l.map E.d, len, (w64 ((i : Int) + 1)), q) () else some (OT12_0.x0 ByteArray.empty 60 q acc.size, ()) := by
  obtain ⟨hp, ho, hq, hvb⟩ := E.parts he
  have hls := e.lay_size
  have h1 := n16_eq he
  have h2 := encode_eq hvb hk
  have hrv := E.right_v (e := e)
  have hen : e.v.right = true → e.v.enc = (e.v.lay, 0) := fun h => by unfold V.enc; rw [h]; rfl
  have hli : e.lay = bif e.k == 1 then (((b1 (wu8 e.k) ++ nm e.p) ++ nm e.o) ++ nm e.q) ++ e.v.lay else (b1 (wu8 e.k) ++ nm e.p) ++ e.v.lay := rfl
  have z1 := n27_nm hp
  have z2 := n27_nm ho
  have z3 := n27_nm hq
  have hbs := b1_size (wu8 e.k)
  rw [hli] at hls ⊢
  generalize e.right = R at *
  generalize e.v.enc = EN at *
  generalize e.v.lay = T at *
  generalize e.v.right = RV at *
  clear hli
  obtain ⟨k, p, o, qq, ⟨a, b, c, t, s⟩, x, y, z⟩ := e
  simp only [E.tup, V.tup] at h1 h2 hls z1 z2 z3 hbs ⊢
  rw [LT12_0, decide_eq_true hi, cond_true, lidx_es, h, Option.map_some, Option.bind_some]
  refine Eq.trans (b := (n16 (k, p, o, qq, a, b, c, t, V.ds s, x, y, z)).bind _) rfl ?_
  rw [h1, Option.bind_some]
  cases R with
  | false =>
    rw [Bool.not_false, cond_true, ask_of rfl, cond_false]
  | true =>
    rw [hen (hrv rfl)] at h2
    rw [Bool.not_true, cond_false, cond_true, ask_of (wu8_ok _)]
    rw [show bcons (wu8 k) ByteArray.empty = b1 (wu8 k) from rfl]
    generalize b1 (wu8 k) = B at *
    rw [ask_of (addB rfl (by omega)), z1, Option.bind_some]
    generalize (k == 1) = K at *
    have hpp := nm_size p
    have hoo := nm_size o
    have hqq := nm_size qq
    generalize nm p = P at *
    generalize nm o = O at *
    generalize nm qq = Q at *
    cases K with
    | true =>
      rw [cond_true] at hls ⊢
      rw [cond_true]
      simp only [app_size] at hls
      rw [ask_of (addB (by rw [app_size]) (by simp only [app_size]; omega)), z2, Option.bind_some]
      rw [ask_of (addB (by simp only [app_size]) (by simp only [app_size]; omega)), z3, Option.bind_some]
      rw [ask_of (addB (by simp only [app_size]) (by simp only [app_size]; omega)), h2, Option.bind_some]
      dsimp only
      rw [ask_of (addB (by simp only [app_size]) (by simp only [app_size]; omega)), ask_of (by simp only [app_size])]
      simp only [app_assoc]
    | false =>
      rw [cond_false] at hls ⊢
      rw [cond_false]
      simp only [app_size] at hls
      rw [ask_of (addB (by rw [app_size]) (by simp only [app_size]; omega)), h2, Option.bind_some]
      dsimp only
      rw [ask_of (addB (by simp only [app_size]) (by simp only [app_size]; omega)), ask_of (by simp only [app_size])]
      simp only [app_assoc]
theorem LT_eq {l : List E} (hl : l.length ≤ 1048576) (hb : ∀ e ∈ l, e.big ≤ 1048576) (hk : ∀ e ∈ l, e.v.ok) (q : Nat) : ∀ (rest : List E) (n i : Nat) (acc : ByteArray), l.drop i = rest → rest.length < n → acc.size + 256 * (rest.map E.big).sum ≤ 536870912 →
    (LT12_0 n (acc, l.map E.d, ((l.length : Nat) : Int), (i : Int), q) ()).bind KT = some (match lays acc rest with | some t => (t, 0) | none => (noT, 60)) := by
  intro rest
  induction rest with
  | nil =>
    intro n i acc hr hn hs
    obtain ⟨n, rfl⟩ : ∃ m, n = m + 1 := ⟨n - 1, by simp at hn; omega⟩
    have := drop_nil hr
    rw [LT12_0, decide_eq_false (by omega), cond_false, ask_of rfl, Option.bind_some]
    unfold KT
    dsimp only
    rw [ask_of rfl]
    rfl
  | cons e rest ih =>
    intro n i acc hr hn hs
    obtain ⟨n, rfl⟩ : ∃ m, n = m + 1 := ⟨n - 1, by simp at hn; omega⟩
    obtain ⟨h1, h2, h3, h4⟩ := drop_cons hr
    have hls := e.lay_size
    rw [List.map_cons, List.sum_cons] at hs
    rw [LT_step n l _ i q acc e h1 (by omega) (hb e h4) (hk e h4) (by omega), lays]
    cases hr : e.right with
    | false =>
      rw [cond_false, cond_false, Option.bind_some]
      unfold KT
      dsimp only
      rw [ask_of (show ByteArray.empty.size = 0 from rfl)]
      rfl
    | true =>
      rw [cond_true, cond_true, next_idx (by omega), ih n (i + 1) (acc ++ e.lay) h2 (by simp at hn; omega) (by rw [app_size]; omega)]
theorem nT12_eq {l : List E} (hs : (l.map E.big).sum ≤ 1048576) (ok : ∀ e ∈ l, e.ok) : nT12 (l.map E.d) = some (encE l) := by
  have hlen := evs_len l
  have hu := uv_size l.length
  have h := LT_eq (by omega) (fun e he => Nat.le_trans (evs_mem e he) hs) (fun e he => (ok e he).2.1) 0 l 1000000000000 0 (uv l.length) rfl (by omega) (by omega)
  rw [show ((0 : Nat) : Int) = 0 from rfl] at h
  rw [nT12_K, List.length_map, wlen (by omega), nO84_eq (by omega), Option.bind_some, ask_of rfl, h]
  rfl
theorem L13_step (n : Nat) (l : List E) (i q : Nat) (acc : ByteArray) (e : E) (h : l[i]? = some e) (hi : i < l.length) (he : e.big ≤ 1048576) (hk : e.v.ok) (hs : acc.size + 256 * e.big ≤ 536870912) :
    L13_0 (n + 1) (l.map E.d, acc, (i : Int), q) () = bif e.right then L13_0 n (l.map E.d, acc ++ e.lay, (w64 ((i : Int) + 1)), q) () else some (O13_0.x0 ByteArray.empty 60 q acc.size, ()) := by
  obtain ⟨hp, ho, hq, hvb⟩ := E.parts he
  have hls := e.lay_size
  have h1 := n20_eq he
  have h2 := encodeR_eq hvb hk
  have hrv := E.right_v (e := e)
  have hen : e.v.right = true → e.v.enc = (e.v.lay, 0) := fun h => by unfold V.enc; rw [h]; rfl
  have hli : e.lay = bif e.k == 1 then (((b1 (wu8 e.k) ++ nm e.p) ++ nm e.o) ++ nm e.q) ++ e.v.lay else (b1 (wu8 e.k) ++ nm e.p) ++ e.v.lay := rfl
  have z := fun (b t : ByteArray) (h : t.size ≤ 1048576) (hb : b.size ≤ 549755813888) => n30_nm (b := b) (t := t) h hb
  have hbs := b1_size (wu8 e.k)
  rw [hli] at hls ⊢
  generalize e.right = R at *
  generalize e.v.enc = EN at *
  generalize e.v.lay = T at *
  generalize e.v.right = RV at *
  clear hli
  obtain ⟨k, p, o, qq, ⟨a, b, c, t, s⟩, x, y, zz⟩ := e
  simp only [E.tup, V.tup] at h1 h2 hls hbs hp ho hq ⊢
  rw [L13_0, List.length_map, decide_eq_true (by omega : (i : Int) < ((l.length : Nat) : Int)), cond_true, lidx_es, h, Option.map_some, Option.bind_some]
  refine Eq.trans (b := (n20 (k, p, o, qq, a, b, c, t, V.ds s, x, y, zz)).bind _) rfl ?_
  rw [h1, Option.bind_some]
  cases R with
  | false =>
    rw [Bool.not_false, cond_true, ask_of rfl, cond_false]
  | true =>
    rw [hen (hrv rfl)] at h2
    rw [Bool.not_true, cond_false, cond_true, ask_of (wu8_ok _)]
    rw [show bcons (wu8 k) ByteArray.empty = b1 (wu8 k) from rfl]
    generalize b1 (wu8 k) = B at *
    rw [ask_of (addB rfl (by omega))]
    have hpp := nm_size p
    have hoo := nm_size o
    have hqq := nm_size qq
    rw [show acc.size + B.size = (acc ++ B).size from (app_size _ _).symm, z (acc ++ B) p hp (by rw [app_size]; omega), Option.bind_some]
    dsimp only
    generalize (k == 1) = K at *
    cases K with
    | true =>
      rw [cond_true] at hls ⊢
      rw [cond_true]
      simp only [app_size] at hls
      rw [z (acc ++ B ++ nm p) o ho (by simp only [app_size]; omega), Option.bind_some]
      dsimp only
      rw [z (acc ++ B ++ nm p ++ nm o) qq hq (by simp only [app_size]; omega), Option.bind_some]
      dsimp only
      rw [h2, Option.bind_some]
      dsimp only
      rw [ask_of (addB rfl (by simp only [app_size]; omega)), ask_of (by simp only [app_size])]
      simp only [app_assoc]
    | false =>
      rw [cond_false] at hls ⊢
      rw [cond_false]
      simp only [app_size] at hls
      rw [h2, Option.bind_some]
      dsimp only
      rw [ask_of (addB rfl (by simp only [app_size]; omega)), ask_of (by simp only [app_size])]
      simp only [app_assoc]
theorem L13_eq {l : List E} (hl : l.length ≤ 1048576) (hb : ∀ e ∈ l, e.big ≤ 1048576) (hk : ∀ e ∈ l, e.v.ok) (q : Nat) : ∀ (rest : List E) (n i : Nat) (acc : ByteArray), l.drop i = rest → rest.length < n → acc.size + 256 * (rest.map E.big).sum ≤ 536870912 →
    ∃ z, L13_0 n (l.map E.d, acc, (i : Int), q) () = some (match lays acc rest with | some t => O13_0.x1 t q | none => O13_0.x0 noT 60 q z, ()) := by
  intro rest
  induction rest with
  | nil =>
    intro n i acc hr hn hs
    obtain ⟨n, rfl⟩ : ∃ m, n = m + 1 := ⟨n - 1, by simp at hn; omega⟩
    have := drop_nil hr
    refine ⟨0, ?_⟩
    rw [L13_0, List.length_map, decide_eq_false (by omega), cond_false, ask_of rfl]
    rfl
  | cons e rest ih =>
    intro n i acc hr hn hs
    obtain ⟨n, rfl⟩ : ∃ m, n = m + 1 := ⟨n - 1, by simp at hn; omega⟩
    obtain ⟨h1, h2, h3, h4⟩ := drop_cons hr
    have hls := e.lay_size
    rw [List.map_cons, List.sum_cons] at hs
    rw [L13_step n l i q acc e h1 h3 (hb e h4) (hk e h4) (by omega), lays]
    cases hr : e.right with
    | false => exact ⟨acc.size, rfl⟩
    | true =>
      rw [cond_true, cond_true, next_idx (by omega)]
      exact ih n (i + 1) (acc ++ e.lay) h2 (by simp at hn; omega) (by rw [app_size]; omega)
theorem n13_eq {l : List E} (hs : (l.map E.big).sum ≤ 1048576) (ok : ∀ e ∈ l, e.ok) : n13 (l.map E.d) = some (encE l) := by
  have hlen := evs_len l
  have hu := uv_size l.length
  obtain ⟨z, h⟩ := L13_eq (by omega) (fun e he => Nat.le_trans (evs_mem e he) hs) (fun e he => (ok e he).2.1) 0 l 1000000000000 0 (uv l.length) rfl (by omega) (by omega)
  rw [show ((0 : Nat) : Int) = 0 from rfl] at h
  rw [n13, List.length_map, nO29_eq (by omega), Option.bind_some, ask_of rfl, h, Option.bind_some]
  unfold encE
  cases lays (uv l.length) l <;> rfl
theorem L4_0_end (l : List D) (c : ByteArray) : L4_0 1000000000000 (l, ByteArray.empty, c, 0) () = some (O4_0.x0 l c, ()) := by
  rw [show (1000000000000 : Nat) = 999999999999 + 1 from rfl, L4_0]
  rfl
theorem L4v1_eq (l : List D) (c : ByteArray) (sz : Nat) (hs : sz ≤ 1099511627776) : ∀ (m n i : Nat) (es : List D), sz - i = m → i ≤ sz → m < n → es.length = sz → (∀ d ∈ es, d.cells.length = 1) →
    ∃ es', L4_0v1 n (l, sz, c, (i : Int), es) () = some (O4_0v1.x0 l c es', ())
  | 0, n, i, es, hm, hi, hn, hl, hd => by
    obtain ⟨n, rfl⟩ : ∃ k, n = k + 1 := ⟨n - 1, by omega⟩
    rw [L4_0v1, decide_eq_false (by omega), cond_false]
    exact ⟨es, rfl⟩
  | m + 1, n, i, es, hm, hi, hn, hl, hd => by
    obtain ⟨n, rfl⟩ : ∃ k, n = k + 1 := ⟨n - 1, by omega⟩
    have hie : i < es.length := by omega
    have hg : es[i]? = some es[i] := List.getElem?_eq_getElem hie
    have hc : (es[i]).cells.length = 1 := hd _ (List.getElem_mem hie)
    rw [L4_0v1, decide_eq_true (by omega), cond_true, ask_of (by unfold rowIn; omega), show Int.toNat (i : Int) = i from rfl, hg, Option.bind_some, ask_of hc, next_idx (by omega)]
    refine L4v1_eq l c sz hs m n (i + 1) _ (by omega) (by omega) (by omega) (by rw [List.length_set]; exact hl) (fun d hdm => ?_)
    rcases List.mem_or_eq_of_mem_set hdm with q | rfl
    · exact hd d q
    · have hp : ∀ (x : D), x.cells.length = 1 → (D.put x 0 [.val (.int .u8 255)]).cells.length = 1 := by
        intro x hx
        cases x with
        | agg cs =>
          simp only [D.cells] at hx
          simp only [D.put, spliceD, D.cells, List.length_set]
          exact hx
        | _ => rfl
      exact hp _ hc
theorem uv_pos (u : Nat) : 1 ≤ (uv u).size := by
  show 1 ≤ (uvl (63 + 1) u).size
  rw [uvl]
  split
  · rw [uLast, b1_size]; omega
  · rw [app_size, uMore, b1_size]; omega
theorem plain4' {l : List E} (hs : (l.map E.big).sum ≤ 1048576) (ok : ∀ e ∈ l, e.ok) : n4 (l.map E.d) = some true := by
  have h1 := nT12_eq hs ok
  have h2 := n13_eq hs ok
  unfold encE at h1 h2
  generalize l.map E.d = L at *
  cases hl : lays (uv l.length) l with
  | none =>
    rw [hl] at h1 h2
    dsimp only at h1 h2
    rw [n4, h1, Option.bind_some]
    dsimp only
    rw [show Nat.beq noT.size 0 = true from rfl, cond_true, h2, Option.bind_some, n9, Option.bind_some]
    dsimp only
    rw [show ((60 : Int) != 60) = false from rfl, cond_false, show sEq ByteArray.empty noT = true from (sEq_iff _ _).2 rfl, Bool.not_true, cond_false, show (noT : ByteArray) = ByteArray.empty from rfl, L4_0_end, Option.bind_some]
    dsimp only
    have h1' : nT12 L = some (ByteArray.empty, 60) := h1
    rw [h1', Option.bind_some]
    dsimp only
    rw [show Nat.beq ByteArray.empty.size 0 = true from rfl, cond_true, show sEq ByteArray.empty ByteArray.empty = true from (sEq_iff _ _).2 rfl]
    rfl
  | some T =>
    rw [hl] at h1 h2
    dsimp only at h1 h2
    obtain ⟨q1, q2⟩ := lays_size hl
    have hp := uv_pos l.length
    have hu := uv_size l.length
    have hbeq : Nat.beq T.size 0 = false := by
      cases hq : Nat.beq T.size 0 with
      | false => rfl
      | true => have := Nat.eq_of_beq_eq_true hq; omega
    rw [n4, h1, Option.bind_some]
    dsimp only
    rw [hbeq, cond_false, h2, Option.bind_some, n9, Option.bind_some]
    dsimp only
    rw [show ((0 : Int) != 0) = false from rfl, cond_false, rowBytes_of, Option.bind_some, show sEq T T = true from (sEq_iff _ _).2 rfl, Bool.not_true, cond_false]
    obtain ⟨es', hL⟩ := L4v1_eq L T T.size (by omega) T.size 1000000000000 0 (bytesD T) (by omega) (by omega) (by omega) (bytesD_len T) (fun d hd => by
      unfold bytesD at hd
      obtain ⟨x, _, rfl⟩ := List.mem_map.1 hd
      rfl)
    rw [show ((0 : Nat) : Int) = 0 from rfl] at hL
    rw [hL, Option.bind_some]
    dsimp only
    rw [h1, Option.bind_some]
    dsimp only
    rw [hbeq, cond_false, rowBytes_of, Option.bind_some, show sEq T T = true from (sEq_iff _ _).2 rfl]
    rfl
end Ev
