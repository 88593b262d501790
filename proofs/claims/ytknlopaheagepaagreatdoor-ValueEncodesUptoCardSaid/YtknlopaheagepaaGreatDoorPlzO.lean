/- What functions of the program compute, as plain Lean functions, each with its proof by a proved reader; plain laws about them (PlzO). -/
import Derived.Test.YtknlopaheagepaaGreatDoorLz1
import Derived.Lib.DecodeNEq
import Derived.Lib.TrimU
import Derived.Lib.QuoteLoop
set_option linter.unusedSimpArgs false
set_option linter.unusedVariables false
namespace Ev
open Go
theorem cond_some {α : Type} (c : Bool) (a b : α) : (bif c then some a else some b) = some (bif c then a else b) := by cases c <;> rfl
theorem cond_iff (c a b : Bool) : (bif c then a else b) = true ↔ (c = true ∧ a = true) ∨ (¬ c = true ∧ b = true) := by cases c <;> simp
theorem letter_eq (r : Int) : n125 r = n127 r := by
  simp only [n125, n127, n137, Option.bind_some, cond_some, Option.some.injEq]
  rw [Bool.eq_iff_iff]
  simp only [cond_iff, decide_eq_true_eq, beq_iff_eq, bne_iff_ne, ne_eq, and_true, Bool.false_eq_true, and_false, or_false]
  omega
theorem wu64_id {n : Int} (h0 : 0 ≤ n) (h1 : n < 18446744073709551616) : wu64 n = n := by
  simp only [wu64, IntKind.wrap, IntKind.signed, IntKind.bits]
  simp
  omega
theorem ask_of {p : Prop} [Decidable p] {β : Type} {x : Option β} (h : p) : ask p x = x := if_pos h
theorem w64_id {n : Int} (h0 : -9223372036854775808 ≤ n) (h1 : n ≤ 9223372036854775807) : w64 n = n := by
  simp only [w64, IntKind.wrap, IntKind.signed, IntKind.bits]
  simp
  omega
theorem sidx_nat (s : ByteArray) (i : Nat) : sidx s (i : Int) = s[i]? := by
  unfold sidx
  rw [if_pos (by omega), Int.toNat_natCast]
theorem cont_eq (s : ByteArray) (i : Nat) (lo hi : Int) : n157 (s, (i : Int), lo, hi) = some (match s[i]? with | some c => decide (lo ≤ (c.toNat : Int)) && decide ((c.toNat : Int) ≤ hi) | none => false) := by
  simp only [n157, sidx_nat]
  cases hc : s[i]? with
  | none =>
    have : ¬ i < s.size := fun h => by rw [getElem?_pos s i h] at hc; cases hc
    rw [decide_eq_false (by omega : ¬ (i : Int) < (s.size : Int)), cond_false]
  | some c =>
    have : i < s.size := by
      rcases Nat.lt_or_ge i s.size with h | h
      · exact h
      · rw [getElem?_neg s i (by omega)] at hc; cases hc
    rw [decide_eq_true (by omega : (i : Int) < (s.size : Int)), cond_true, Option.bind_some, Option.bind_some]
    by_cases h : lo ≤ (c.toNat : Int)
    · simp [h]
    · simp [h]
theorem sEq_iff (a b : ByteArray) : sEq a b = true ↔ a = b := by
  unfold sEq
  rw [beq_iff_eq]
  constructor
  · intro h
    have : a.data.toList = b.data.toList := by
      have e : ∀ x : ByteArray, x.toList = x.data.toList := fun x => by simp [ByteArray.toList_eq]
      rw [e, e] at h
      exact h
    exact ByteArray.ext (Array.toList_inj.1 this)
  · intro h; rw [h]
theorem and_facts : ∀ n : Nat, n < 256 → bAnd .u8 n 31 = ((n % 32 : Nat) : Int) ∧ bAnd .u8 n 15 = ((n % 16 : Nat) : Int) ∧ bAnd .u8 n 7 = ((n % 8 : Nat) : Int) ∧ bAnd .u8 n 63 = ((n % 64 : Nat) : Int) := by decide +kernel
theorem bOr_add {k a b : Nat} (hb : b < 2 ^ k) (h : 2 ^ k * a + b < 9223372036854775808) : bOr .i64 ((2 ^ k * a : Nat) : Int) (b : Int) = ((2 ^ k * a + b : Nat) : Int) := by
  have h1 : (BitVec.ofInt 64 ((2 ^ k * a : Nat) : Int)) = BitVec.ofNat 64 (2 ^ k * a) := BitVec.ofInt_natCast ..
  have h2 : (BitVec.ofInt 64 (b : Int)) = BitVec.ofNat 64 b := BitVec.ofInt_natCast ..
  show w64 (((BitVec.ofInt 64 ((2 ^ k * a : Nat) : Int)) ||| (BitVec.ofInt 64 (b : Int))).toNat : Int) = _
  rw [h1, h2, BitVec.toNat_or, BitVec.toNat_ofNat, BitVec.toNat_ofNat, Nat.mod_eq_of_lt (by omega), Nat.mod_eq_of_lt (by omega), ← Nat.two_pow_add_eq_or_of_lt hb, w64_id (by omega) (by omega)]
def rn (s : ByteArray) (i : Nat) : Int := if Utf8.decode s i = (65533, 1) then -1 else ((Utf8.decode s i).1 : Int)
def wd (s : ByteArray) (i : Nat) : Nat := (Utf8.decode s i).2
section
variable {s : ByteArray} {i : Nat}
abbrev bt (s : ByteArray) (k : Nat) : Nat := (s.get! k).toNat
theorem get_bang {k : Nat} (h : k < s.size) : s[k]? = some (s.get! k) := by
  rw [getElem?_pos s k h]
  congr 1
  simp [ByteArray.get!, h]
  rfl
theorem bt_lt (k : Nat) : bt s k < 256 := UInt8.toNat_lt _
theorem cont_at (k : Nat) (lo hi : Int) : n157 (s, ((i + k : Nat) : Int), lo, hi) = some (decide (k < s.size - i ∧ lo ≤ (bt s (i + k) : Int) ∧ (bt s (i + k) : Int) ≤ hi)) := by
  rw [cont_eq]
  by_cases h : i + k < s.size
  · rw [get_bang h]
    congr 1
    have : k < s.size - i := by omega
    simp [this]
  · rw [getElem?_neg s (i + k) (by omega)]
    congr 1
    have : ¬ k < s.size - i := by omega
    simp [this]
theorem sidx_at {k : Nat} (h : k < s.size - i) : sidx s ((i + k : Nat) : Int) = some (s.get! (i + k)) := by
  rw [sidx_nat, get_bang (by omega)]
theorem w_and31 (k : Nat) : w64 (bAnd .u8 (((s.get! k).toNat : Nat) : Int) 31) = ((bt s k % 32 : Nat) : Int) := by
  rw [(and_facts _ (bt_lt k)).1, w64_id (by omega) (by omega)]
theorem w_and15 (k : Nat) : w64 (bAnd .u8 (((s.get! k).toNat : Nat) : Int) 15) = ((bt s k % 16 : Nat) : Int) := by
  rw [(and_facts _ (bt_lt k)).2.1, w64_id (by omega) (by omega)]
theorem w_and7 (k : Nat) : w64 (bAnd .u8 (((s.get! k).toNat : Nat) : Int) 7) = ((bt s k % 8 : Nat) : Int) := by
  rw [(and_facts _ (bt_lt k)).2.2.1, w64_id (by omega) (by omega)]
theorem w_and63 (k : Nat) : w64 (bAnd .u8 (((s.get! k).toNat : Nat) : Int) 63) = ((bt s k % 64 : Nat) : Int) := by
  rw [(and_facts _ (bt_lt k)).2.2.2, w64_id (by omega) (by omega)]
theorem w_mul {a m : Nat} (h : a * m < 9223372036854775808) : w64 ((a : Int) * (m : Int)) = ((a * m : Nat) : Int) := by
  rw [w64_id (by omega) (by omega)]; omega
theorem put2 (j k : Nat) : bOr .i64 (w64 ((w64 (bAnd .u8 ((s.get! j).toNat : Int) 31)) * 2 ^ (min (Int.toNat 6) 64))) (w64 (bAnd .u8 ((s.get! k).toNat : Int) 63)) = ((bt s j % 32 * 64 + bt s k % 64 : Nat) : Int) := by
  rw [w_and31, w_and63, show ((2 : Int) ^ (min (Int.toNat 6) 64)) = ((64 : Nat) : Int) from rfl, w_mul (by omega)]
  have := bOr_add (k := 6) (a := bt s j % 32) (b := bt s k % 64) (by omega) (by omega)
  rw [show bt s j % 32 * 64 = 2 ^ 6 * (bt s j % 32) by omega, this]
theorem put3 (j k l : Nat) : bOr .i64 (bOr .i64 (w64 ((w64 (bAnd .u8 ((s.get! j).toNat : Int) 15)) * 2 ^ (min (Int.toNat 12) 64))) (w64 ((w64 (bAnd .u8 ((s.get! k).toNat : Int) 63)) * 2 ^ (min (Int.toNat 6) 64)))) (w64 (bAnd .u8 ((s.get! l).toNat : Int) 63)) = ((bt s j % 16 * 4096 + bt s k % 64 * 64 + bt s l % 64 : Nat) : Int) := by
  rw [w_and15, w_and63, w_and63, show ((2 : Int) ^ (min (Int.toNat 12) 64)) = ((4096 : Nat) : Int) from rfl, show ((2 : Int) ^ (min (Int.toNat 6) 64)) = ((64 : Nat) : Int) from rfl, w_mul (by omega), w_mul (by omega)]
  have h1 := bOr_add (k := 12) (a := bt s j % 16) (b := bt s k % 64 * 64) (by omega) (by omega)
  rw [show bt s j % 16 * 4096 = 2 ^ 12 * (bt s j % 16) by omega, h1]
  have h2 := bOr_add (k := 6) (a := bt s j % 16 * 64 + bt s k % 64) (b := bt s l % 64) (by omega) (by omega)
  rw [show 2 ^ 12 * (bt s j % 16) + bt s k % 64 * 64 = 2 ^ 6 * (bt s j % 16 * 64 + bt s k % 64) by omega, h2]
theorem put4 (j k l m : Nat) : bOr .i64 (bOr .i64 (bOr .i64 (w64 ((w64 (bAnd .u8 ((s.get! j).toNat : Int) 7)) * 2 ^ (min (Int.toNat 18) 64))) (w64 ((w64 (bAnd .u8 ((s.get! k).toNat : Int) 63)) * 2 ^ (min (Int.toNat 12) 64)))) (w64 ((w64 (bAnd .u8 ((s.get! l).toNat : Int) 63)) * 2 ^ (min (Int.toNat 6) 64)))) (w64 (bAnd .u8 ((s.get! m).toNat : Int) 63)) = ((bt s j % 8 * 262144 + bt s k % 64 * 4096 + bt s l % 64 * 64 + bt s m % 64 : Nat) : Int) := by
  rw [w_and7, w_and63, w_and63, w_and63, show ((2 : Int) ^ (min (Int.toNat 18) 64)) = ((262144 : Nat) : Int) from rfl, show ((2 : Int) ^ (min (Int.toNat 12) 64)) = ((4096 : Nat) : Int) from rfl, show ((2 : Int) ^ (min (Int.toNat 6) 64)) = ((64 : Nat) : Int) from rfl, w_mul (by omega), w_mul (by omega), w_mul (by omega)]
  have h1 := bOr_add (k := 18) (a := bt s j % 8) (b := bt s k % 64 * 4096) (by omega) (by omega)
  rw [show bt s j % 8 * 262144 = 2 ^ 18 * (bt s j % 8) by omega, h1]
  have h2 := bOr_add (k := 12) (a := bt s j % 8 * 64 + bt s k % 64) (b := bt s l % 64 * 64) (by omega) (by omega)
  rw [show 2 ^ 18 * (bt s j % 8) + bt s k % 64 * 4096 = 2 ^ 12 * (bt s j % 8 * 64 + bt s k % 64) by omega, h2]
  have h3 := bOr_add (k := 6) (a := bt s j % 8 * 4096 + bt s k % 64 * 64 + bt s l % 64) (b := bt s m % 64) (by omega) (by omega)
  rw [show 2 ^ 12 * (bt s j % 8 * 64 + bt s k % 64) + bt s l % 64 * 64 = 2 ^ 6 * (bt s j % 8 * 4096 + bt s k % 64 * 64 + bt s l % 64) by omega, h3]
def tail2 (s : ByteArray) (i : Nat) (lo hi : Int) : Option (Int × Int × Int) := (n157 (s, (w64 ((i : Int) + 1)), lo, hi)).bind fun y6 => (bif y6 then ((sidx s (w64 ((i : Int) + 1))).bind fun c7 => (some ((bOr .i64 (w64 ((w64 (bAnd .u8 ((s.get! i).toNat : Int) 31)) * 2 ^ (min (Int.toNat 6) 64))) (w64 (bAnd .u8 (c7.toNat : Int) 63))), (i : Int), 2))) else (some ((-1), (i : Int), 1)))
def tail3 (s : ByteArray) (i : Nat) (lo hi : Int) : Option (Int × Int × Int) := (n157 (s, (w64 ((i : Int) + 1)), lo, hi)).bind fun y8 => (bif y8 then ((n157 (s, (w64 ((i : Int) + 2)), 128, 191)).bind fun y9 => (bif y9 then ((sidx s (w64 ((i : Int) + 1))).bind fun c10 => ((sidx s (w64 ((i : Int) + 2))).bind fun c11 => (some ((bOr .i64 (bOr .i64 (w64 ((w64 (bAnd .u8 ((s.get! i).toNat : Int) 15)) * 2 ^ (min (Int.toNat 12) 64))) (w64 ((w64 (bAnd .u8 (c10.toNat : Int) 63)) * 2 ^ (min (Int.toNat 6) 64)))) (w64 (bAnd .u8 (c11.toNat : Int) 63))), (i : Int), 3)))) else (some ((-1), (i : Int), 1)))) else (some ((-1), (i : Int), 1)))
def tail4 (s : ByteArray) (i : Nat) (lo hi : Int) : Option (Int × Int × Int) := (n157 (s, (w64 ((i : Int) + 1)), lo, hi)).bind fun y24 => (bif y24 then ((n157 (s, (w64 ((i : Int) + 2)), 128, 191)).bind fun y25 => (bif y25 then ((n157 (s, (w64 ((i : Int) + 3)), 128, 191)).bind fun y26 => (bif y26 then ((sidx s (w64 ((i : Int) + 1))).bind fun c27 => ((sidx s (w64 ((i : Int) + 2))).bind fun c28 => ((sidx s (w64 ((i : Int) + 3))).bind fun c29 => (some ((bOr .i64 (bOr .i64 (bOr .i64 (w64 ((w64 (bAnd .u8 ((s.get! i).toNat : Int) 7)) * 2 ^ (min (Int.toNat 18) 64))) (w64 ((w64 (bAnd .u8 (c27.toNat : Int) 63)) * 2 ^ (min (Int.toNat 12) 64)))) (w64 ((w64 (bAnd .u8 (c28.toNat : Int) 63)) * 2 ^ (min (Int.toNat 6) 64)))) (w64 (bAnd .u8 (c29.toNat : Int) 63))), (i : Int), 4))))) else (some ((-1), (i : Int), 1)))) else (some ((-1), (i : Int), 1)))) else (some ((-1), (i : Int), 1)))
def asRef (p : Nat × Nat) (i : Nat) : Int × Int × Int := (if p = (65533, 1) then -1 else (p.1 : Int), (i : Int), (p.2 : Int))
variable (hs : s.size ≤ 1048576) (hi : i < s.size)
include hs hi
theorem next1 : w64 ((i : Int) + 1) = ((i + 1 : Nat) : Int) := by rw [w64_id (by omega) (by omega)]; omega
theorem next2 : w64 ((i : Int) + 2) = ((i + 2 : Nat) : Int) := by rw [w64_id (by omega) (by omega)]; omega
theorem next3 : w64 ((i : Int) + 3) = ((i + 3 : Nat) : Int) := by rw [w64_id (by omega) (by omega)]; omega
theorem tail2_eq (lo hi' : Nat) : tail2 s i lo hi' = some (asRef (Lib.slowN (s.size - i) (bt s i) (bt s (i + 1)) (bt s (i + 2)) (bt s (i + 3)) 2 lo hi') i) := by
  unfold tail2
  rw [next1 hs hi, cont_at, Option.bind_some]
  by_cases h : 1 < s.size - i ∧ (lo : Int) ≤ (bt s (i + 1) : Int) ∧ (bt s (i + 1) : Int) ≤ (hi' : Int)
  · rw [decide_eq_true h, cond_true, sidx_at h.1, Option.bind_some, put2]
    have e : Lib.slowN (s.size - i) (bt s i) (bt s (i + 1)) (bt s (i + 2)) (bt s (i + 3)) 2 lo hi' = (bt s i % 32 * 64 + bt s (i + 1) % 64, 2) := by
      unfold Lib.slowN; rw [if_neg (by omega), if_neg (by omega), if_pos (by omega)]
    rw [e, asRef, if_neg (by simp)]
    rfl
  · rw [decide_eq_false h, cond_false]
    have e : Lib.slowN (s.size - i) (bt s i) (bt s (i + 1)) (bt s (i + 2)) (bt s (i + 3)) 2 lo hi' = (65533, 1) := by
      unfold Lib.slowN
      by_cases h1 : s.size - i < 2
      · rw [if_pos h1]
      · rw [if_neg h1, if_pos (by omega)]
    rw [e]; rfl
theorem tail3_eq (lo hi' : Nat) : tail3 s i lo hi' = some (asRef (Lib.slowN (s.size - i) (bt s i) (bt s (i + 1)) (bt s (i + 2)) (bt s (i + 3)) 3 lo hi') i) := by
  unfold tail3
  rw [next1 hs hi, next2 hs hi, cont_at, cont_at, Option.bind_some]
  by_cases h : 1 < s.size - i ∧ (lo : Int) ≤ (bt s (i + 1) : Int) ∧ (bt s (i + 1) : Int) ≤ (hi' : Int)
  · rw [decide_eq_true h, cond_true, Option.bind_some]
    by_cases h2 : 2 < s.size - i ∧ (128 : Int) ≤ (bt s (i + 2) : Int) ∧ (bt s (i + 2) : Int) ≤ 191
    · rw [decide_eq_true h2, cond_true, sidx_at h.1, Option.bind_some, sidx_at h2.1, Option.bind_some, put3]
      have e : Lib.slowN (s.size - i) (bt s i) (bt s (i + 1)) (bt s (i + 2)) (bt s (i + 3)) 3 lo hi' = (bt s i % 16 * 4096 + bt s (i + 1) % 64 * 64 + bt s (i + 2) % 64, 3) := by
        unfold Lib.slowN; rw [if_neg (by omega), if_neg (by omega), if_neg (by omega), if_neg (by omega), if_pos (by omega)]
      rw [e, asRef, if_neg (by simp)]
      rfl
    · rw [decide_eq_false h2, cond_false]
      have e : Lib.slowN (s.size - i) (bt s i) (bt s (i + 1)) (bt s (i + 2)) (bt s (i + 3)) 3 lo hi' = (65533, 1) := by
        unfold Lib.slowN
        by_cases h1 : s.size - i < 3
        · rw [if_pos h1]
        · rw [if_neg h1, if_neg (by omega), if_neg (by omega), if_pos (by omega)]
      rw [e]; rfl
  · rw [decide_eq_false h, cond_false]
    have e : Lib.slowN (s.size - i) (bt s i) (bt s (i + 1)) (bt s (i + 2)) (bt s (i + 3)) 3 lo hi' = (65533, 1) := by
      unfold Lib.slowN
      by_cases h1 : s.size - i < 3
      · rw [if_pos h1]
      · rw [if_neg h1, if_pos (by omega)]
    rw [e]; rfl
theorem tail4_eq (lo hi' : Nat) : tail4 s i lo hi' = some (asRef (Lib.slowN (s.size - i) (bt s i) (bt s (i + 1)) (bt s (i + 2)) (bt s (i + 3)) 4 lo hi') i) := by
  unfold tail4
  rw [next1 hs hi, next2 hs hi, next3 hs hi, cont_at, cont_at, cont_at, Option.bind_some]
  by_cases h : 1 < s.size - i ∧ (lo : Int) ≤ (bt s (i + 1) : Int) ∧ (bt s (i + 1) : Int) ≤ (hi' : Int)
  · rw [decide_eq_true h, cond_true, Option.bind_some]
    by_cases h2 : 2 < s.size - i ∧ (128 : Int) ≤ (bt s (i + 2) : Int) ∧ (bt s (i + 2) : Int) ≤ 191
    · rw [decide_eq_true h2, cond_true, Option.bind_some]
      by_cases h3 : 3 < s.size - i ∧ (128 : Int) ≤ (bt s (i + 3) : Int) ∧ (bt s (i + 3) : Int) ≤ 191
      · rw [decide_eq_true h3, cond_true, sidx_at h.1, Option.bind_some, sidx_at h2.1, Option.bind_some, sidx_at h3.1, Option.bind_some, put4]
        have e : Lib.slowN (s.size - i) (bt s i) (bt s (i + 1)) (bt s (i + 2)) (bt s (i + 3)) 4 lo hi' = (bt s i % 8 * 262144 + bt s (i + 1) % 64 * 4096 + bt s (i + 2) % 64 * 64 + bt s (i + 3) % 64, 4) := by
          unfold Lib.slowN; rw [if_neg (by omega), if_neg (by omega), if_neg (by omega), if_neg (by omega), if_neg (by omega), if_neg (by omega)]
        rw [e, asRef, if_neg (by simp)]
        rfl
      · rw [decide_eq_false h3, cond_false]
        have e : Lib.slowN (s.size - i) (bt s i) (bt s (i + 1)) (bt s (i + 2)) (bt s (i + 3)) 4 lo hi' = (65533, 1) := by
          unfold Lib.slowN
          by_cases h1 : s.size - i < 4
          · rw [if_pos h1]
          · rw [if_neg h1, if_neg (by omega), if_neg (by omega), if_neg (by omega), if_neg (by omega), if_pos (by omega)]
        rw [e]; rfl
    · rw [decide_eq_false h2, cond_false]
      have e : Lib.slowN (s.size - i) (bt s i) (bt s (i + 1)) (bt s (i + 2)) (bt s (i + 3)) 4 lo hi' = (65533, 1) := by
        unfold Lib.slowN
        by_cases h1 : s.size - i < 4
        · rw [if_pos h1]
        · rw [if_neg h1, if_neg (by omega), if_neg (by omega), if_pos (by omega)]
      rw [e]; rfl
  · rw [decide_eq_false h, cond_false]
    have e : Lib.slowN (s.size - i) (bt s i) (bt s (i + 1)) (bt s (i + 2)) (bt s (i + 3)) 4 lo hi' = (65533, 1) := by
      unfold Lib.slowN
      by_cases h1 : s.size - i < 4
      · rw [if_pos h1]
      · rw [if_neg h1, if_pos (by omega)]
    rw [e]; rfl
omit hs hi in
theorem n138_eq (c5 : UInt8) (hc : sidx s (i : Int) = some c5) (hg : s.get! i = c5) : n138 (s, (i : Int)) = (bif (decide ((c5.toNat : Int) < 128)) then (some ((w64 (c5.toNat : Int)), (i : Int), 1)) else (bif (bif (decide ((c5.toNat : Int) ≥ 194)) then (decide ((c5.toNat : Int) ≤ 223)) else false) then tail2 s i 128 191 else (bif (bif (decide ((c5.toNat : Int) ≥ 224)) then (decide ((c5.toNat : Int) ≤ 239)) else false) then (bif ((c5.toNat : Int) == 224) then (bif ((c5.toNat : Int) == 237) then tail3 s i 160 159 else tail3 s i 160 191) else (bif ((c5.toNat : Int) == 237) then tail3 s i 128 159 else tail3 s i 128 191)) else (bif (bif (decide ((c5.toNat : Int) ≥ 240)) then (decide ((c5.toNat : Int) ≤ 244)) else false) then (bif ((c5.toNat : Int) == 240) then (bif ((c5.toNat : Int) == 244) then tail4 s i 144 143 else tail4 s i 144 191) else (bif ((c5.toNat : Int) == 244) then tail4 s i 128 143 else tail4 s i 128 191)) else (some ((-1), (i : Int), 1)))))) := by
  subst hg
  simp only [n138, hc, Option.bind_some]
  rfl
theorem one_eq : n138 (s, (i : Int)) = some (asRef (Utf8.decode s i) i) := by
  have hg := get_bang (s := s) hi
  have hsx : sidx s (i : Int) = some (s.get! i) := by rw [sidx_nat, hg]
  rw [n138_eq _ hsx rfl, Lib.decode_at]
  have hb := bt_lt (s := s) i
  have h1 := bt_lt (s := s) (i + 1)
  have h2 := bt_lt (s := s) (i + 2)
  have h3 := bt_lt (s := s) (i + 3)
  have hn : 1 ≤ s.size - i := by omega
  have t2 := tail2_eq hs hi 128 191
  have t3a := tail3_eq hs hi 160 191
  have t3b := tail3_eq hs hi 128 159
  have t3c := tail3_eq hs hi 128 191
  have t4a := tail4_eq hs hi 144 191
  have t4b := tail4_eq hs hi 128 143
  have t4c := tail4_eq hs hi 128 191
  rw [show (((128 : Nat) : Int)) = 128 from rfl, show (((191 : Nat) : Int)) = 191 from rfl] at t2 t3c t4c
  rw [show (((160 : Nat) : Int)) = 160 from rfl, show (((191 : Nat) : Int)) = 191 from rfl] at t3a
  rw [show (((128 : Nat) : Int)) = 128 from rfl, show (((159 : Nat) : Int)) = 159 from rfl] at t3b
  rw [show (((144 : Nat) : Int)) = 144 from rfl, show (((191 : Nat) : Int)) = 191 from rfl] at t4a
  rw [show (((128 : Nat) : Int)) = 128 from rfl, show (((143 : Nat) : Int)) = 143 from rfl] at t4b
  have F : ∀ {p : Prop} [Decidable p], ¬ p → decide p = false := fun h => decide_eq_false h
  have T : ∀ {p : Prop} [Decidable p], p → decide p = true := fun h => decide_eq_true h
  have E0 : ∀ {z : Int}, ((bt s i : Nat) : Int) ≠ z → (((bt s i : Nat) : Int) == z) = false := fun h => beq_eq_false_iff_ne.2 h
  have E1 : ∀ {z : Int}, ((bt s i : Nat) : Int) = z → (((bt s i : Nat) : Int) == z) = true := fun h => beq_iff_eq.2 h
  by_cases c0 : bt s i < 128
  · rw [T (show ((bt s i : Nat) : Int) < 128 by omega), cond_true, Lib.ascii_eq _ _ _ _ _ (by unfold Lib.firstT; rw [if_pos c0])]
    have h0 : bt s i ≠ 65533 := by omega
    have hw : w64 (((s.get! i).toNat : Nat) : Int) = ((bt s i : Nat) : Int) := w64_id (n := ((bt s i : Nat) : Int)) (by omega) (by omega)
    rw [asRef, if_neg (fun h => h0 (congrArg Prod.fst h)), hw]
    rfl
  rw [F (show ¬ ((bt s i : Nat) : Int) < 128 by omega), cond_false]
  by_cases c1 : bt s i < 194
  · rw [F (show ¬ ((bt s i : Nat) : Int) ≥ 194 by omega), cond_false, cond_false, F (show ¬ ((bt s i : Nat) : Int) ≥ 224 by omega), cond_false, cond_false, F (show ¬ ((bt s i : Nat) : Int) ≥ 240 by omega), cond_false, cond_false,
      Lib.bad_eq _ _ _ _ _ hb (by unfold Lib.firstT; rw [if_neg c0, if_pos c1])]
    rfl
  rw [T (show ((bt s i : Nat) : Int) ≥ 194 by omega), cond_true]
  by_cases c2 : bt s i < 224
  · rw [T (show ((bt s i : Nat) : Int) ≤ 223 by omega), cond_true, t2, Lib.slow_C2 _ _ _ _ _ hn h1 h2 h3 ⟨by omega, c2⟩]
  rw [F (show ¬ ((bt s i : Nat) : Int) ≤ 223 by omega), cond_false, T (show ((bt s i : Nat) : Int) ≥ 224 by omega), cond_true]
  by_cases c3 : bt s i < 240
  · rw [T (show ((bt s i : Nat) : Int) ≤ 239 by omega), cond_true]
    by_cases d1 : bt s i = 224
    · rw [E1 (show ((bt s i : Nat) : Int) = 224 by omega), cond_true, E0 (show ((bt s i : Nat) : Int) ≠ 237 by omega), cond_false, t3a, Lib.slow_E0 _ _ _ _ _ hn h1 h2 h3 d1]
    · rw [E0 (show ((bt s i : Nat) : Int) ≠ 224 by omega), cond_false]
      by_cases d2 : bt s i = 237
      · rw [E1 (show ((bt s i : Nat) : Int) = 237 by omega), cond_true, t3b, Lib.slow_ED _ _ _ _ _ hn h1 h2 h3 d2]
      · rw [E0 (show ((bt s i : Nat) : Int) ≠ 237 by omega), cond_false, t3c, Lib.slow_E1 _ _ _ _ _ hn h1 h2 h3 (by omega)]
  rw [F (show ¬ ((bt s i : Nat) : Int) ≤ 239 by omega), cond_false, T (show ((bt s i : Nat) : Int) ≥ 240 by omega), cond_true]
  by_cases c4 : bt s i < 245
  · rw [T (show ((bt s i : Nat) : Int) ≤ 244 by omega), cond_true]
    by_cases d1 : bt s i = 240
    · rw [E1 (show ((bt s i : Nat) : Int) = 240 by omega), cond_true, E0 (show ((bt s i : Nat) : Int) ≠ 244 by omega), cond_false, t4a, Lib.slow_F0 _ _ _ _ _ hn h1 h2 h3 d1]
    · rw [E0 (show ((bt s i : Nat) : Int) ≠ 240 by omega), cond_false]
      by_cases d2 : bt s i = 244
      · rw [E1 (show ((bt s i : Nat) : Int) = 244 by omega), cond_true, t4b, Lib.slow_F4 _ _ _ _ _ hn h1 h2 h3 d2]
      · rw [E0 (show ((bt s i : Nat) : Int) ≠ 244 by omega), cond_false, t4c, Lib.slow_F1 _ _ _ _ _ hn h1 h2 h3 (by omega)]
  · rw [F (show ¬ ((bt s i : Nat) : Int) ≤ 244 by omega), cond_false, Lib.bad_eq _ _ _ _ _ hb (by unfold Lib.firstT; rw [if_neg c0, if_neg c1, if_neg c2, if_neg (by omega), if_neg (by omega), if_neg (by omega), if_neg c3, if_neg (by omega), if_neg (by omega), if_neg (by omega)])]
    rfl
end
theorem wd_pos (s : ByteArray) (i : Nat) : 1 ≤ wd s i := Lib.width_pos s i
theorem wd_le {s : ByteArray} {i : Nat} (h : i < s.size) : i + wd s i ≤ s.size := by
  unfold wd
  rw [Lib.decode_at]
  have := Lib.decodeN_width_le (s.size - i) (s.get! i).toNat (s.get! (i + 1)).toNat (s.get! (i + 2)).toNat (s.get! (i + 3)).toNat (by omega)
  omega
abbrev Ru := Int × Nat × Nat
def runesF (s : ByteArray) : Nat → Nat → List Ru
  | 0, _ => []
  | f + 1, i => if i < s.size then (rn s i, i, wd s i) :: runesF s f (i + wd s i) else []
theorem runesF_ge (s : ByteArray) : ∀ (f i : Nat), s.size ≤ i → runesF s f i = []
  | 0, _, _ => rfl
  | f + 1, i, h => by rw [runesF, if_neg (by omega)]
theorem runesF_any (s : ByteArray) : ∀ (f g i : Nat), s.size - i ≤ f → s.size - i ≤ g → runesF s f i = runesF s g i
  | 0, g, i, hf, _ => by rw [runesF_ge s g i (by omega), runesF]
  | f + 1, 0, i, _, hg => by rw [runesF_ge s (f + 1) i (by omega), runesF]
  | f + 1, g + 1, i, hf, hg => by
    rw [runesF, runesF]
    by_cases h : i < s.size
    · have := wd_pos s i
      rw [if_pos h, if_pos h, runesF_any s f g _ (by omega) (by omega)]
    · rw [if_neg h, if_neg h]
def runesL (s : ByteArray) (i : Nat) : List Ru := runesF s (s.size - i) i
theorem runesL_nil {s : ByteArray} {i : Nat} (h : s.size ≤ i) : runesL s i = [] := runesF_ge s _ i h
theorem runesL_cons {s : ByteArray} {i : Nat} (h : i < s.size) : runesL s i = (rn s i, i, wd s i) :: runesL s (i + wd s i) := by
  unfold runesL
  obtain ⟨f, hf⟩ : ∃ f, s.size - i = f + 1 := ⟨s.size - i - 1, by omega⟩
  have := wd_pos s i
  rw [hf, runesF, if_pos h, runesF_any s f (s.size - (i + wd s i)) _ (by omega) (by omega)]
theorem runesL_length {s : ByteArray} : ∀ (d i : Nat), s.size - i ≤ d → (runesL s i).length ≤ s.size - i := by
  intro d
  induction d with
  | zero => intro i h; rw [runesL_nil (by omega)]; simp
  | succ d ih =>
    intro i h
    by_cases hi : i < s.size
    · have := wd_pos s i
      have h2 := wd_le hi
      rw [runesL_cons hi, List.length_cons]
      have := ih (i + wd s i) (by omega)
      omega
    · rw [runesL_nil (by omega)]; simp
theorem asRef_eq (s : ByteArray) (i : Nat) : asRef (Utf8.decode s i) i = (rn s i, (i : Int), (wd s i : Int)) := rfl
theorem one_at {s : ByteArray} (hs : s.size ≤ 1048576) {i : Nat} (hi : i < s.size) : n138 (s, (i : Int)) = some (rn s i, (i : Int), (wd s i : Int)) := by rw [one_eq hs hi, asRef_eq]
def encR (r : Ru) : D := .agg [.val (.int .i64 r.1), .val (.int .i64 r.2.1), .val (.int .i64 r.2.2)]
theorem hasSize_map {α : Type} (f : α → D) (z : Nat) (hf : ∀ a, (f a).cells.length = z) : ∀ l : List α, hasSize z (l.map f) = true
  | [] => rfl
  | a :: l => by show ((f a).cells.length == z) = true; rw [hf a]; exact beq_iff_eq.2 rfl
theorem addOk_map {α : Type} (f : α → D) (z w : Nat) (hf : ∀ a, (f a).cells.length = z) (acc : List α) (a : α) (h : (acc.length + 1) * w ≤ maxBytes) : addOk (acc.map f).length (acc.map f) [f a] z w :=
  ⟨rfl, hasSize_map f z hf [a], hasSize_map f z hf acc, by simpa using h⟩
theorem toks_one {α : Type} (f : α → D) (acc : List α) (a : α) (k : Nat) : ([k, (acc.map f).length + ([f a] : List D).length] : List Nat) = [k, (acc.map f ++ [f a]).length] := by simp
theorem map_snoc {α : Type} (f : α → D) (acc : List α) (a : α) : acc.map f ++ [f a] = (acc ++ [a]).map f := by simp
theorem L126_step (s : ByteArray) (v3 : List D) (i k : Nat) (n : Nat) : L126_0 (n + 1) (s, v3, (i : Int), k) () = (bif (decide ((i : Int) < (s.size : Int))) then ((n138 (s, (i : Int))).bind fun y6 => (ask (addOk v3.length v3 ([.agg [.val (.int .i64 y6.1), .val (.int .i64 y6.2.1), .val (.int .i64 y6.2.2)]] : List D) 3 24) (ask (([k, (v3.length + ([.agg [.val (.int .i64 y6.1), .val (.int .i64 y6.2.1), .val (.int .i64 y6.2.2)]] : List D).length)] : List Nat) = [k, (v3 ++ ([.agg [.val (.int .i64 y6.1), .val (.int .i64 y6.2.1), .val (.int .i64 y6.2.2)]] : List D)).length]) (L126_0 n (s, (v3 ++ ([.agg [.val (.int .i64 y6.1), .val (.int .i64 y6.2.1), .val (.int .i64 y6.2.2)]] : List D)), (w64 ((i : Int) + y6.2.2)), k) ())))) else (ask (([k, v3.length] : List Nat) = [k, v3.length]) (some (O126_0.x0 v3 k, ())))) := rfl
theorem L126 {s : ByteArray} (hs : s.size ≤ 1048576) (k : Nat) : ∀ (d n i : Nat) (acc : List Ru), s.size - i ≤ d → d < n → acc.length ≤ i → i ≤ s.size → L126_0 n (s, acc.map encR, (i : Int), k) () = some (O126_0.x0 ((acc ++ runesL s i).map encR) k, ()) := by
  intro d
  induction d with
  | zero =>
    intro n i acc hd hn ha hi
    obtain ⟨m, rfl⟩ : ∃ m, n = m + 1 := ⟨n - 1, by omega⟩
    rw [L126_step, decide_eq_false (by omega), cond_false, ask_of rfl, runesL_nil (by omega), List.append_nil]
  | succ d ih =>
    intro n i acc hd hn ha hi
    obtain ⟨m, rfl⟩ : ∃ m, n = m + 1 := ⟨n - 1, by omega⟩
    by_cases h : i < s.size
    · have w1 := wd_pos s i
      have w2 := wd_le h
      have hadd := addOk_map encR 3 24 (fun _ => rfl) acc (rn s i, i, wd s i) (by unfold maxBytes; omega)
      have e5 : w64 ((i : Int) + (wd s i : Int)) = ((i + wd s i : Nat) : Int) := by rw [w64_id (by omega) (by omega)]; omega
      rw [L126_step, decide_eq_true (by omega), cond_true, one_at hs h, Option.bind_some]
      show ask (addOk (acc.map encR).length (acc.map encR) [encR (rn s i, i, wd s i)] 3 24) (ask (([k, (acc.map encR).length + ([encR (rn s i, i, wd s i)] : List D).length] : List Nat) = [k, (acc.map encR ++ [encR (rn s i, i, wd s i)]).length]) (L126_0 m (s, acc.map encR ++ [encR (rn s i, i, wd s i)], w64 ((i : Int) + (wd s i : Int)), k) ())) = _
      rw [ask_of hadd, ask_of (toks_one encR acc (rn s i, i, wd s i) k), e5]
      show L126_0 m (s, acc.map encR ++ [encR (rn s i, i, wd s i)], ((i + wd s i : Nat) : Int), k) () = _
      rw [map_snoc, ih m (i + wd s i) (acc ++ [(rn s i, i, wd s i)]) (by omega) (by omega) (by simp; omega) w2, runesL_cons h, List.append_assoc]
      rfl
    · rw [L126_step, decide_eq_false (by omega), cond_false, ask_of rfl, runesL_nil (by omega), List.append_nil]
theorem n126_eq {s : ByteArray} (hs : s.size ≤ 1048576) : n126 s = some ((runesL s 0).map encR) := by
  show (ask (([0, 0] : List Nat) = [0, ([] : List D).length]) ((L126_0 1000000000000 (s, ([] : List D), 0, 0) ()).bind fun p9 => match p9.1 with | .x0 z10 z11 => (some z10))) = _
  rw [ask_of (show ([0, 0] : List Nat) = [0, ([] : List D).length] from rfl)]
  have := L126 hs 0 s.size 1000000000000 0 [] (by omega) (by omega) (by simp) (by omega)
  rw [show ((0 : Nat) : Int) = 0 from rfl] at this
  show (L126_0 1000000000000 (s, ([] : List Ru).map encR, 0, 0) ()).bind _ = _
  rw [this]
  rfl
def letB (a0 : Int) : Bool := bif (bif (decide (a0 ≥ 97)) then (decide (a0 ≤ 122)) else false) then true else (bif (bif (decide (a0 ≥ 65)) then (decide (a0 ≤ 90)) else false) then true else (bif (a0 == 95) then true else (bif (bif (decide (a0 ≥ 192)) then (decide (a0 ≤ 591)) else false) then (bif (a0 != 215) then (a0 != 247) else false) else (bif (bif (decide (a0 ≥ 913)) then (decide (a0 ≤ 969)) else false) then (a0 != 930) else false))))
theorem n127_eq (r : Int) : n127 r = some (letB r) := by
  simp only [n127, letB, cond_some]
theorem n125_eq (r : Int) : n125 r = some (letB r) := by rw [letter_eq, n127_eq]
def restB (r : Int) : Bool := bif letB r then true else (bif (decide (r ≥ 48)) then (bif (decide (r ≤ 57)) then true else (r == 39)) else (r == 39))
theorem n128_eq (r : Int) : n128 r = some (restB r) := by
  show (n127 r).bind _ = _
  rw [n127_eq, Option.bind_some]
  simp only [restB, cond_some]
theorem letB_neg : letB (-1) = false := by decide +kernel
theorem letB_bad : letB 65533 = false := by decide +kernel
theorem restB_neg : restB (-1) = false := by decide +kernel
theorem restB_bad : restB 65533 = false := by decide +kernel
theorem raw_let (s : ByteArray) (i : Nat) : letB ((Utf8.decode s i).1 : Int) = letB (rn s i) := by
  unfold rn
  split
  · rename_i h
    rw [h, letB_neg]; exact letB_bad
  · rfl
theorem raw_rest (s : ByteArray) (i : Nat) : restB ((Utf8.decode s i).1 : Int) = restB (rn s i) := by
  unfold rn
  split
  · rename_i h
    rw [h, restB_neg]; exact restB_bad
  · rfl
def okFrom : Bool → List Ru → Bool
  | _, [] => true
  | true, r :: l => letB r.1 && okFrom false l
  | false, r :: l => restB r.1 && okFrom false l
theorem L107_step (s : ByteArray) (v : Int) (i n : Nat) : L107_0 (n + 1) (v, s, i) () = (bif decide (i < s.size) then ((n125 ((Utf8.decode s i).1 : Int)).bind fun y5 => (bif (!y5) then (bif ((w64 (v + 1)) == 1) then (some (O107_0.x0 21 s (i + (Utf8.decode s i).2), ())) else (bif (((Utf8.decode s i).1 : Int) != 39) then (bif (decide (((Utf8.decode s i).1 : Int) < 48)) then (some (O107_0.x0 21 s (i + (Utf8.decode s i).2), ())) else (bif (decide (((Utf8.decode s i).1 : Int) > 57)) then (some (O107_0.x0 21 s (i + (Utf8.decode s i).2), ())) else (L107_0 n ((w64 (v + 1)), s, (i + (Utf8.decode s i).2)) ()))) else (L107_0 n ((w64 (v + 1)), s, (i + (Utf8.decode s i).2)) ()))) else (L107_0 n ((w64 (v + 1)), s, (i + (Utf8.decode s i).2)) ()))) else (some (O107_0.x1 v s i, ()))) := rfl
theorem L107 {s : ByteArray} (hs : s.size ≤ 1048576) : ∀ (d n i c : Nat), s.size - i ≤ d → d < n → c ≤ i → i ≤ s.size →
    ∃ j, L107_0 n ((c : Int), s, i) () = some (if okFrom (decide (c = 0)) (runesL s i) = true then O107_0.x1 ((c + (runesL s i).length : Nat) : Int) s j else O107_0.x0 21 s j, ()) := by
  intro d
  induction d with
  | zero =>
    intro n i c hd hn hc hi
    obtain ⟨m, rfl⟩ : ∃ m, n = m + 1 := ⟨n - 1, by omega⟩
    rw [L107_step, decide_eq_false (by omega), cond_false, runesL_nil (by omega)]
    exact ⟨i, by rw [if_pos (by simp [okFrom])]; rfl⟩
  | succ d ih =>
    intro n i c hd hn hc hi
    obtain ⟨m, rfl⟩ : ∃ m, n = m + 1 := ⟨n - 1, by omega⟩
    by_cases h : i < s.size
    · have w1 := wd_pos s i
      have w2 := wd_le h
      have e5 : w64 ((c : Int) + 1) = ((c + 1 : Nat) : Int) := by rw [w64_id (by omega) (by omega)]; omega
      obtain ⟨j, hj⟩ := ih m (i + wd s i) (c + 1) (by omega) (by omega) (by omega) w2
      have hj' : L107_0 m (((c + 1 : Nat) : Int), s, i + (Utf8.decode s i).2) () = _ := hj
      rw [show decide (c + 1 = 0) = false by simp] at hj'
      rw [L107_step, decide_eq_true h, cond_true, e5, n125_eq, Option.bind_some, raw_let, runesL_cons h]
      have hlen : c + (runesL s (i + wd s i)).length + 1 = c + 1 + (runesL s (i + wd s i)).length := by omega
      cases hl : letB (rn s i) with
      | true =>
        refine ⟨j, ?_⟩
        have hr : restB (rn s i) = true := by simp [restB, hl]
        have ho : okFrom (decide (c = 0)) ((rn s i, i, wd s i) :: runesL s (i + wd s i)) = okFrom false (runesL s (i + wd s i)) := by
          cases decide (c = 0) with
          | true => simp [okFrom, hl]
          | false => simp [okFrom, hr]
        rw [ho, List.length_cons]
        show L107_0 m (((c + 1 : Nat) : Int), s, i + (Utf8.decode s i).2) () = _
        rw [hj', show c + ((runesL s (i + wd s i)).length + 1) = c + 1 + (runesL s (i + wd s i)).length by omega]
      | false =>
        by_cases hc0 : c = 0
        · subst hc0
          refine ⟨i + (Utf8.decode s i).2, ?_⟩
          have ho : okFrom (decide ((0 : Nat) = 0)) ((rn s i, i, wd s i) :: runesL s (i + wd s i)) = false := by simp [okFrom, hl]
          rw [ho, if_neg (by simp)]
          rfl
        · have b1 : ((((c + 1 : Nat)) : Int) == 1) = false := by rw [beq_eq_false_iff_ne]; omega
          have hrr := raw_rest s i
          have hlr := raw_let s i
          rw [hl] at hlr
          have ho : okFrom (decide (c = 0)) ((rn s i, i, wd s i) :: runesL s (i + wd s i)) = (restB (rn s i) && okFrom false (runesL s (i + wd s i))) := by
            rw [decide_eq_false hc0]; rfl
          rw [ho, ← hrr, List.length_cons]
          simp only [restB, hlr, cond_false, Bool.not_false, cond_true, b1]
          generalize hR : ((Utf8.decode s i).1 : Int) = R
          have done : (some (O107_0.x0 21 s (i + (Utf8.decode s i).2), ()) : Option (O107_0 × Unit)) = some (if (false && okFrom false (runesL s (i + wd s i))) = true then O107_0.x1 ((c + ((runesL s (i + wd s i)).length + 1) : Nat) : Int) s (i + (Utf8.decode s i).2) else O107_0.x0 21 s (i + (Utf8.decode s i).2), ()) := by
            rw [Bool.false_and, if_neg (by simp)]
          have next : L107_0 m (((c + 1 : Nat) : Int), s, i + (Utf8.decode s i).2) () = some (if (true && okFrom false (runesL s (i + wd s i))) = true then O107_0.x1 ((c + ((runesL s (i + wd s i)).length + 1) : Nat) : Int) s j else O107_0.x0 21 s j, ()) := by
            rw [Bool.true_and, hj', show c + ((runesL s (i + wd s i)).length + 1) = c + 1 + (runesL s (i + wd s i)).length by omega]
          by_cases h39 : R = 39
          · have a1 : (R != 39) = false := by rw [h39]; rfl
            have a2 : (R == 39) = true := by rw [h39]; rfl
            have a3 : decide (R ≥ 48) = false := by rw [h39]; rfl
            refine ⟨j, ?_⟩
            rw [a1, a2, a3, cond_false, cond_false]
            exact next
          · have a1 : (R != 39) = true := by rw [bne_iff_ne]; exact h39
            have a2 : (R == 39) = false := by rw [beq_eq_false_iff_ne]; exact h39
            rw [a1, a2, cond_true]
            by_cases h48 : R < 48
            · refine ⟨i + (Utf8.decode s i).2, ?_⟩
              rw [decide_eq_true h48, cond_true, decide_eq_false (by omega : ¬ R ≥ 48), cond_false]
              exact done
            · by_cases h57 : R > 57
              · refine ⟨i + (Utf8.decode s i).2, ?_⟩
                rw [decide_eq_false h48, cond_false, decide_eq_true h57, cond_true, decide_eq_true (by omega : R ≥ 48), cond_true, decide_eq_false (by omega : ¬ R ≤ 57), cond_false]
                exact done
              · refine ⟨j, ?_⟩
                rw [decide_eq_false h48, cond_false, decide_eq_false h57, cond_false, decide_eq_true (by omega : R ≥ 48), cond_true, decide_eq_true (by omega : R ≤ 57), cond_true]
                exact next
    · rw [L107_step, decide_eq_false h, cond_false, runesL_nil (by omega)]
      exact ⟨i, by rw [if_pos (by simp [okFrom])]; rfl⟩
def isName (s : ByteArray) : Bool := decide (1 ≤ (runesL s 0).length ∧ (runesL s 0).length ≤ 32) && okFrom true (runesL s 0)
theorem n107_eq {s : ByteArray} (hs : s.size ≤ 1048576) : n107 s = some (bif isName s then 0 else 21) := by
  obtain ⟨j, hj⟩ := L107 hs s.size 1000000000000 0 0 (by omega) (by omega) (by omega) (by omega)
  show (((L107_0 1000000000000 (0, s, 0) ()).bind fun p12 => match p12.1 with | .x0 z13 z14 z15 => (some z13) | .x1 z16 z17 z18 => (bif (bif (z16 == 0) then true else (decide (z16 > 32))) then (some 21) else (some 0))) : Option Int) = _
  rw [show (0 : Int) = ((0 : Nat) : Int) from rfl, hj, Option.bind_some, show decide ((0 : Nat) = 0) = true from rfl, Nat.zero_add]
  unfold isName
  cases okFrom true (runesL s 0) with
  | false => rw [Bool.and_false, if_neg (by simp)]; rfl
  | true =>
    rw [Bool.and_true, if_pos rfl]
    simp only
    by_cases h0 : (runesL s 0).length = 0
    · rw [h0]; rfl
    · have b0 : ((((runesL s 0).length : Nat) : Int) == ((0 : Nat) : Int)) = false := by rw [beq_eq_false_iff_ne]; omega
      rw [b0, cond_false]
      by_cases h32 : (runesL s 0).length ≤ 32
      · rw [decide_eq_false (by omega), cond_false, decide_eq_true (by omega)]; rfl
      · rw [decide_eq_true (by omega), cond_true, decide_eq_false (by omega)]; rfl
theorem lidx_map {α : Type} (f : α → D) (l : List α) (k : Nat) : lidx (l.map f) (k : Int) = (l[k]?).map f := by
  unfold lidx
  rw [if_pos (by omega), Int.toNat_natCast, List.getElem?_map]
theorem L108_step (v : List D) (k n : Nat) : L108_0 (n + 1) (v, (k : Int)) () = (bif (decide ((k : Int) < ((v.length : Nat) : Int))) then ((lidx v (k : Int)).bind fun d9 => ask (d9.cells.length = 3) ((cellAt 0 d9).bind fun x10 => (asInt .i64 x10).bind fun x11 => ((n128 x11).bind fun y12 => (bif (!y12) then (some (O108_0.x0 false, ())) else (L108_0 n (v, (w64 ((k : Int) + 1))) ()))))) else (some (O108_0.x1 , ()))) := rfl
theorem L108 {l : List Ru} (hl : l.length ≤ 1048576) : ∀ (d n k : Nat), l.length - k ≤ d → d < n → k ≤ l.length → L108_0 n (l.map encR, (k : Int)) () = some (if okFrom false (l.drop k) = true then O108_0.x1 else O108_0.x0 false, ()) := by
  intro d
  induction d with
  | zero =>
    intro n k hd hn hk
    obtain ⟨m, rfl⟩ : ∃ m, n = m + 1 := ⟨n - 1, by omega⟩
    rw [L108_step, List.length_map, decide_eq_false (by omega), cond_false, List.drop_eq_nil_of_le (by omega)]
    rfl
  | succ d ih =>
    intro n k hd hn hk
    obtain ⟨m, rfl⟩ : ∃ m, n = m + 1 := ⟨n - 1, by omega⟩
    by_cases h : k < l.length
    · have e5 : w64 ((k : Int) + 1) = ((k + 1 : Nat) : Int) := by rw [w64_id (by omega) (by omega)]; omega
      rw [L108_step, List.length_map, decide_eq_true (by omega), cond_true, lidx_map, List.getElem?_eq_getElem h, Option.map_some, Option.bind_some, ask_of (show (encR l[k]).cells.length = 3 from rfl)]
      show (n128 (l[k]).1).bind _ = _
      rw [n128_eq, Option.bind_some, e5, List.drop_eq_getElem_cons h]
      cases hr : restB (l[k]).1 with
      | false =>
        rw [if_neg (by simp [okFrom, hr])]; rfl
      | true =>
        rw [Bool.not_true, cond_false, ih m (k + 1) (by omega) (by omega) (by omega)]
        simp [okFrom, hr]
    · rw [L108_step, List.length_map, decide_eq_false (by omega), cond_false, List.drop_eq_nil_of_le (by omega)]
      rfl
theorem n108_eq {s : ByteArray} (hs : s.size ≤ 1048576) : n108 s = some (isName s) := by
  have hle := runesL_length (s := s) s.size 0 (by omega)
  show ((n126 s).bind fun y2 => (bif (bif (decide (((y2.length : Nat) : Int) < 1)) then true else (decide (((y2.length : Nat) : Int) > 32))) then (some false) else ((lidx y2 0).bind fun d3 => ask (d3.cells.length = 3) ((cellAt 0 d3).bind fun x4 => (asInt .i64 x4).bind fun x5 => ((n127 x5).bind fun y6 => (bif (!y6) then (some false) else ((L108_0 1000000000000 (y2, 1) ()).bind fun p14 => match p14.1 with | .x0 z15 => (some z15) | .x1  => (some true)))))))) = _
  rw [n126_eq hs, Option.bind_some, List.length_map]
  unfold isName
  by_cases h0 : (runesL s 0).length < 1
  · rw [decide_eq_true (by omega), cond_true, cond_true, decide_eq_false (by omega), Bool.false_and]
  · rw [decide_eq_false (by omega), cond_false]
    by_cases h32 : (runesL s 0).length > 32
    · rw [decide_eq_true (by omega), cond_true, decide_eq_false (by omega), Bool.false_and]
    · have hl := L108 (l := runesL s 0) (by omega) (runesL s 0).length 1000000000000 1 (by omega) (by omega) (by omega)
      rw [decide_eq_false (by omega), cond_false, decide_eq_true (by omega), Bool.true_and, show (0 : Int) = ((0 : Nat) : Int) from rfl, lidx_map, List.getElem?_eq_getElem (by omega), Option.map_some, Option.bind_some, ask_of (show (encR (runesL s 0)[0]).cells.length = 3 from rfl)]
      show (n127 ((runesL s 0)[0]).1).bind _ = _
      rw [n127_eq, Option.bind_some]
      have hc : okFrom true (runesL s 0) = (letB ((runesL s 0)[0]).1 && okFrom false ((runesL s 0).drop 1)) := by
        have : runesL s 0 = (runesL s 0)[0] :: (runesL s 0).drop 1 := by
          conv => lhs; rw [← List.drop_zero (l := runesL s 0), List.drop_eq_getElem_cons (by omega)]
        conv => lhs; rw [this]
        rfl
      rw [hc]
      cases letB ((runesL s 0)[0]).1 with
      | false => rfl
      | true =>
        rw [Bool.not_true, cond_false, Bool.true_and, show (1 : Int) = ((1 : Nat) : Int) from rfl, hl, Option.bind_some]
        cases okFrom false ((runesL s 0).drop 1) <;> rfl
end Ev

set_option linter.unusedSimpArgs false
set_option linter.unusedVariables false
namespace Ev
open Go
inductive V where
  | mk (k i m : Int) (t : ByteArray) (l : List V)
mutual
def V.d : V → D
  | .mk k i m t l => .agg [.val (.int .i64 k), .val (.int .i64 i), .val (.int .i64 m), .val (.string t), .slice (V.ds l)]
def V.ds : List V → List D
  | [] => []
  | v :: l => v.d :: V.ds l
end
theorem V.ds_eq : ∀ l : List V, V.ds l = l.map V.d
  | [] => by rw [V.ds]; rfl
  | v :: l => by rw [V.ds, V.ds_eq l]; rfl
theorem V.d_mk (k i m : Int) (t : ByteArray) (l : List V) : (V.mk k i m t l).d = .agg [.val (.int .i64 k), .val (.int .i64 i), .val (.int .i64 m), .val (.string t), .slice (V.ds l)] := by rw [V.d]
def V.tup : V → Int × Int × Int × ByteArray × List D
  | .mk k i m t l => (k, i, m, t, V.ds l)
theorem lidx_ds (l : List V) (i : Nat) : lidx (V.ds l) (i : Int) = (l[i]?).map V.d := by rw [V.ds_eq, lidx_map]
theorem ds_length (l : List V) : (V.ds l).length = l.length := by rw [V.ds_eq, List.length_map]
mutual
def V.nodes : V → Nat
  | .mk _ _ _ _ l => 1 + V.nodesL l
def V.nodesL : List V → Nat
  | [] => 0
  | v :: l => v.nodes + V.nodesL l
end
mutual
def V.hgt : V → Nat
  | .mk _ _ _ _ l => 1 + V.hgtL l
def V.hgtL : List V → Nat
  | [] => 0
  | v :: l => max v.hgt (V.hgtL l)
end
mutual
def V.big : V → Nat
  | .mk _ _ _ t l => 1 + t.size + V.bigL l
def V.bigL : List V → Nat
  | [] => 0
  | v :: l => v.big + V.bigL l
end
theorem V.hgt_pos (v : V) : 1 ≤ v.hgt := by cases v; rw [V.hgt]; omega
theorem V.big_pos (v : V) : 1 ≤ v.big := by cases v; rw [V.big]; omega
theorem V.len_bigL : ∀ l : List V, l.length ≤ V.bigL l
  | [] => by simp [V.bigL]
  | v :: l => by
    have := V.len_bigL l
    have := v.big_pos
    rw [V.bigL, List.length_cons]; omega
theorem V.mem_bigL : ∀ {l : List V} {v : V}, v ∈ l → v.big ≤ V.bigL l
  | w :: l, v, h => by
    rw [V.bigL]
    rcases List.mem_cons.1 h with rfl | h
    · omega
    · have := V.mem_bigL h; omega
theorem V.mem_hgtL : ∀ {l : List V} {v : V}, v ∈ l → v.hgt ≤ V.hgtL l
  | w :: l, v, h => by
    rw [V.hgtL]
    rcases List.mem_cons.1 h with rfl | h
    · omega
    · have := V.mem_hgtL h; omega
theorem drop_cons {α : Type} {l : List α} {i : Nat} {v : α} {r : List α} (h : l.drop i = v :: r) : l[i]? = some v ∧ l.drop (i + 1) = r ∧ i < l.length ∧ v ∈ l := by
  have hi : i < l.length := by
    rcases Nat.lt_or_ge i l.length with hi | hi
    · exact hi
    · rw [List.drop_eq_nil_of_le hi] at h; cases h
  rw [List.drop_eq_getElem_cons hi] at h
  injection h with h1 h2
  refine ⟨by rw [List.getElem?_eq_getElem hi, h1], h2, hi, ?_⟩
  rw [← h1]; exact List.getElem_mem hi
theorem drop_nil {α : Type} {l : List α} {i : Nat} (h : l.drop i = []) : l.length ≤ i := by simpa using h
theorem next_idx {i : Nat} (h : i < 9223372036854775807) : w64 ((i : Int) + 1) = ((i + 1 : Nat) : Int) := by rw [w64_id (by omega) (by omega)]; omega
def Fits (c dep : Nat) (v : V) : Prop := c + v.nodes ≤ 4096 ∧ dep + v.hgt ≤ 17
def FitsL (c dep : Nat) (l : List V) : Prop := c + V.nodesL l ≤ 4096 ∧ dep + V.hgtL l ≤ 16
def Good45 (k c dep : Nat) (v : V) : Prop := ∃ m c' : Nat, n45 k ((c : Int), v.tup.1, v.tup.2.1, v.tup.2.2.1, v.tup.2.2.2.1, v.tup.2.2.2.2, (dep : Int)) = some ((m : Int), (c' : Int)) ∧ m ≤ 17 ∧ c' ≤ 4097 ∧
  ((Fits c dep v ∧ m + 1 = dep + v.hgt ∧ c' = c + v.nodes) ∨ (¬ Fits c dep v ∧ (c' > 4096 ∨ m > 16)))
theorem L45_step (F : Int × Int × Int × Int × ByteArray × List D × Int → Option (Int × Int)) (n : Nat) (dep most : Int) (l : List V) (i : Nat) (len c x1 x2 x3 : Int) (x4 : ByteArray) (x5 : List D) (k im mm : Int) (t : ByteArray) (s : List V) (h : l[i]? = some (.mk k im mm t s)) :
    L45_0 F (n + 1) (dep, most, V.ds l, len, (i : Int), c, x1, x2, x3, x4, x5) () = (bif (decide ((i : Int) < len)) then ((F (c, k, im, mm, t, V.ds s, (w64 (dep + 1)))).bind fun y31 => (bif (bif (decide (y31.2 > 4096)) then true else (decide ((if y31.1 > most then y31.1 else most) > 16))) then (some (O45_0.x0 (if y31.1 > most then y31.1 else most) (if y31.1 > most then y31.1 else most) y31.2 x1 x2 x3 x4 x5, ())) else (L45_0 F n (dep, (if y31.1 > most then y31.1 else most), V.ds l, len, (w64 ((i : Int) + 1)), y31.2, x1, x2, x3, x4, x5) ()))) else (some (O45_0.x1 most c x1 x2 x3 x4 x5, ()))) := by
  rw [L45_0, lidx_ds, h, Option.map_some, Option.bind_some, V.d_mk]
  rfl
theorem L45_end (F : Int × Int × Int × Int × ByteArray × List D × Int → Option (Int × Int)) (n : Nat) (dep most : Int) (l : List D) (i : Nat) (len c x1 x2 x3 : Int) (x4 : ByteArray) (x5 : List D) (h : ¬ (i : Int) < len) :
    L45_0 F (n + 1) (dep, most, l, len, (i : Int), c, x1, x2, x3, x4, x5) () = (some (O45_0.x1 most c x1 x2 x3 x4 x5, ())) := by
  rw [L45_0, decide_eq_false h, cond_false]
theorem L45 {k : Nat} {l : List V} (hl : l.length ≤ 1048576) {dep : Nat} (hk : ∀ (c : Nat) (v : V), v ∈ l → c ≤ 4096 → Good45 k c (dep + 1) v) (hd : 1 ≤ dep ∧ dep ≤ 16) (x1 x2 x3 : Int) (x4 : ByteArray) (x5 : List D) : ∀ (rest : List V) (n i c most : Nat), l.drop i = rest → rest.length < n → c ≤ 4096 → dep ≤ most → most ≤ 16 →
    ∃ m c' : Nat, (L45_0 (n45 k) n ((dep : Int), (most : Int), V.ds l, ((l.length : Nat) : Int), (i : Int), (c : Int), x1, x2, x3, x4, x5) () = some (O45_0.x1 (m : Int) (c' : Int) x1 x2 x3 x4 x5, ()) ∧ FitsL c dep rest ∧ m = max most (dep + V.hgtL rest) ∧ c' = c + V.nodesL rest) ∨ (L45_0 (n45 k) n ((dep : Int), (most : Int), V.ds l, ((l.length : Nat) : Int), (i : Int), (c : Int), x1, x2, x3, x4, x5) () = some (O45_0.x0 (m : Int) (m : Int) (c' : Int) x1 x2 x3 x4 x5, ()) ∧ ¬ FitsL c dep rest ∧ m ≤ 17 ∧ c' ≤ 4097 ∧ (c' > 4096 ∨ m > 16)) := by
  intro rest
  induction rest with
  | nil =>
    intro n i c most hr hn hc hm1 hm2
    obtain ⟨n, rfl⟩ : ∃ m, n = m + 1 := ⟨n - 1, by simp at hn; omega⟩
    have := drop_nil hr
    refine ⟨most, c, .inl ⟨L45_end _ _ _ _ _ _ _ _ _ _ _ _ _ (by omega), ⟨by simp [V.nodesL]; omega, by simp [V.hgtL]; omega⟩, by simp [V.hgtL]; omega, by simp [V.nodesL]⟩⟩
  | cons v rest ih =>
    intro n i c most hr hn hc hm1 hm2
    obtain ⟨n, rfl⟩ : ∃ m, n = m + 1 := ⟨n - 1, by simp at hn; omega⟩
    obtain ⟨h1, h2, h3, h4⟩ := drop_cons hr
    obtain ⟨m, c', e1, e2, e3, e4⟩ := hk c v h4 hc
    obtain ⟨k0, i0, m0, t0, l0⟩ := v
    rw [L45_step _ _ _ _ _ _ _ _ _ _ _ _ _ _ _ _ _ _ h1, decide_eq_true (by omega : (i : Int) < ((l.length : Nat) : Int)), cond_true, next_idx (i := dep) (by omega)]
    simp only [V.tup] at e1
    rw [e1, Option.bind_some]
    have hmx : (if (m : Int) > (most : Int) then (m : Int) else (most : Int)) = ((max most m : Nat) : Int) := by split <;> omega
    simp only [hmx]
    rw [next_idx (i := i) (by omega)]
    have hp := V.hgt_pos (.mk k0 i0 m0 t0 l0)
    rcases e4 with ⟨f1, f2, f3⟩ | ⟨f1, f2⟩
    · 
      unfold Fits at f1
      rw [decide_eq_false (by omega : ¬ (c' : Int) > 4096), cond_false, decide_eq_false (by omega : ¬ ((max most m : Nat) : Int) > 16), cond_false]
      obtain ⟨m2, c2, g⟩ := ih n (i + 1) c' (max most m) h2 (by simp at hn; omega) (by omega) (by omega) (by omega)
      refine ⟨m2, c2, ?_⟩
      rcases g with ⟨g1, g2, g3, g4⟩ | ⟨g1, g2, g3⟩
      · left
        refine ⟨g1, ?_, ?_, ?_⟩
        · unfold FitsL at g2 ⊢
          rw [V.nodesL, V.hgtL]; omega
        · rw [V.hgtL]; omega
        · rw [V.nodesL]; omega
      · right
        refine ⟨g1, ?_, g3⟩
        intro q
        apply g2
        unfold FitsL at q ⊢
        rw [V.nodesL, V.hgtL] at q; omega
    · 
      have hb : (bif (decide ((c' : Int) > 4096)) then true else (decide (((max most m : Nat) : Int) > 16))) = true := by
        rcases f2 with f2 | f2
        · rw [decide_eq_true (by omega)]; rfl
        · rw [decide_eq_true (by omega : ((max most m : Nat) : Int) > 16)]; cases decide ((c' : Int) > 4096) <;> rfl
      rw [hb, cond_true]
      refine ⟨max most m, c', .inr ⟨rfl, ?_, by omega, e3, by omega⟩⟩
      intro q
      apply f1
      unfold FitsL at q
      unfold Fits
      rw [V.nodesL, V.hgtL] at q; omega
theorem good45 : ∀ (k c dep : Nat) (v : V), v.big ≤ 1048576 → c ≤ 4096 → 1 ≤ dep → dep ≤ 17 → 18 ≤ k + dep → Good45 k c dep v := by
  intro k
  induction k with
  | zero => intro c dep v _ _ _ h1 h2; omega
  | succ k ih =>
    intro c dep v hb hc h0 h1 h2
    obtain ⟨k0, i0, m0, t0, l0⟩ := v
    have hp : 1 ≤ 1 + V.hgtL l0 := by omega
    unfold Good45
    rw [n45]
    simp only [V.tup]
    rw [next_idx (i := c) (by omega)]
    rw [V.big] at hb
    have hll := V.len_bigL l0
    by_cases hx : c + 1 > 4096
    · rw [decide_eq_true (by omega : ((c + 1 : Nat) : Int) > 4096), cond_true, cond_true]
      exact ⟨dep, c + 1, rfl, by omega, by omega, .inr ⟨fun q => by unfold Fits at q; rw [V.nodes] at q; omega, by omega⟩⟩
    · rw [decide_eq_false (by omega : ¬ ((c + 1 : Nat) : Int) > 4096), cond_false]
      by_cases hy : dep > 16
      · rw [decide_eq_true (by omega : (dep : Int) > 16), cond_true]
        exact ⟨dep, c + 1, rfl, by omega, by omega, .inr ⟨fun q => by unfold Fits at q; rw [V.hgt] at q; omega, by omega⟩⟩
      · rw [decide_eq_false (by omega : ¬ (dep : Int) > 16), cond_false, ds_length]
        obtain ⟨m, c', g⟩ := L45 (k := k) (l := l0) (by omega) (dep := dep) (fun c v hv hc => ih c (dep + 1) v (by have := V.mem_bigL hv; omega) hc (by omega) (by omega) (by omega)) (by omega) k0 i0 m0 t0 (V.ds l0) l0 1000000000000 0 (c + 1) dep (by simp) (by omega) (by omega) (Nat.le_refl _) (by omega)
        rcases g with ⟨g1, g2, g3, g4⟩ | ⟨g1, g2, g3, g4, g5⟩
        · rw [show ((0 : Nat) : Int) = 0 from rfl] at g1
          rw [g1]
          unfold FitsL at g2
          refine ⟨m, c', rfl, by omega, by omega, .inl ⟨?_, ?_, ?_⟩⟩
          · unfold Fits; rw [V.nodes, V.hgt]; omega
          · rw [V.hgt]; omega
          · rw [V.nodes]; omega
        · rw [show ((0 : Nat) : Int) = 0 from rfl] at g1
          rw [g1]
          refine ⟨m, c', rfl, g3, g4, .inr ⟨?_, g5⟩⟩
          intro q
          apply g2
          unfold Fits at q
          unfold FitsL
          rw [V.nodes, V.hgt] at q; omega
def V.small (v : V) : Bool := decide (v.nodes ≤ 4096 ∧ v.hgt ≤ 16)
theorem small_eq {v : V} (hb : v.big ≤ 1048576) : n43 v.tup = some v.small := by
  obtain ⟨m, c', e1, e2, e3, e4⟩ := good45 64 0 1 v hb (by omega) (by omega) (by omega) (by omega)
  obtain ⟨k0, i0, m0, t0, l0⟩ := v
  simp only [V.tup, n43] at e1 ⊢
  rw [show (0 : Int) = ((0 : Nat) : Int) from rfl, show (1 : Int) = ((1 : Nat) : Int) from rfl, e1, Option.bind_some]
  congr 1
  unfold V.small
  rcases e4 with ⟨f1, f2, f3⟩ | ⟨f1, f2⟩
  · unfold Fits at f1
    rw [decide_eq_true (by omega : (m : Int) ≤ 16), cond_true, decide_eq_true (by omega : (c' : Int) ≤ 4096), decide_eq_true (by omega)]
  · rw [decide_eq_false (p := V.nodes _ ≤ 4096 ∧ _) (fun q => f1 ⟨by omega, by omega⟩)]
    by_cases hm : (m : Int) ≤ 16
    · rw [decide_eq_true hm, cond_true, decide_eq_false (by omega)]
    · rw [decide_eq_false hm, cond_false]
def Good41 (k c dep : Nat) (v : V) : Prop := ∃ c' : Nat, n41 k (v.tup.1, v.tup.2.1, v.tup.2.2.1, v.tup.2.2.2.1, v.tup.2.2.2.2, (c : Int), (dep : Int)) = some (c' : Int) ∧ c' ≤ 4097 ∧
  ((Fits c dep v ∧ c' = c + v.nodes) ∨ (¬ Fits c dep v ∧ c' > 4096))
theorem L41_step (F : Int × Int × Int × ByteArray × List D × Int × Int → Option Int) (n : Nat) (dep : Int) (l : List V) (i : Nat) (c x1 x2 x3 : Int) (x4 : ByteArray) (k im mm : Int) (t : ByteArray) (s : List V) (h : l[i]? = some (.mk k im mm t s)) :
    L41_0 F (n + 1) (c, dep, (i : Int), x1, x2, x3, x4, V.ds l) () = (bif (decide ((i : Int) < ((l.length : Nat) : Int))) then ((F (k, im, mm, t, V.ds s, c, (w64 (dep + 1)))).bind fun y27 => (bif (decide (y27 > 4096)) then (some (O41_0.x0 y27 y27 x1 x2 x3 x4 (V.ds l), ())) else (L41_0 F n (y27, dep, (w64 ((i : Int) + 1)), x1, x2, x3, x4, V.ds l) ()))) else (some (O41_0.x1 c x1 x2 x3 x4 (V.ds l), ()))) := by
  rw [L41_0, lidx_ds, h, Option.map_some, Option.bind_some, V.d_mk, ds_length]
  rfl
theorem L41_end (F : Int × Int × Int × ByteArray × List D × Int × Int → Option Int) (n : Nat) (dep : Int) (l : List V) (i : Nat) (c x1 x2 x3 : Int) (x4 : ByteArray) (h : l.length ≤ i) :
    L41_0 F (n + 1) (c, dep, (i : Int), x1, x2, x3, x4, V.ds l) () = (some (O41_0.x1 c x1 x2 x3 x4 (V.ds l), ())) := by
  rw [L41_0, ds_length, decide_eq_false (by omega), cond_false]
theorem L41c {k : Nat} {l : List V} (hl : l.length ≤ 1048576) {dep : Nat} (hk : ∀ (c : Nat) (v : V), v ∈ l → c ≤ 4096 → Good41 k c (dep + 1) v) (hd : 1 ≤ dep ∧ dep ≤ 16) (x1 x2 x3 : Int) (x4 : ByteArray) : ∀ (rest : List V) (n i c : Nat), l.drop i = rest → rest.length < n → c ≤ 4096 →
    ∃ c' : Nat, (L41_0 (n41 k) n ((c : Int), (dep : Int), (i : Int), x1, x2, x3, x4, V.ds l) () = some (O41_0.x1 (c' : Int) x1 x2 x3 x4 (V.ds l), ()) ∧ FitsL c dep rest ∧ c' = c + V.nodesL rest) ∨ (L41_0 (n41 k) n ((c : Int), (dep : Int), (i : Int), x1, x2, x3, x4, V.ds l) () = some (O41_0.x0 (c' : Int) (c' : Int) x1 x2 x3 x4 (V.ds l), ()) ∧ ¬ FitsL c dep rest ∧ c' ≤ 4097 ∧ c' > 4096) := by
  intro rest
  induction rest with
  | nil =>
    intro n i c hr hn hc
    obtain ⟨n, rfl⟩ : ∃ m, n = m + 1 := ⟨n - 1, by simp at hn; omega⟩
    have := drop_nil hr
    refine ⟨c, .inl ⟨L41_end _ _ _ _ _ _ _ _ _ _ this, ⟨by simp [V.nodesL]; omega, by simp [V.hgtL]; omega⟩, by simp [V.nodesL]⟩⟩
  | cons v rest ih =>
    intro n i c hr hn hc
    obtain ⟨n, rfl⟩ : ∃ m, n = m + 1 := ⟨n - 1, by simp at hn; omega⟩
    obtain ⟨h1, h2, h3, h4⟩ := drop_cons hr
    obtain ⟨c', e1, e3, e4⟩ := hk c v h4 hc
    obtain ⟨k0, i0, m0, t0, l0⟩ := v
    rw [L41_step _ _ _ _ _ _ _ _ _ _ _ _ _ _ _ h1, decide_eq_true (by omega : (i : Int) < ((l.length : Nat) : Int)), cond_true, next_idx (i := dep) (by omega)]
    simp only [V.tup] at e1
    rw [e1, Option.bind_some, next_idx (i := i) (by omega)]
    rcases e4 with ⟨f1, f3⟩ | ⟨f1, f2⟩
    · unfold Fits at f1
      rw [decide_eq_false (by omega : ¬ (c' : Int) > 4096), cond_false]
      obtain ⟨c2, g⟩ := ih n (i + 1) c' h2 (by simp at hn; omega) (by omega)
      refine ⟨c2, ?_⟩
      have hp := V.hgt_pos (.mk k0 i0 m0 t0 l0)
      rcases g with ⟨g1, g2, g4⟩ | ⟨g1, g2, g3⟩
      · left
        refine ⟨g1, ?_, ?_⟩
        · unfold FitsL at g2 ⊢
          rw [V.nodesL, V.hgtL]; omega
        · rw [V.nodesL]; omega
      · right
        refine ⟨g1, ?_, g3⟩
        intro q
        apply g2
        unfold FitsL at q ⊢
        rw [V.nodesL, V.hgtL] at q; omega
    · rw [decide_eq_true (by omega : (c' : Int) > 4096), cond_true]
      refine ⟨c', .inr ⟨rfl, ?_, e3, f2⟩⟩
      intro q
      apply f1
      unfold FitsL at q
      unfold Fits
      rw [V.nodesL, V.hgtL] at q; omega
theorem good41 : ∀ (k c dep : Nat) (v : V), v.big ≤ 1048576 → c ≤ 4096 → 1 ≤ dep → dep ≤ 17 → 18 ≤ k + dep → Good41 k c dep v := by
  intro k
  induction k with
  | zero => intro c dep v _ _ _ h1 h2; omega
  | succ k ih =>
    intro c dep v hb hc h0 h1 h2
    obtain ⟨k0, i0, m0, t0, l0⟩ := v
    unfold Good41
    rw [n41]
    simp only [V.tup]
    rw [next_idx (i := c) (by omega)]
    rw [V.big] at hb
    have hll := V.len_bigL l0
    by_cases hx : c + 1 > 4096
    · rw [decide_eq_true (by omega : ((c + 1 : Nat) : Int) > 4096), cond_true, cond_true]
      exact ⟨4097, rfl, by omega, .inr ⟨fun q => by unfold Fits at q; rw [V.nodes] at q; omega, by omega⟩⟩
    · rw [decide_eq_false (by omega : ¬ ((c + 1 : Nat) : Int) > 4096), cond_false]
      by_cases hy : dep > 16
      · rw [decide_eq_true (by omega : (dep : Int) > 16), cond_true]
        exact ⟨4097, rfl, by omega, .inr ⟨fun q => by unfold Fits at q; rw [V.hgt] at q; omega, by omega⟩⟩
      · rw [decide_eq_false (by omega : ¬ (dep : Int) > 16), cond_false]
        obtain ⟨c', g⟩ := L41c (k := k) (l := l0) (by omega) (dep := dep) (fun c v hv hc => ih c (dep + 1) v (by have := V.mem_bigL hv; omega) hc (by omega) (by omega) (by omega)) (by omega) k0 i0 m0 t0 l0 1000000000000 0 (c + 1) (by simp) (by omega) (by omega)
        rcases g with ⟨g1, g2, g4⟩ | ⟨g1, g2, g3, g4⟩
        · rw [show ((0 : Nat) : Int) = 0 from rfl] at g1
          rw [g1]
          unfold FitsL at g2
          refine ⟨c', rfl, by omega, .inl ⟨?_, ?_⟩⟩
          · unfold Fits; rw [V.nodes, V.hgt]; omega
          · rw [V.nodes]; omega
        · rw [show ((0 : Nat) : Int) = 0 from rfl] at g1
          rw [g1]
          refine ⟨c', rfl, g3, .inr ⟨?_, g4⟩⟩
          intro q
          apply g2
          unfold Fits at q
          unfold FitsL
          rw [V.nodes, V.hgt] at q; omega
theorem counted_eq {v : V} (hb : v.big ≤ 1048576) : ∃ c' : Int, n41 64 (v.tup.1, v.tup.2.1, v.tup.2.2.1, v.tup.2.2.2.1, v.tup.2.2.2.2, 0, 1) = some c' ∧ decide (c' ≤ 4096) = v.small := by
  obtain ⟨c', e1, e3, e4⟩ := good41 64 0 1 v hb (by omega) (by omega) (by omega) (by omega)
  refine ⟨c', e1, ?_⟩
  unfold V.small
  rcases e4 with ⟨f1, f3⟩ | ⟨f1, f2⟩
  · unfold Fits at f1
    rw [decide_eq_true (by omega : (c' : Int) ≤ 4096), decide_eq_true (by omega)]
  · rw [decide_eq_false (by omega : ¬ (c' : Int) ≤ 4096), decide_eq_false (fun q => f1 ⟨by omega, by omega⟩)]
end Ev

set_option linter.unusedSimpArgs false
set_option linter.unusedVariables false
namespace Ev
open Go
def lex (a b : Int) : Int := if a = 0 then b else a
def c3 (a b : Int) : Int := if a < b then -1 else if a > b then 1 else 0
def cB (s t : ByteArray) : Int := Lib.compareBytes s.data.toList t.data.toList
def cLen (a b : Nat) : Int := c3 a b
mutual
def V.cmp : V → V → Int
  | .mk k i m t l, .mk k' i' m' t' l' => lex (c3 k k') (lex (cLen l.length l'.length) (lex (c3 i i') (lex (c3 m m') (lex (cB t t') (V.cmpL l l')))))
def V.cmpL : List V → List V → Int
  | [], [] => 0
  | [], _ :: _ => -1
  | _ :: _, [] => 1
  | a :: l, b :: l' => lex (a.cmp b) (V.cmpL l l')
end
mutual
def V.cmpR : V → V → Int
  | .mk k i m t l, .mk k' i' m' t' l' => lex (c3 k k') (lex (c3 i i') (lex (c3 m m') (lex (cB t t') (lex (cLen l.length l'.length) (V.cmpRL l l')))))
def V.cmpRL : List V → List V → Int
  | [], [] => 0
  | [], _ :: _ => -1
  | _ :: _, [] => 1
  | a :: l, b :: l' => lex (a.cmpR b) (V.cmpRL l l')
end
theorem lex_ne {a b : Int} (h : a ≠ 0) : lex a b = a := if_neg h
theorem lex_eq {a b : Int} (h : a = 0) : lex a b = b := if_pos h
theorem c3_ne {a b : Int} (h : a ≠ b) : c3 a b ≠ 0 := by unfold c3; split <;> (try split) <;> omega
theorem c3_eq (a : Int) : c3 a a = 0 := by unfold c3; split <;> (try split) <;> omega
theorem c3_zero {a b : Int} : c3 a b = 0 ↔ a = b := ⟨fun h => Classical.byContradiction fun q => c3_ne q h, fun h => h ▸ c3_eq a⟩
def Tri (x y z : Int) : Prop := (-1 ≤ x ∧ x ≤ 1) ∧ (-1 ≤ y ∧ y ≤ 1) ∧ (-1 ≤ z ∧ z ≤ 1) ∧ (0 < x ∨ 0 < y ∨ z < 0 ∨ (x = 0 ∧ y = 0 ∧ z = 0)) ∧ (x < 0 ∨ y < 0 ∨ 0 < z ∨ (x = 0 ∧ y = 0 ∧ z = 0))
theorem Tri.lex {x y z x' y' z' : Int} (h : Tri x y z) (h' : Tri x' y' z') : Tri (lex x x') (lex y y') (lex z z') := by
  unfold Tri Ev.lex at *
  obtain ⟨a1, a2, a3, a4, a5⟩ := h
  obtain ⟨b1, b2, b3, b4, b5⟩ := h'
  by_cases hx : x = 0 <;> by_cases hy : y = 0 <;> by_cases hz : z = 0 <;> simp only [hx, hy, hz, if_true, if_false] <;> refine ⟨by omega, by omega, by omega, by omega, by omega⟩
theorem Tri.c3 (a b c : Int) : Tri (c3 a b) (c3 b c) (c3 a c) := by
  unfold Tri Ev.c3
  by_cases h1 : a < b <;> by_cases h2 : a > b <;> by_cases h3 : b < c <;> by_cases h4 : b > c <;> by_cases h5 : a < c <;> by_cases h6 : a > c <;> simp only [h1, h2, h3, h4, h5, h6, if_true, if_false] <;> (first | omega | decide)
theorem u8_lt (a b : UInt8) : a < b ↔ a.toNat < b.toNat := UInt8.lt_iff_toNat_lt
theorem compareBytes_cons (a b : UInt8) (l l' : List UInt8) : Lib.compareBytes (a :: l) (b :: l') = lex (c3 a.toNat b.toNat) (Lib.compareBytes l l') := by
  rw [Lib.compareBytes]
  unfold lex c3
  simp only [u8_lt]
  by_cases h : a.toNat < b.toNat
  · simp only [h, show (a.toNat : Int) < b.toNat from by omega, if_true]
    rfl
  · by_cases h' : b.toNat < a.toNat
    · simp only [h, h', show ¬ (a.toNat : Int) < b.toNat from by omega, show (a.toNat : Int) > b.toNat from by omega, if_true, if_false]
      rfl
    · simp only [h, h', show ¬ (a.toNat : Int) < b.toNat from by omega, show ¬ (a.toNat : Int) > b.toNat from by omega, if_true, if_false]
def Rg (x : Int) : Prop := -1 ≤ x ∧ x ≤ 1
theorem Rg.lex {x y : Int} (h : Rg x) (h' : Rg y) : Rg (lex x y) := by
  unfold Ev.lex; split
  · exact h'
  · exact h
theorem Rg.c3 (a b : Int) : Rg (c3 a b) := by unfold Rg Ev.c3; split <;> (try split) <;> omega
theorem Rg.bytes : ∀ a b : List UInt8, Rg (Lib.compareBytes a b)
  | [], [] => by simp [Lib.compareBytes, Rg]
  | [], _ :: _ => by simp [Lib.compareBytes, Rg]
  | _ :: _, [] => by simp [Lib.compareBytes, Rg]
  | x :: a, y :: b => by rw [compareBytes_cons]; exact Rg.lex (Rg.c3 _ _) (Rg.bytes a b)
theorem Tri.bytes : ∀ a b c : List UInt8, Tri (Lib.compareBytes a b) (Lib.compareBytes b c) (Lib.compareBytes a c)
  | [], [], [] => by simp [Lib.compareBytes, Tri]
  | [], [], _ :: _ => by simp [Lib.compareBytes, Tri]
  | [], _ :: _, [] => by simp [Lib.compareBytes, Tri]
  | _ :: _, [], [] => by simp [Lib.compareBytes, Tri]
  | x :: a, [], z :: c => by
    have := Rg.bytes (x :: a) (z :: c)
    unfold Rg at this
    unfold Tri
    simp only [Lib.compareBytes] at this ⊢
    refine ⟨by omega, by omega, this, by omega, by omega⟩
  | [], y :: b, z :: c => by
    have := Rg.bytes (y :: b) (z :: c)
    unfold Rg at this
    unfold Tri
    simp only [Lib.compareBytes] at this ⊢
    refine ⟨by omega, this, by omega, by omega, by omega⟩
  | x :: a, y :: b, [] => by
    have := Rg.bytes (x :: a) (y :: b)
    unfold Rg at this
    unfold Tri
    simp only [Lib.compareBytes] at this ⊢
    refine ⟨this, by omega, by omega, by omega, by omega⟩
  | x :: a, y :: b, z :: c => by
    rw [compareBytes_cons, compareBytes_cons, compareBytes_cons]
    exact Tri.lex (Tri.c3 _ _ _) (Tri.bytes a b c)
theorem Tri.cB (a b c : ByteArray) : Tri (cB a b) (cB b c) (cB a c) := Tri.bytes _ _ _
mutual
theorem V.cmp_rg : ∀ a b : V, Rg (a.cmp b)
  | .mk k i m t l, .mk k' i' m' t' l' => by
    rw [V.cmp]
    exact Rg.lex (Rg.c3 _ _) (Rg.lex (Rg.c3 _ _) (Rg.lex (Rg.c3 _ _) (Rg.lex (Rg.c3 _ _) (Rg.lex (Rg.bytes _ _) (V.cmpL_rg l l')))))
theorem V.cmpL_rg : ∀ a b : List V, Rg (V.cmpL a b)
  | [], [] => by simp [V.cmpL, Rg]
  | [], _ :: _ => by simp [V.cmpL, Rg]
  | _ :: _, [] => by simp [V.cmpL, Rg]
  | x :: a, y :: b => by rw [V.cmpL]; exact Rg.lex (V.cmp_rg x y) (V.cmpL_rg a b)
end
mutual
theorem V.cmp_tri : ∀ a b c : V, Tri (a.cmp b) (b.cmp c) (a.cmp c)
  | .mk k i m t l, .mk k' i' m' t' l', .mk k'' i'' m'' t'' l'' => by
    rw [V.cmp, V.cmp, V.cmp]
    exact Tri.lex (Tri.c3 _ _ _) (Tri.lex (Tri.c3 _ _ _) (Tri.lex (Tri.c3 _ _ _) (Tri.lex (Tri.c3 _ _ _) (Tri.lex (Tri.cB _ _ _) (V.cmpL_tri l l' l'')))))
theorem V.cmpL_tri : ∀ a b c : List V, Tri (V.cmpL a b) (V.cmpL b c) (V.cmpL a c)
  | [], [], [] => by simp [V.cmpL, Tri]
  | [], [], _ :: _ => by simp [V.cmpL, Tri]
  | [], _ :: _, [] => by simp [V.cmpL, Tri]
  | _ :: _, [], [] => by simp [V.cmpL, Tri]
  | x :: y, [], z :: u => by
    have := V.cmpL_rg (x :: y) (z :: u)
    unfold Rg at this
    unfold Tri
    rw [show V.cmpL (x :: y) [] = 1 by rw [V.cmpL], show V.cmpL [] (z :: u) = -1 by rw [V.cmpL]]
    refine ⟨by omega, by omega, this, by omega, by omega⟩
  | [], x :: y, z :: u => by
    have := V.cmpL_rg (x :: y) (z :: u)
    unfold Rg at this
    unfold Tri
    rw [show V.cmpL [] (x :: y) = -1 by rw [V.cmpL], show V.cmpL [] (z :: u) = -1 by rw [V.cmpL]]
    refine ⟨by omega, this, by omega, by omega, by omega⟩
  | x :: y, z :: u, [] => by
    have := V.cmpL_rg (x :: y) (z :: u)
    unfold Rg at this
    unfold Tri
    rw [show V.cmpL (x :: y) [] = 1 by rw [V.cmpL], show V.cmpL (z :: u) [] = 1 by rw [V.cmpL]]
    refine ⟨this, by omega, by omega, by omega, by omega⟩
  | x :: a, y :: b, z :: c => by
    rw [V.cmpL, V.cmpL, V.cmpL]
    exact Tri.lex (V.cmp_tri x y z) (V.cmpL_tri a b c)
end
theorem lex_neg {a b a' b' : Int} (h : a' = -a) (h' : b' = -b) : lex a' b' = -(lex a b) := by
  unfold lex; split <;> split <;> omega
theorem c3_neg (a b : Int) : c3 b a = -(c3 a b) := by
  unfold c3
  by_cases h : a < b
  · rw [if_neg (by omega), if_pos (by omega), if_pos h]; rfl
  · by_cases h' : b < a
    · rw [if_pos h', if_neg h, if_pos (by omega)]
    · rw [if_neg h', if_neg (by omega), if_neg h, if_neg (by omega)]; rfl
theorem bytes_neg : ∀ a b : List UInt8, Lib.compareBytes b a = -(Lib.compareBytes a b)
  | [], [] => rfl
  | [], _ :: _ => rfl
  | _ :: _, [] => rfl
  | x :: a, y :: b => by
    rw [compareBytes_cons, compareBytes_cons]
    exact lex_neg (c3_neg _ _) (bytes_neg a b)
mutual
theorem V.cmp_neg : ∀ a b : V, b.cmp a = -(a.cmp b)
  | .mk k i m t l, .mk k' i' m' t' l' => by
    rw [V.cmp, V.cmp]
    exact lex_neg (c3_neg _ _) (lex_neg (c3_neg _ _) (lex_neg (c3_neg _ _) (lex_neg (c3_neg _ _) (lex_neg (bytes_neg _ _) (V.cmpL_neg l l')))))
theorem V.cmpL_neg : ∀ a b : List V, V.cmpL b a = -(V.cmpL a b)
  | [], [] => by rw [V.cmpL]; rfl
  | [], _ :: _ => by rw [V.cmpL, V.cmpL]; rfl
  | _ :: _, [] => by rw [V.cmpL, V.cmpL]
  | x :: a, y :: b => by
    rw [V.cmpL, V.cmpL]
    exact lex_neg (V.cmp_neg x y) (V.cmpL_neg a b)
end
theorem V.cmp_self (a : V) : a.cmp a = 0 := by
  have := V.cmp_neg a a; omega
theorem less_iff : ∀ a b : List UInt8, Op.bytesLess a b = decide (Lib.compareBytes a b < 0)
  | [], [] => by simp [Op.bytesLess, Lib.compareBytes]
  | [], _ :: _ => by simp [Op.bytesLess, Lib.compareBytes]
  | _ :: _, [] => by simp [Op.bytesLess, Lib.compareBytes]
  | x :: a, y :: b => by
    rw [Op.bytesLess, compareBytes_cons, less_iff a b]
    rw [Bool.eq_iff_iff]
    simp only [Bool.or_eq_true, Bool.and_eq_true, decide_eq_true_eq, beq_iff_eq, u8_lt, ← UInt8.toNat_inj]
    unfold lex c3
    by_cases h : x.toNat < y.toNat
    · simp only [h, show (x.toNat : Int) < y.toNat from by omega, if_true]
      simp
    · by_cases h' : x.toNat = y.toNat
      · simp only [h', Int.lt_irrefl, gt_iff_lt, if_false, if_true, Nat.lt_irrefl, false_or, true_and]
      · simp only [h, h', show ¬ (x.toNat : Int) < y.toNat from by omega, show (x.toNat : Int) > y.toNat from by omega, if_true, if_false, false_and, or_false, false_iff]
        simp
theorem compareBytes_zero : ∀ a b : List UInt8, Lib.compareBytes a b = 0 ↔ a = b
  | [], [] => by simp [Lib.compareBytes]
  | [], _ :: _ => by simp [Lib.compareBytes]
  | _ :: _, [] => by simp [Lib.compareBytes]
  | x :: a, y :: b => by
    rw [compareBytes_cons]
    unfold lex
    split
    · rename_i h
      rw [c3_zero] at h
      rw [compareBytes_zero a b]
      have : x = y := UInt8.toNat_inj.1 (by omega)
      simp [this]
    · rename_i h
      constructor
      · intro q; exact absurd q h
      · intro q; injection q with q1 q2; rw [q1] at h; exact absurd (c3_eq _) h
theorem cB_zero (s t : ByteArray) : cB s t = 0 ↔ s = t := by
  unfold cB
  rw [compareBytes_zero]
  exact ⟨fun h => ByteArray.ext (Array.toList_inj.1 h), fun h => h ▸ rfl⟩
theorem sLt_eq (s t : ByteArray) : sLt s t = decide (cB s t < 0) := by
  have e : ∀ x : ByteArray, x.toList = x.data.toList := fun x => by simp [ByteArray.toList_eq]
  unfold sLt cB
  rw [less_iff, e, e]
theorem sEq_eq (s t : ByteArray) : sEq s t = decide (cB s t = 0) := by
  rw [Bool.eq_iff_iff, sEq_iff, decide_eq_true_eq, cB_zero]
theorem n80_c3 (a b : Int) : n80 (decide (a < b), decide (a > b)) = some (c3 a b) := by
  unfold n80 c3
  by_cases h : a < b
  · simp [h]
  · simp only [h, decide_false, cond_false, if_false]
    by_cases h' : a > b <;> simp [h']
theorem n80_ne {a b : Int} (h : a ≠ b) : n80 (decide (a < b), true) = some (c3 a b) := by
  unfold n80 c3
  by_cases h' : a < b
  · simp [h']
  · simp only [h', decide_false, cond_false, if_false, cond_true]
    rw [if_pos (by omega)]
theorem n51_c3 (a b : Int) : n51 (decide (a < b), decide (a > b)) = some (c3 a b) := n80_c3 a b
theorem n51_cB (s t : ByteArray) : n51 (sLt s t, !(sLt s t || sEq s t)) = some (cB s t) := by
  have h := (Tri.cB s t t).1
  rw [sLt_eq, sEq_eq]
  unfold n51
  by_cases h1 : cB s t < 0
  · simp only [h1, decide_true, cond_true]; congr 1; omega
  · by_cases h2 : cB s t = 0
    · rw [h2]; rfl
    · simp only [h1, h2, decide_false, cond_false, Bool.false_or, Bool.not_false, cond_true]; congr 1; omega
def V.two : V → V → Int × Int × Int × ByteArray × List D × Int × Int × Int × ByteArray × List D
  | .mk k i m t l, .mk k' i' m' t' l' => (k, i, m, t, V.ds l, k', i', m', t', V.ds l')
theorem L49_2_raw (F : Int × Int × Int × ByteArray × List D × Int × Int × Int × ByteArray × List D → Option Int) (n : Nat) (l l' : List V) (i : Nat) (len x1 x2 x3 : Int) (x4 : ByteArray) (x5 : List D) (y1 y2 y3 : Int) (y4 : ByteArray) (q : Nat) (k im mm : Int) (t : ByteArray) (s : List V) (k' im' mm' : Int) (t' : ByteArray) (s' : List V) (h : l[i]? = some (.mk k im mm t s)) (h' : l'[i]? = some (.mk k' im' mm' t' s')) :
    L49_2 F (n + 1) (V.ds l, len, (i : Int), x1, x2, x3, x4, x5, y1, y2, y3, y4, V.ds l', q) () = (bif decide ((i : Int) < len) then ((F (k, im, mm, t, V.ds s, k', im', mm', t', V.ds s')).bind fun y115 => (bif (y115 != 0) then (ask (([q] : List Nat) = [q]) (some (O49_2.x0 y115 x1 x2 x3 x4 x5 y1 y2 y3 y4 (V.ds l') q, ()))) else (ask (([q] : List Nat) = [q]) (L49_2 F n (V.ds l, len, (w64 ((i : Int) + 1)), x1, x2, x3, x4, x5, y1, y2, y3, y4, V.ds l', q) ())))) else (ask (([q] : List Nat) = [q]) (some (O49_2.x1 x1 x2 x3 x4 x5 y1 y2 y3 y4 (V.ds l') q, ())))) := by
  rw [L49_2, lidx_ds, lidx_ds, h, h', Option.map_some, Option.map_some, Option.bind_some, V.d_mk, V.d_mk]
  rfl
theorem L49_2_step (F : Int × Int × Int × ByteArray × List D × Int × Int × Int × ByteArray × List D → Option Int) (n : Nat) (l l' : List V) (i : Nat) (x1 x2 x3 : Int) (x4 : ByteArray) (x5 : List D) (y1 y2 y3 : Int) (y4 : ByteArray) (q : Nat) (v w : V) (h : l[i]? = some v) (h' : l'[i]? = some w) (hi : i < l.length) :
    L49_2 F (n + 1) (V.ds l, ((l.length : Nat) : Int), (i : Int), x1, x2, x3, x4, x5, y1, y2, y3, y4, V.ds l', q) () = ((F (v.two w)).bind fun y115 => (bif (y115 != 0) then (some (O49_2.x0 y115 x1 x2 x3 x4 x5 y1 y2 y3 y4 (V.ds l') q, ())) else (L49_2 F n (V.ds l, ((l.length : Nat) : Int), (w64 ((i : Int) + 1)), x1, x2, x3, x4, x5, y1, y2, y3, y4, V.ds l', q) ()))) := by
  obtain ⟨k, im, mm, t, s⟩ := v
  obtain ⟨k', im', mm', t', s'⟩ := w
  rw [L49_2_raw F n l l' i _ x1 x2 x3 x4 x5 y1 y2 y3 y4 q k im mm t s k' im' mm' t' s' h h', decide_eq_true (by omega : (i : Int) < ((l.length : Nat) : Int)), cond_true]
  simp only [ask_of (show ([q] : List Nat) = [q] from rfl)]
  rfl
theorem L49_2_eq {F : Int × Int × Int × ByteArray × List D × Int × Int × Int × ByteArray × List D → Option Int} {l l' : List V} (hl : l.length ≤ 1048576) (hF : ∀ v ∈ l, ∀ w, F (v.two w) = some (v.cmp w)) (x1 x2 x3 : Int) (x4 : ByteArray) (x5 : List D) (y1 y2 y3 : Int) (y4 : ByteArray) (q : Nat) : ∀ (rest rest' : List V) (n i : Nat), l.drop i = rest → l'.drop i = rest' → rest.length = rest'.length → rest.length < n →
    L49_2 F n (V.ds l, ((l.length : Nat) : Int), (i : Int), x1, x2, x3, x4, x5, y1, y2, y3, y4, V.ds l', q) () = some (if V.cmpL rest rest' = 0 then O49_2.x1 x1 x2 x3 x4 x5 y1 y2 y3 y4 (V.ds l') q else O49_2.x0 (V.cmpL rest rest') x1 x2 x3 x4 x5 y1 y2 y3 y4 (V.ds l') q, ()) := by
  intro rest
  induction rest with
  | nil =>
    intro rest' n i hr hr' he hn
    obtain ⟨n, rfl⟩ : ∃ m, n = m + 1 := ⟨n - 1, by simp at hn; omega⟩
    have : rest' = [] := by cases rest' with | nil => rfl | cons => simp at he
    subst this
    have := drop_nil hr
    rw [L49_2, decide_eq_false (by omega), cond_false, V.cmpL, if_pos rfl]
    exact ask_of rfl
  | cons v rest ih =>
    intro rest' n i hr hr' he hn
    obtain ⟨n, rfl⟩ : ∃ m, n = m + 1 := ⟨n - 1, by simp at hn; omega⟩
    obtain ⟨w, rest', rfl⟩ : ∃ w r, rest' = w :: r := by cases rest' with | nil => simp at he | cons w r => exact ⟨w, r, rfl⟩
    obtain ⟨h1, h2, h3, h4⟩ := drop_cons hr
    obtain ⟨g1, g2, g3, g4⟩ := drop_cons hr'
    rw [L49_2_step F n l l' i x1 x2 x3 x4 x5 y1 y2 y3 y4 q v w h1 g1 h3, hF v h4 w, Option.bind_some, next_idx (by omega), V.cmpL]
    by_cases hz : v.cmp w = 0
    · rw [lex_eq hz, hz, show ((0 : Int) != 0) = false from rfl, cond_false, ih rest' n (i + 1) h2 g2 (by simpa using he) (by simp at hn; omega)]
    · rw [lex_ne hz, if_neg hz, show (v.cmp w != 0) = true by rw [bne_iff_ne]; exact hz, cond_true]
theorem L49_0_eq (F : Int × Int × Int × ByteArray × List D × Int × Int × Int × ByteArray × List D → Option Int) (a b c : Int) (x1 x2 x3 : Int) (x4 : ByteArray) (x5 : List D) (y1 y2 y3 : Int) (y4 : ByteArray) (y5 : List D) :
    L49_0 F 1000000000000 (([.val (.int .i64 a), .val (.int .i64 b), .val (.int .i64 c)] : List D), ((([.val (.int .i64 a), .val (.int .i64 b), .val (.int .i64 c)] : List D).length : Nat) : Int), 0, x1, x2, x3, x4, x5, y1, y2, y3, y4, y5) () = some (if lex a (lex b c) = 0 then O49_0.x1 x1 x2 x3 x4 x5 y1 y2 y3 y4 y5 3 else O49_0.x0 (lex a (lex b c)) x1 x2 x3 x4 x5 y1 y2 y3 y4 y5 3, ()) := by
  have step : ∀ (n : Nat) (i : Nat) (x : Int), ([.val (.int .i64 a), .val (.int .i64 b), .val (.int .i64 c)] : List D)[i]? = some (.val (.int .i64 x)) → i < 3 →
      L49_0 F (n + 1) (([.val (.int .i64 a), .val (.int .i64 b), .val (.int .i64 c)] : List D), ((([.val (.int .i64 a), .val (.int .i64 b), .val (.int .i64 c)] : List D).length : Nat) : Int), (i : Int), x1, x2, x3, x4, x5, y1, y2, y3, y4, y5) () = (bif (x != 0) then (some (O49_0.x0 x x1 x2 x3 x4 x5 y1 y2 y3 y4 y5 3, ())) else (L49_0 F n (([.val (.int .i64 a), .val (.int .i64 b), .val (.int .i64 c)] : List D), ((([.val (.int .i64 a), .val (.int .i64 b), .val (.int .i64 c)] : List D).length : Nat) : Int), ((i + 1 : Nat) : Int), x1, x2, x3, x4, x5, y1, y2, y3, y4, y5) ())) := by
    intro n i x hx hi
    rw [L49_0, show lidx ([.val (.int .i64 a), .val (.int .i64 b), .val (.int .i64 c)] : List D) (i : Int) = some (.val (.int .i64 x)) by unfold lidx; rw [if_pos (by omega), Int.toNat_natCast]; exact hx, decide_eq_true (show (i : Int) < _ by show (i : Int) < (3 : Int); omega), cond_true, next_idx (by omega)]
    rfl
  obtain ⟨n, hn⟩ : ∃ n, 1000000000000 = n + 1 + 1 + 1 + 1 := ⟨999999999996, rfl⟩
  rw [hn, show (0 : Int) = ((0 : Nat) : Int) from rfl, step _ 0 a rfl (by omega)]
  by_cases ha : a = 0
  · rw [lex_eq ha, ha, show ((0 : Int) != 0) = false from rfl, cond_false]
    subst ha
    rw [step _ 1 b rfl (by omega)]
    by_cases hb : b = 0
    · rw [lex_eq hb, hb, show ((0 : Int) != 0) = false from rfl, cond_false]
      subst hb
      rw [step _ 2 c rfl (by omega)]
      by_cases hc : c = 0
      · rw [hc, show ((0 : Int) != 0) = false from rfl, cond_false, L49_0, show decide (((2 + 1 : Nat) : Int) < ((([.val (.int .i64 0), .val (.int .i64 0), .val (.int .i64 0)] : List D).length : Nat) : Int)) = false from rfl, cond_false, ask_of rfl]
        rfl
      · rw [show (c != 0) = true by rw [bne_iff_ne]; exact hc, cond_true, if_neg (by simpa using hc)]
    · rw [lex_ne hb, show (b != 0) = true by rw [bne_iff_ne]; exact hb, cond_true, if_neg (by simpa using hb)]
  · rw [lex_ne ha, show (a != 0) = true by rw [bne_iff_ne]; exact ha, cond_true, if_neg (by simpa using ha)]
theorem bnat (a b : Nat) : (((a : Nat) : Int) != ((b : Nat) : Int)) = decide (a ≠ b) := by
  rw [Bool.eq_iff_iff, bne_iff_ne, decide_eq_true_eq]; omega
theorem n49_eq : ∀ (k : Nat) (v w : V), v.hgt ≤ k → v.big ≤ 1048576 → n49 k (v.two w) = some (v.cmp w) := by
  intro k
  induction k with
  | zero => intro v w h; have := v.hgt_pos; omega
  | succ k ih =>
    intro v w h hb
    obtain ⟨k0, i0, m0, t0, l0⟩ := v
    obtain ⟨k', i', m', t', l'⟩ := w
    rw [V.hgt] at h
    rw [V.big] at hb
    have hll := V.len_bigL l0
    simp only [V.two]
    rw [n49, V.cmp]
    by_cases hk : k0 = k'
    · subst hk
      rw [show (k0 != k0) = false by simp, cond_false, ds_length, ds_length, lex_eq (c3_eq k0), bnat]
      by_cases hl : l0.length = l'.length
      · rw [show decide (l0.length ≠ l'.length) = false by simp [hl], cond_false, lex_eq (show cLen _ _ = 0 by unfold cLen; rw [hl]; exact c3_eq _), n80_c3, n80_c3]
        simp only [Option.bind_some, n81]
        refine (ask_of (by simp)).trans ?_
        rw [L49_0_eq, Option.bind_some, show Lib.compareBytes t0.data.toList t'.data.toList = cB t0 t' from rfl]
        have hass : lex (c3 i0 i') (lex (c3 m0 m') (lex (cB t0 t') (V.cmpL l0 l'))) = lex (lex (c3 i0 i') (lex (c3 m0 m') (cB t0 t'))) (V.cmpL l0 l') := by
          unfold lex
          by_cases p : c3 i0 i' = 0 <;> by_cases q : c3 m0 m' = 0 <;> by_cases r : cB t0 t' = 0 <;> simp [p, q, r]
        rw [hass]
        by_cases hz : lex (c3 i0 i') (lex (c3 m0 m') (cB t0 t')) = 0
        · rw [lex_eq hz, if_pos hz]
          dsimp only
          rw [ask_of trivial, ds_length, show (0 : Int) = ((0 : Nat) : Int) from rfl, L49_2_eq (F := n49 k) (l := l0) (l' := l') (by omega) (fun v hv w => ih v w (by have := V.mem_hgtL hv; omega) (by have := V.mem_bigL hv; omega)) _ _ _ _ _ _ _ _ _ _ l0 l' 1000000000000 0 (by simp) (by simp) hl (by omega), Option.bind_some]
          by_cases hc : V.cmpL l0 l' = 0
          · rw [if_pos hc, hc]; rfl
          · rw [if_neg hc]
        · rw [lex_ne hz, if_neg hz]
      · rw [show decide (l0.length ≠ l'.length) = true by simp [hl], cond_true, lex_ne (show cLen _ _ ≠ 0 by unfold cLen; exact c3_ne (by omega)), n80_ne (by omega)]
        rfl
    · rw [show (k0 != k') = true by rw [bne_iff_ne]; exact hk, cond_true, lex_ne (c3_ne hk), n80_ne hk]
      rfl
end Ev

set_option linter.unusedSimpArgs false
set_option linter.unusedVariables false
namespace Ev
open Go
theorem L50_raw (F : Int × Int × Int × ByteArray × List D × Int × Int × Int × ByteArray × List D → Option Int) (n : Nat) (l l' : List V) (i : Nat) (x1 x2 x3 : Int) (x4 : ByteArray) (y1 y2 y3 : Int) (y4 : ByteArray) (k im mm : Int) (t : ByteArray) (s : List V) (k' im' mm' : Int) (t' : ByteArray) (s' : List V) (h : l[i]? = some (.mk k im mm t s)) (h' : l'[i]? = some (.mk k' im' mm' t' s')) :
    L50_0 F (n + 1) ((i : Int), x1, x2, x3, x4, V.ds l, y1, y2, y3, y4, V.ds l') () = (bif decide ((i : Int) < ((l.length : Nat) : Int)) then ((F (k, im, mm, t, V.ds s, k', im', mm', t', V.ds s')).bind fun y49 => (bif (y49 != 0) then (some (O50_0.x0 y49 x1 x2 x3 x4 (V.ds l) y1 y2 y3 y4 (V.ds l'), ())) else (L50_0 F n ((w64 ((i : Int) + 1)), x1, x2, x3, x4, V.ds l, y1, y2, y3, y4, V.ds l') ()))) else (some (O50_0.x1 x1 x2 x3 x4 (V.ds l) y1 y2 y3 y4 (V.ds l'), ()))) := by
  rw [L50_0, lidx_ds, lidx_ds, h, h', Option.map_some, Option.map_some, Option.bind_some, V.d_mk, V.d_mk, ds_length]
  rfl
theorem L50_step (F : Int × Int × Int × ByteArray × List D × Int × Int × Int × ByteArray × List D → Option Int) (n : Nat) (l l' : List V) (i : Nat) (x1 x2 x3 : Int) (x4 : ByteArray) (y1 y2 y3 : Int) (y4 : ByteArray) (v w : V) (h : l[i]? = some v) (h' : l'[i]? = some w) (hi : i < l.length) :
    L50_0 F (n + 1) ((i : Int), x1, x2, x3, x4, V.ds l, y1, y2, y3, y4, V.ds l') () = ((F (v.two w)).bind fun y49 => (bif (y49 != 0) then (some (O50_0.x0 y49 x1 x2 x3 x4 (V.ds l) y1 y2 y3 y4 (V.ds l'), ())) else (L50_0 F n ((w64 ((i : Int) + 1)), x1, x2, x3, x4, V.ds l, y1, y2, y3, y4, V.ds l') ()))) := by
  obtain ⟨k, im, mm, t, s⟩ := v
  obtain ⟨k', im', mm', t', s'⟩ := w
  rw [L50_raw F n l l' i x1 x2 x3 x4 y1 y2 y3 y4 k im mm t s k' im' mm' t' s' h h', decide_eq_true (by omega : (i : Int) < ((l.length : Nat) : Int)), cond_true]
  rfl
theorem L50_eq {F : Int × Int × Int × ByteArray × List D × Int × Int × Int × ByteArray × List D → Option Int} {l l' : List V} (hl : l.length ≤ 1048576) (hF : ∀ v ∈ l, ∀ w, F (v.two w) = some (v.cmpR w)) (x1 x2 x3 : Int) (x4 : ByteArray) (y1 y2 y3 : Int) (y4 : ByteArray) : ∀ (rest rest' : List V) (n i : Nat), l.drop i = rest → l'.drop i = rest' → rest.length = rest'.length → rest.length < n →
    L50_0 F n ((i : Int), x1, x2, x3, x4, V.ds l, y1, y2, y3, y4, V.ds l') () = some (if V.cmpRL rest rest' = 0 then O50_0.x1 x1 x2 x3 x4 (V.ds l) y1 y2 y3 y4 (V.ds l') else O50_0.x0 (V.cmpRL rest rest') x1 x2 x3 x4 (V.ds l) y1 y2 y3 y4 (V.ds l'), ()) := by
  intro rest
  induction rest with
  | nil =>
    intro rest' n i hr hr' he hn
    obtain ⟨n, rfl⟩ : ∃ m, n = m + 1 := ⟨n - 1, by simp at hn; omega⟩
    have : rest' = [] := by cases rest' with | nil => rfl | cons => simp at he
    subst this
    have := drop_nil hr
    rw [L50_0, ds_length, decide_eq_false (by omega), cond_false, V.cmpRL, if_pos rfl]
  | cons v rest ih =>
    intro rest' n i hr hr' he hn
    obtain ⟨n, rfl⟩ : ∃ m, n = m + 1 := ⟨n - 1, by simp at hn; omega⟩
    obtain ⟨w, rest', rfl⟩ : ∃ w r, rest' = w :: r := by cases rest' with | nil => simp at he | cons w r => exact ⟨w, r, rfl⟩
    obtain ⟨h1, h2, h3, h4⟩ := drop_cons hr
    obtain ⟨g1, g2, g3, g4⟩ := drop_cons hr'
    rw [L50_step F n l l' i x1 x2 x3 x4 y1 y2 y3 y4 v w h1 g1 h3, hF v h4 w, Option.bind_some, next_idx (by omega), V.cmpRL]
    by_cases hz : v.cmpR w = 0
    · rw [lex_eq hz, hz, show ((0 : Int) != 0) = false from rfl, cond_false, ih rest' n (i + 1) h2 g2 (by simpa using he) (by simp at hn; omega)]
    · rw [lex_ne hz, if_neg hz, show (v.cmpR w != 0) = true by rw [bne_iff_ne]; exact hz, cond_true]
theorem bne_self {a b : Int} (h : a = b) : (a != b) = false := by rw [h]; simp
theorem bne_of {a b : Int} (h : a ≠ b) : (a != b) = true := by rw [bne_iff_ne]; exact h
theorem n50_eq : ∀ (k : Nat) (v w : V), v.hgt ≤ k → v.big ≤ 1048576 → n50 k (v.two w) = some (v.cmpR w) := by
  intro k
  induction k with
  | zero => intro v w h; have := v.hgt_pos; omega
  | succ k ih =>
    intro v w h hb
    obtain ⟨k0, i0, m0, t0, l0⟩ := v
    obtain ⟨k', i', m', t', l'⟩ := w
    rw [V.hgt] at h
    rw [V.big] at hb
    have hll := V.len_bigL l0
    simp only [V.two]
    rw [n50, V.cmpR, ds_length, ds_length, n51_c3, n51_c3, n51_c3, n51_c3, n51_cB]
    simp only [Option.bind_some]
    by_cases hk : k0 = k'
    · rw [bne_self hk, cond_false, lex_eq (c3_zero.2 hk)]
      by_cases hi : i0 = i'
      · rw [bne_self hi, cond_false, lex_eq (c3_zero.2 hi)]
        by_cases hm : m0 = m'
        · rw [bne_self hm, cond_false, lex_eq (c3_zero.2 hm)]
          by_cases ht : cB t0 t' = 0
          · rw [sEq_eq, decide_eq_true ht, Bool.not_true, cond_false, lex_eq ht]
            by_cases hl : l0.length = l'.length
            · rw [bne_self (by omega), cond_false, lex_eq (by unfold cLen; exact c3_zero.2 (by omega)), show (0 : Int) = ((0 : Nat) : Int) from rfl, L50_eq (F := n50 k) (l := l0) (l' := l') (by omega) (fun v hv w => ih v w (by have := V.mem_hgtL hv; omega) (by have := V.mem_bigL hv; omega)) _ _ _ _ _ _ _ _ l0 l' 1000000000000 0 (by simp) (by simp) hl (by omega), Option.bind_some]
              by_cases hc : V.cmpRL l0 l' = 0
              · rw [if_pos hc, hc]; rfl
              · rw [if_neg hc]
            · rw [bne_of (by omega), cond_true, lex_ne (by unfold cLen; exact c3_ne (by omega))]
              rfl
          · rw [sEq_eq, decide_eq_false ht, Bool.not_false, cond_true, lex_ne ht]
        · rw [bne_of hm, cond_true, lex_ne (c3_ne hm)]
      · rw [bne_of hi, cond_true, lex_ne (c3_ne hi)]
    · rw [bne_of hk, cond_true, lex_ne (c3_ne hk)]
theorem L23_raw (F : Int × Int × Int × ByteArray × List D × Int × Int × Int × ByteArray × List D → Option Bool) (n : Nat) (l l' : List V) (i : Nat) (x1 x2 x3 : Int) (x4 : ByteArray) (y1 y2 y3 : Int) (y4 : ByteArray) (k im mm : Int) (t : ByteArray) (s : List V) (k' im' mm' : Int) (t' : ByteArray) (s' : List V) (h : l[i]? = some (.mk k im mm t s)) (h' : l'[i]? = some (.mk k' im' mm' t' s')) :
    L23_0 F (n + 1) ((i : Int), x1, x2, x3, x4, V.ds l, y1, y2, y3, y4, V.ds l') () = (bif decide ((i : Int) < ((l.length : Nat) : Int)) then ((F (k, im, mm, t, V.ds s, k', im', mm', t', V.ds s')).bind fun y44 => (bif (!y44) then (some (O23_0.x0 false x1 x2 x3 x4 (V.ds l) y1 y2 y3 y4 (V.ds l'), ())) else (L23_0 F n ((w64 ((i : Int) + 1)), x1, x2, x3, x4, V.ds l, y1, y2, y3, y4, V.ds l') ()))) else (some (O23_0.x1 x1 x2 x3 x4 (V.ds l) y1 y2 y3 y4 (V.ds l'), ()))) := by
  rw [L23_0, lidx_ds, lidx_ds, h, h', Option.map_some, Option.map_some, Option.bind_some, V.d_mk, V.d_mk, ds_length]
  rfl
theorem L23_step (F : Int × Int × Int × ByteArray × List D × Int × Int × Int × ByteArray × List D → Option Bool) (n : Nat) (l l' : List V) (i : Nat) (x1 x2 x3 : Int) (x4 : ByteArray) (y1 y2 y3 : Int) (y4 : ByteArray) (v w : V) (h : l[i]? = some v) (h' : l'[i]? = some w) (hi : i < l.length) :
    L23_0 F (n + 1) ((i : Int), x1, x2, x3, x4, V.ds l, y1, y2, y3, y4, V.ds l') () = ((F (v.two w)).bind fun y44 => (bif (!y44) then (some (O23_0.x0 false x1 x2 x3 x4 (V.ds l) y1 y2 y3 y4 (V.ds l'), ())) else (L23_0 F n ((w64 ((i : Int) + 1)), x1, x2, x3, x4, V.ds l, y1, y2, y3, y4, V.ds l') ()))) := by
  obtain ⟨k, im, mm, t, s⟩ := v
  obtain ⟨k', im', mm', t', s'⟩ := w
  rw [L23_raw F n l l' i x1 x2 x3 x4 y1 y2 y3 y4 k im mm t s k' im' mm' t' s' h h', decide_eq_true (by omega : (i : Int) < ((l.length : Nat) : Int)), cond_true]
  rfl
theorem lex_zero {a b : Int} : lex a b = 0 ↔ a = 0 ∧ b = 0 := by
  unfold lex; split
  · rename_i h; simp [h]
  · rename_i h; simp [h]
theorem L23_eq {F : Int × Int × Int × ByteArray × List D × Int × Int × Int × ByteArray × List D → Option Bool} {l l' : List V} (hl : l.length ≤ 1048576) (hF : ∀ v ∈ l, ∀ w, F (v.two w) = some (decide (v.cmp w = 0))) (x1 x2 x3 : Int) (x4 : ByteArray) (y1 y2 y3 : Int) (y4 : ByteArray) : ∀ (rest rest' : List V) (n i : Nat), l.drop i = rest → l'.drop i = rest' → rest.length = rest'.length → rest.length < n →
    L23_0 F n ((i : Int), x1, x2, x3, x4, V.ds l, y1, y2, y3, y4, V.ds l') () = some (if V.cmpL rest rest' = 0 then O23_0.x1 x1 x2 x3 x4 (V.ds l) y1 y2 y3 y4 (V.ds l') else O23_0.x0 false x1 x2 x3 x4 (V.ds l) y1 y2 y3 y4 (V.ds l'), ()) := by
  intro rest
  induction rest with
  | nil =>
    intro rest' n i hr hr' he hn
    obtain ⟨n, rfl⟩ : ∃ m, n = m + 1 := ⟨n - 1, by simp at hn; omega⟩
    have : rest' = [] := by cases rest' with | nil => rfl | cons => simp at he
    subst this
    have := drop_nil hr
    rw [L23_0, ds_length, decide_eq_false (by omega), cond_false, V.cmpL, if_pos rfl]
  | cons v rest ih =>
    intro rest' n i hr hr' he hn
    obtain ⟨n, rfl⟩ : ∃ m, n = m + 1 := ⟨n - 1, by simp at hn; omega⟩
    obtain ⟨w, rest', rfl⟩ : ∃ w r, rest' = w :: r := by cases rest' with | nil => simp at he | cons w r => exact ⟨w, r, rfl⟩
    obtain ⟨h1, h2, h3, h4⟩ := drop_cons hr
    obtain ⟨g1, g2, g3, g4⟩ := drop_cons hr'
    rw [L23_step F n l l' i x1 x2 x3 x4 y1 y2 y3 y4 v w h1 g1 h3, hF v h4 w, Option.bind_some, next_idx (by omega), V.cmpL]
    by_cases hz : v.cmp w = 0
    · rw [lex_eq hz, decide_eq_true hz, Bool.not_true, cond_false, ih rest' n (i + 1) h2 g2 (by simpa using he) (by simp at hn; omega)]
    · rw [lex_ne hz, if_neg hz, decide_eq_false hz, Bool.not_false, cond_true]
theorem n23_eq : ∀ (k : Nat) (v w : V), v.hgt ≤ k → v.big ≤ 1048576 → n23 k (v.two w) = some (decide (v.cmp w = 0)) := by
  intro k
  induction k with
  | zero => intro v w h; have := v.hgt_pos; omega
  | succ k ih =>
    intro v w h hb
    obtain ⟨k0, i0, m0, t0, l0⟩ := v
    obtain ⟨k', i', m', t', l'⟩ := w
    rw [V.hgt] at h
    rw [V.big] at hb
    have hll := V.len_bigL l0
    simp only [V.two]
    rw [n23, V.cmp, ds_length, ds_length, sEq_eq]
    simp only [lex_zero, c3_zero, cLen]
    by_cases hk : k0 = k'
    · rw [bne_self hk, cond_false]
      by_cases hi : i0 = i'
      · rw [bne_self hi, cond_false]
        by_cases hm : m0 = m'
        · rw [bne_self hm, cond_false]
          by_cases ht : cB t0 t' = 0
          · rw [decide_eq_true ht, Bool.not_true, cond_false]
            by_cases hl : l0.length = l'.length
            · rw [bne_self (by omega), cond_false, show (0 : Int) = ((0 : Nat) : Int) from rfl, L23_eq (F := n23 k) (l := l0) (l' := l') (by omega) (fun v hv w => ih v w (by have := V.mem_hgtL hv; omega) (by have := V.mem_bigL hv; omega)) _ _ _ _ _ _ _ _ l0 l' 1000000000000 0 (by simp) (by simp) hl (by omega), Option.bind_some]
              by_cases hc : V.cmpL l0 l' = 0
              · rw [if_pos hc]; simp [hk, hi, hm, ht, hl, hc]
              · rw [if_neg hc]; simp [hc]
            · rw [bne_of (by omega), cond_true]
              simp [show ¬ ((l0.length : Nat) : Int) = ((l'.length : Nat) : Int) by omega]
          · simp [ht]
        · rw [bne_of hm]; simp [hm]
      · rw [bne_of hi]; simp [hi]
    · rw [bne_of hk]; simp [hk]
end Ev

set_option linter.unusedSimpArgs false
set_option linter.unusedVariables false
namespace Ev
open Go
abbrev noT : ByteArray := ⟨#[]⟩
def symB (s : ByteArray) : Bool := bif (bif isName s then (!(sEq s (⟨#[116, 114, 117, 101]⟩ : ByteArray))) else false) then (!(sEq s (⟨#[102, 97, 108, 115, 101]⟩ : ByteArray))) else false
theorem n67_eq {s : ByteArray} (hs : s.size ≤ 1048576) : n67 s = some (symB s) := by
  unfold n67
  rw [n107_eq hs]
  unfold symB
  cases isName s <;> rfl
theorem n68_eq {s : ByteArray} (hs : s.size ≤ 1048576) : n68 s = some (symB s) := by
  unfold n68
  rw [n108_eq hs]
  rfl
def partB (a : Int) : Bool := bif (decide (a ≥ (-1048576))) then (decide (a ≤ 1048576)) else false
def V.above : Option V → V → Bool
  | none, _ => true
  | some q, v => decide (q.cmp v < 0)
mutual
def V.formed : V → Bool
  | .mk k i m t l => 
    (bif (k == 1) then (bif (bif (bif (sEq t noT) then (((l.length : Nat) : Int) == 0) else false) then (m == 0) else false) then (bif (i == 0) then true else (i == 1)) else false)
    else (bif (k == 2) then (bif (bif (sEq t noT) then (((l.length : Nat) : Int) == 0) else false) then (m == 0) else false)
    else (bif (k == 3) then (bif (bif (sEq t noT) then (((l.length : Nat) : Int) == 0) else false) then (bif partB i then partB m else false) else false)
    else (bif (k == 4) then (bif (bif (bif (i == 0) then (m == 0) else false) then (((l.length : Nat) : Int) == 0) else false) then symB t else false)
    else (bif (bif (k == 5) then true else bif (k == 6) then true else (k == 7)) then (bif (bif (bif (i != 0) then true else (m != 0)) then true else (!(sEq t noT))) then false else V.formedL (k == 7) none l) else false)))))
def V.formedL (s : Bool) (p : Option V) : List V → Bool
  | [] => true
  | v :: l => v.formed && (bif s then V.above p v else true) && V.formedL s (some v) l
end
theorem formed_facts {k i m : Int} {t : ByteArray} {l : List V} (h : (V.mk k i m t l).formed = true) : (k ≤ 4 ∧ l = []) ∨ (5 ≤ k ∧ i = 0 ∧ m = 0 ∧ t = noT ∧ V.formedL (k == 7) none l = true) := by
  rw [V.formed] at h
  have len0 : ∀ {b : Bool}, (bif b then (((l.length : Nat) : Int) == 0) else false) = true → l = [] := by
    intro b hb
    cases b with
    | false => cases hb
    | true =>
      have : ((l.length : Nat) : Int) = 0 := by simpa using hb
      exact List.eq_nil_of_length_eq_zero (by omega)
  by_cases h1 : k = 1
  · left
    refine ⟨by omega, ?_⟩
    rw [show (k == 1) = true by simp [h1], cond_true] at h
    cases hc : (bif (sEq t noT) then (((l.length : Nat) : Int) == 0) else false) with
    | false => rw [hc] at h; simp at h
    | true => exact len0 hc
  rw [show (k == 1) = false by simp [h1], cond_false] at h
  by_cases h2 : k = 2
  · left
    refine ⟨by omega, ?_⟩
    rw [show (k == 2) = true by simp [h2], cond_true] at h
    cases hc : (bif (sEq t noT) then (((l.length : Nat) : Int) == 0) else false) with
    | false => rw [hc] at h; simp at h
    | true => exact len0 hc
  rw [show (k == 2) = false by simp [h2], cond_false] at h
  by_cases h3 : k = 3
  · left
    refine ⟨by omega, ?_⟩
    rw [show (k == 3) = true by simp [h3], cond_true] at h
    cases hc : (bif (sEq t noT) then (((l.length : Nat) : Int) == 0) else false) with
    | false => rw [hc] at h; simp at h
    | true => exact len0 hc
  rw [show (k == 3) = false by simp [h3], cond_false] at h
  by_cases h4 : k = 4
  · left
    refine ⟨by omega, ?_⟩
    rw [show (k == 4) = true by simp [h4], cond_true] at h
    cases hc : (bif (bif (i == 0) then (m == 0) else false) then (((l.length : Nat) : Int) == 0) else false) with
    | false => rw [hc] at h; simp at h
    | true => exact len0 hc
  rw [show (k == 4) = false by simp [h4], cond_false] at h
  cases hk : (bif (k == 5) then true else bif (k == 6) then true else (k == 7)) with
  | false => rw [hk] at h; cases h
  | true =>
    right
    rw [hk, cond_true] at h
    have hk5 : 5 ≤ k := by
      by_cases p : k = 5
      · omega
      · by_cases q : k = 6
        · omega
        · rw [show (k == 5) = false by simp [p], show (k == 6) = false by simp [q]] at hk
          have : k = 7 := by simpa using hk
          omega
    by_cases hi : i = 0
    · by_cases hm : m = 0
      · cases ht : sEq t noT with
        | true =>
          rw [ht, hi, hm] at h
          exact ⟨hk5, hi, hm, (sEq_iff _ _).1 ht, by simpa using h⟩
        | false => rw [ht, hi, hm] at h; simp at h
      · rw [bne_of hm] at h; simp at h
    · rw [bne_of hi] at h; simp at h
mutual
theorem V.cmp_same : ∀ a b : V, a.formed = true → b.formed = true → a.cmpR b = a.cmp b
  | .mk k i m t l, .mk k' i' m' t' l', h, h' => by
    rw [V.cmp, V.cmpR]
    by_cases hk : k = k'
    · rw [lex_eq (c3_zero.2 hk), lex_eq (c3_zero.2 hk)]
      rcases formed_facts h with ⟨f1, f2⟩ | ⟨f1, f2, f3, f4, f5⟩
      · rcases formed_facts h' with ⟨g1, g2⟩ | ⟨g1, g2⟩
        · subst f2; subst g2
          rw [lex_eq (show cLen _ _ = 0 from rfl), lex_eq (show cLen _ _ = 0 from rfl), V.cmpL, V.cmpRL]
        · omega
      · rcases formed_facts h' with ⟨g1, g2⟩ | ⟨g1, g2, g3, g4, g5⟩
        · omega
        · subst f2; subst f3; subst f4; subst g2; subst g3; subst g4
          rw [lex_eq (c3_eq 0), lex_eq (c3_eq 0), lex_eq (show cB noT noT = 0 from rfl), V.cmpL_same _ _ _ _ l l' f5 g5, lex_eq (c3_eq 0), lex_eq (c3_eq 0), lex_eq (show cB noT noT = 0 from rfl)]
    · rw [lex_ne (c3_ne hk), lex_ne (c3_ne hk)]
theorem V.cmpL_same : ∀ (s s' : Bool) (p p' : Option V) (a b : List V), V.formedL s p a = true → V.formedL s' p' b = true → V.cmpRL a b = V.cmpL a b
  | _, _, _, _, [], [], _, _ => by rw [V.cmpL, V.cmpRL]
  | _, _, _, _, [], _ :: _, _, _ => by rw [V.cmpL, V.cmpRL]
  | _, _, _, _, _ :: _, [], _, _ => by rw [V.cmpL, V.cmpRL]
  | s, s', p, p', x :: a, y :: b, h, h' => by
    rw [V.formedL, Bool.and_eq_true, Bool.and_eq_true] at h h'
    rw [V.cmpL, V.cmpRL, V.cmp_same x y h.1.1 h'.1.1, V.cmpL_same _ _ _ _ a b h.2 h'.2]
end
theorem L44_zero (F : Int × Int × Int × ByteArray × List D → Option Bool) (n : Nat) (l : List V) (x1 x2 x3 : Int) (x4 : ByteArray) (v : V) (h : l[0]? = some v) (hi : 0 < l.length) :
    L44_1 F (n + 1) (V.ds l, ((l.length : Nat) : Int), ((0 : Nat) : Int), x1, x2, x3, x4, V.ds l) () = ((F v.tup).bind fun y28 => (bif (!y28) then (some (O44_1.x0 false x1 x2 x3 x4 (V.ds l), ())) else (L44_1 F n (V.ds l, ((l.length : Nat) : Int), ((1 : Nat) : Int), x1, x2, x3, x4, V.ds l) ()))) := by
  obtain ⟨k, im, mm, t, s⟩ := v
  rw [L44_1, lidx_ds, h, Option.map_some, Option.bind_some, V.d_mk, decide_eq_true (by omega : ((0 : Nat) : Int) < ((l.length : Nat) : Int)), cond_true, decide_eq_false (by omega : ¬ ((0 : Nat) : Int) > 0)]
  simp only [cond_false]
  rw [next_idx (by omega)]
  have : ∀ y28, (bif (!y28) then (some (O44_1.x0 false x1 x2 x3 x4 (V.ds l), ())) else (bif (x1 == 7) then (L44_1 F n (V.ds l, ((l.length : Nat) : Int), ((0 + 1 : Nat) : Int), x1, x2, x3, x4, V.ds l) ()) else (L44_1 F n (V.ds l, ((l.length : Nat) : Int), ((0 + 1 : Nat) : Int), x1, x2, x3, x4, V.ds l) ()))) = (bif (!y28) then (some (O44_1.x0 false x1 x2 x3 x4 (V.ds l), ())) else (L44_1 F n (V.ds l, ((l.length : Nat) : Int), ((1 : Nat) : Int), x1, x2, x3, x4, V.ds l) ())) := by
    intro y28; cases (x1 == 7) <;> rfl
  show ((F (k, im, mm, t, V.ds s)).bind fun y28 => (bif (!y28) then (some (O44_1.x0 false x1 x2 x3 x4 (V.ds l), ())) else (bif (x1 == 7) then (L44_1 F n (V.ds l, ((l.length : Nat) : Int), ((0 + 1 : Nat) : Int), x1, x2, x3, x4, V.ds l) ()) else (L44_1 F n (V.ds l, ((l.length : Nat) : Int), ((0 + 1 : Nat) : Int), x1, x2, x3, x4, V.ds l) ())))) = _
  simp only [this]
  rfl
theorem L44_raw (F : Int × Int × Int × ByteArray × List D → Option Bool) (n : Nat) (l : List V) (i : Nat) (len x1 x2 x3 : Int) (x4 : ByteArray) (k im mm : Int) (t : ByteArray) (s : List V) (k' im' mm' : Int) (t' : ByteArray) (s' : List V) (h : l[i + 1]? = some (.mk k im mm t s)) (h' : l[i]? = some (.mk k' im' mm' t' s')) (hw : w64 (((i + 1 : Nat) : Int) - 1) = (i : Int)) :
    L44_1 F (n + 1) (V.ds l, len, ((i + 1 : Nat) : Int), x1, x2, x3, x4, V.ds l) () = (bif (decide (((i + 1 : Nat) : Int) < len)) then ((F (k, im, mm, t, V.ds s)).bind fun y28 => (bif (!y28) then (some (O44_1.x0 false x1 x2 x3 x4 (V.ds l), ())) else (bif (x1 == 7) then (bif (decide (((i + 1 : Nat) : Int) > 0)) then ((n49 64 (k', im', mm', t', V.ds s', k, im, mm, t, V.ds s)).bind fun y46 => (bif (decide (y46 ≥ 0)) then (some (O44_1.x0 false x1 x2 x3 x4 (V.ds l), ())) else (L44_1 F n (V.ds l, len, (w64 (((i + 1 : Nat) : Int) + 1)), x1, x2, x3, x4, V.ds l) ()))) else (L44_1 F n (V.ds l, len, (w64 (((i + 1 : Nat) : Int) + 1)), x1, x2, x3, x4, V.ds l) ())) else (L44_1 F n (V.ds l, len, (w64 (((i + 1 : Nat) : Int) + 1)), x1, x2, x3, x4, V.ds l) ())))) else (some (O44_1.x1 x1 x2 x3 x4 (V.ds l), ()))) := by
  rw [L44_1, lidx_ds, h, Option.map_some, Option.bind_some, V.d_mk, hw, lidx_ds, h', Option.map_some, V.d_mk]
  rfl
theorem L44_succ (F : Int × Int × Int × ByteArray × List D → Option Bool) (n : Nat) (l : List V) (i : Nat) (x1 x2 x3 : Int) (x4 : ByteArray) (v q : V) (h : l[i + 1]? = some v) (h' : l[i]? = some q) (hi : i + 1 < l.length) (hl : l.length ≤ 1048576) :
    L44_1 F (n + 1) (V.ds l, ((l.length : Nat) : Int), ((i + 1 : Nat) : Int), x1, x2, x3, x4, V.ds l) () = ((F v.tup).bind fun y28 => (bif (!y28) then (some (O44_1.x0 false x1 x2 x3 x4 (V.ds l), ())) else (bif (x1 == 7) then ((n49 64 (q.two v)).bind fun y46 => (bif (decide (y46 ≥ 0)) then (some (O44_1.x0 false x1 x2 x3 x4 (V.ds l), ())) else (L44_1 F n (V.ds l, ((l.length : Nat) : Int), ((i + 1 + 1 : Nat) : Int), x1, x2, x3, x4, V.ds l) ()))) else (L44_1 F n (V.ds l, ((l.length : Nat) : Int), ((i + 1 + 1 : Nat) : Int), x1, x2, x3, x4, V.ds l) ())))) := by
  obtain ⟨k, im, mm, t, s⟩ := v
  obtain ⟨k', im', mm', t', s'⟩ := q
  rw [L44_raw F n l i _ x1 x2 x3 x4 k im mm t s k' im' mm' t' s' h h' (by rw [w64_id (by omega) (by omega)]; omega), decide_eq_true (by omega : ((i + 1 : Nat) : Int) < ((l.length : Nat) : Int)), cond_true, next_idx (by omega), decide_eq_true (by omega : ((i + 1 : Nat) : Int) > 0)]
  rfl
theorem L44_eq {F : Int × Int × Int × ByteArray × List D → Option Bool} {l : List V} (hl : V.bigL l ≤ 1048576) (hh : V.hgtL l ≤ 64) (hF : ∀ v ∈ l, F v.tup = some v.formed) (x1 x2 x3 : Int) (x4 : ByteArray) : ∀ (rest : List V) (n i : Nat) (p : Option V), l.drop i = rest → rest.length < n → (p = match i with | 0 => none | j + 1 => l[j]?) →
    L44_1 F n (V.ds l, ((l.length : Nat) : Int), (i : Int), x1, x2, x3, x4, V.ds l) () = some (bif V.formedL (x1 == 7) p rest then O44_1.x1 x1 x2 x3 x4 (V.ds l) else O44_1.x0 false x1 x2 x3 x4 (V.ds l), ()) := by
  have hll := V.len_bigL l
  intro rest
  induction rest with
  | nil =>
    intro n i p hr hn hp
    obtain ⟨n, rfl⟩ : ∃ m, n = m + 1 := ⟨n - 1, by simp at hn; omega⟩
    have := drop_nil hr
    rw [L44_1, decide_eq_false (by omega), cond_false, V.formedL, cond_true]
  | cons v rest ih =>
    intro n i p hr hn hp
    obtain ⟨n, rfl⟩ : ∃ m, n = m + 1 := ⟨n - 1, by simp at hn; omega⟩
    obtain ⟨h1, h2, h3, h4⟩ := drop_cons hr
    cases i with
    | zero =>
      subst hp
      rw [L44_zero F n l x1 x2 x3 x4 v h1 h3, hF v h4, Option.bind_some, V.formedL]
      cases hf : v.formed with
      | false => rfl
      | true =>
        rw [Bool.not_true, cond_false, ih n 1 (some v) h2 (by simp at hn; omega) h1.symm, V.above]
        cases (x1 == 7) <;> rfl
    | succ j =>
      obtain ⟨q, hq⟩ : ∃ q, l[j]? = some q := ⟨_, List.getElem?_eq_getElem (by omega)⟩
      have hp' : p = some q := hp.trans hq
      subst hp'
      have hm := List.mem_of_getElem? hq
      rw [L44_succ F n l j x1 x2 x3 x4 v q h1 hq h3 (by omega), hF v h4, Option.bind_some, V.formedL, n49_eq 64 q v (by have := V.mem_hgtL hm; omega) (by have := V.mem_bigL hm; omega), Option.bind_some]
      cases hf : v.formed with
      | false => rfl
      | true =>
        rw [Bool.not_true, cond_false, ih n (j + 1 + 1) (some v) h2 (by simp at hn; omega) h1.symm]
        cases (x1 == 7) with
        | false => rfl
        | true =>
          rw [cond_true, cond_true, V.above]
          by_cases hc : q.cmp v < 0
          · rw [decide_eq_false (by omega), cond_false, decide_eq_true hc]; rfl
          · rw [decide_eq_true (by omega : q.cmp v ≥ 0), cond_true, decide_eq_false hc]; rfl
theorem n44_eq : ∀ (k : Nat) (v : V), v.hgt ≤ k → v.hgt ≤ 64 → v.big ≤ 1048576 → n44 k v.tup = some v.formed := by
  intro k
  induction k with
  | zero => intro v h; have := v.hgt_pos; omega
  | succ k ih =>
    intro v h h64 hb
    obtain ⟨k0, i0, m0, t0, l0⟩ := v
    rw [V.hgt] at h h64
    rw [V.big] at hb
    have hll := V.len_bigL l0
    have hL := L44_eq (F := n44 k) (l := l0) (by omega) (by omega) (fun v hv => ih v (by have := V.mem_hgtL hv; omega) (by have := V.mem_hgtL hv; omega) (by have := V.mem_bigL hv; omega)) k0 i0 m0 t0 l0 1000000000000 0 none (by simp) (by omega) rfl
    rw [show ((0 : Nat) : Int) = 0 from rfl] at hL
    simp only [V.tup]
    rw [n44, ds_length, hL, n67_eq (by omega), V.formed]
    simp only [Option.bind_some, n69, cond_some]
    congr 1
    show _ = _
    cases (k0 == 1) with
    | true => rfl
    | false =>
      cases (k0 == 2) with
      | true => rfl
      | false =>
        cases (k0 == 3) with
        | true => rfl
        | false =>
          cases (k0 == 4) with
          | true => rfl
          | false =>
            cases h5 : (k0 == 5) <;> cases h6 : (k0 == 6) <;> cases h7 : (k0 == 7) <;> simp only [cond_true, cond_false] <;> (try cases (bif bif i0 != 0 then true else m0 != 0 then true else !sEq t0 noT)) <;> simp only [cond_true, cond_false] <;> (try cases V.formedL false none l0) <;> (try cases V.formedL true none l0) <;> rfl
theorem L42_zero (F : Int × Int × Int × ByteArray × List D → Option Bool) (n : Nat) (l : List V) (x1 x2 x3 : Int) (x4 : ByteArray) (v : V) (h : l[0]? = some v) (hi : 0 < l.length) :
    L42_1 F (n + 1) (((0 : Nat) : Int), x1, x2, x3, x4, V.ds l) () = ((F v.tup).bind fun y28 => (bif (!y28) then (some (O42_1.x0 false x1 x2 x3 x4 (V.ds l), ())) else (L42_1 F n (((1 : Nat) : Int), x1, x2, x3, x4, V.ds l) ()))) := by
  obtain ⟨k, im, mm, t, s⟩ := v
  rw [L42_1, lidx_ds, h, Option.map_some, Option.bind_some, V.d_mk, ds_length, decide_eq_true (by omega : ((0 : Nat) : Int) < ((l.length : Nat) : Int)), cond_true, decide_eq_false (by omega : ¬ ((0 : Nat) : Int) > 0)]
  simp only [cond_false]
  rw [next_idx (by omega)]
  have : ∀ y28, (bif (!y28) then (some (O42_1.x0 false x1 x2 x3 x4 (V.ds l), ())) else (bif (x1 == 7) then (L42_1 F n (((0 + 1 : Nat) : Int), x1, x2, x3, x4, V.ds l) ()) else (L42_1 F n (((0 + 1 : Nat) : Int), x1, x2, x3, x4, V.ds l) ()))) = (bif (!y28) then (some (O42_1.x0 false x1 x2 x3 x4 (V.ds l), ())) else (L42_1 F n (((1 : Nat) : Int), x1, x2, x3, x4, V.ds l) ())) := by
    intro y28; cases (x1 == 7) <;> rfl
  show ((F (k, im, mm, t, V.ds s)).bind fun y28 => (bif (!y28) then (some (O42_1.x0 false x1 x2 x3 x4 (V.ds l), ())) else (bif (x1 == 7) then (L42_1 F n (((0 + 1 : Nat) : Int), x1, x2, x3, x4, V.ds l) ()) else (L42_1 F n (((0 + 1 : Nat) : Int), x1, x2, x3, x4, V.ds l) ())))) = _
  simp only [this]
  rfl
theorem L42_raw (F : Int × Int × Int × ByteArray × List D → Option Bool) (n : Nat) (l : List V) (i : Nat) (x1 x2 x3 : Int) (x4 : ByteArray) (k im mm : Int) (t : ByteArray) (s : List V) (k' im' mm' : Int) (t' : ByteArray) (s' : List V) (h : l[i + 1]? = some (.mk k im mm t s)) (h' : l[i]? = some (.mk k' im' mm' t' s')) (hw : w64 (((i + 1 : Nat) : Int) - 1) = (i : Int)) :
    L42_1 F (n + 1) (((i + 1 : Nat) : Int), x1, x2, x3, x4, V.ds l) () = (bif (decide (((i + 1 : Nat) : Int) < ((l.length : Nat) : Int))) then ((F (k, im, mm, t, V.ds s)).bind fun y28 => (bif (!y28) then (some (O42_1.x0 false x1 x2 x3 x4 (V.ds l), ())) else (bif (x1 == 7) then (bif (decide (((i + 1 : Nat) : Int) > 0)) then ((n50 64 (k', im', mm', t', V.ds s', k, im, mm, t, V.ds s)).bind fun y46 => (bif (decide (y46 ≥ 0)) then (some (O42_1.x0 false x1 x2 x3 x4 (V.ds l), ())) else (L42_1 F n ((w64 (((i + 1 : Nat) : Int) + 1)), x1, x2, x3, x4, V.ds l) ()))) else (L42_1 F n ((w64 (((i + 1 : Nat) : Int) + 1)), x1, x2, x3, x4, V.ds l) ())) else (L42_1 F n ((w64 (((i + 1 : Nat) : Int) + 1)), x1, x2, x3, x4, V.ds l) ())))) else (some (O42_1.x1 x1 x2 x3 x4 (V.ds l), ()))) := by
  rw [L42_1, lidx_ds, h, Option.map_some, V.d_mk, hw, lidx_ds, h', Option.map_some, V.d_mk, ds_length]
  rfl
theorem L42_succ (F : Int × Int × Int × ByteArray × List D → Option Bool) (n : Nat) (l : List V) (i : Nat) (x1 x2 x3 : Int) (x4 : ByteArray) (v q : V) (h : l[i + 1]? = some v) (h' : l[i]? = some q) (hi : i + 1 < l.length) (hl : l.length ≤ 1048576) :
    L42_1 F (n + 1) (((i + 1 : Nat) : Int), x1, x2, x3, x4, V.ds l) () = ((F v.tup).bind fun y28 => (bif (!y28) then (some (O42_1.x0 false x1 x2 x3 x4 (V.ds l), ())) else (bif (x1 == 7) then ((n50 64 (q.two v)).bind fun y46 => (bif (decide (y46 ≥ 0)) then (some (O42_1.x0 false x1 x2 x3 x4 (V.ds l), ())) else (L42_1 F n (((i + 1 + 1 : Nat) : Int), x1, x2, x3, x4, V.ds l) ()))) else (L42_1 F n (((i + 1 + 1 : Nat) : Int), x1, x2, x3, x4, V.ds l) ())))) := by
  obtain ⟨k, im, mm, t, s⟩ := v
  obtain ⟨k', im', mm', t', s'⟩ := q
  rw [L42_raw F n l i x1 x2 x3 x4 k im mm t s k' im' mm' t' s' h h' (by rw [w64_id (by omega) (by omega)]; omega), decide_eq_true (by omega : ((i + 1 : Nat) : Int) < ((l.length : Nat) : Int)), cond_true, next_idx (by omega), decide_eq_true (by omega : ((i + 1 : Nat) : Int) > 0)]
  rfl
theorem L42_eq {F : Int × Int × Int × ByteArray × List D → Option Bool} {l : List V} (hl : V.bigL l ≤ 1048576) (hh : V.hgtL l ≤ 64) (hF : ∀ v ∈ l, F v.tup = some v.formed) (x1 x2 x3 : Int) (x4 : ByteArray) : ∀ (rest : List V) (n i : Nat) (p : Option V), l.drop i = rest → rest.length < n → (p = match i with | 0 => none | j + 1 => l[j]?) → (∀ q, p = some q → q.formed = true) →
    L42_1 F n ((i : Int), x1, x2, x3, x4, V.ds l) () = some (bif V.formedL (x1 == 7) p rest then O42_1.x1 x1 x2 x3 x4 (V.ds l) else O42_1.x0 false x1 x2 x3 x4 (V.ds l), ()) := by
  have hll := V.len_bigL l
  intro rest
  induction rest with
  | nil =>
    intro n i p hr hn hp _
    obtain ⟨n, rfl⟩ : ∃ m, n = m + 1 := ⟨n - 1, by simp at hn; omega⟩
    have := drop_nil hr
    rw [L42_1, ds_length, decide_eq_false (by omega), cond_false, V.formedL, cond_true]
  | cons v rest ih =>
    intro n i p hr hn hp hpf
    obtain ⟨n, rfl⟩ : ∃ m, n = m + 1 := ⟨n - 1, by simp at hn; omega⟩
    obtain ⟨h1, h2, h3, h4⟩ := drop_cons hr
    cases i with
    | zero =>
      subst hp
      rw [L42_zero F n l x1 x2 x3 x4 v h1 h3, hF v h4, Option.bind_some, V.formedL]
      cases hf : v.formed with
      | false => rfl
      | true =>
        rw [Bool.not_true, cond_false, ih n 1 (some v) h2 (by simp at hn; omega) h1.symm (fun q hq => by cases hq; exact hf), V.above]
        cases (x1 == 7) <;> rfl
    | succ j =>
      obtain ⟨q, hq⟩ : ∃ q, l[j]? = some q := ⟨_, List.getElem?_eq_getElem (by omega)⟩
      have hp' : p = some q := hp.trans hq
      subst hp'
      have hm := List.mem_of_getElem? hq
      rw [L42_succ F n l j x1 x2 x3 x4 v q h1 hq h3 (by omega), hF v h4, Option.bind_some, V.formedL, n50_eq 64 q v (by have := V.mem_hgtL hm; omega) (by have := V.mem_bigL hm; omega), Option.bind_some]
      cases hf : v.formed with
      | false => rfl
      | true =>
        rw [Bool.not_true, cond_false, ih n (j + 1 + 1) (some v) h2 (by simp at hn; omega) h1.symm (fun q hq => by cases hq; exact hf), V.cmp_same q v (hpf q rfl) hf]
        cases (x1 == 7) with
        | false => rfl
        | true =>
          rw [cond_true, cond_true, V.above]
          by_cases hc : q.cmp v < 0
          · rw [decide_eq_false (by omega), cond_false, decide_eq_true hc]; rfl
          · rw [decide_eq_true (by omega : q.cmp v ≥ 0), cond_true, decide_eq_false hc]; rfl
theorem n42_eq : ∀ (k : Nat) (v : V), v.hgt ≤ k → v.hgt ≤ 64 → v.big ≤ 1048576 → n42 k v.tup = some v.formed := by
  intro k
  induction k with
  | zero => intro v h; have := v.hgt_pos; omega
  | succ k ih =>
    intro v h h64 hb
    obtain ⟨k0, i0, m0, t0, l0⟩ := v
    rw [V.hgt] at h h64
    rw [V.big] at hb
    have hll := V.len_bigL l0
    have hL := L42_eq (F := n42 k) (l := l0) (by omega) (by omega) (fun v hv => ih v (by have := V.mem_hgtL hv; omega) (by have := V.mem_hgtL hv; omega) (by have := V.mem_bigL hv; omega)) k0 i0 m0 t0 l0 1000000000000 0 none (by simp) (by omega) rfl (by simp)
    rw [show ((0 : Nat) : Int) = 0 from rfl] at hL
    simp only [V.tup]
    rw [n42, hL, n68_eq (by omega), V.formed]
    simp only [Option.bind_some, n70, n78, ds_length, cond_some, cond_true, cond_false]
    congr 1
    generalize hE : sEq t0 noT = E
    generalize hZ : (((l0.length : Nat) : Int) == 0) = Z
    generalize hI : (i0 == 0) = I
    generalize hM : (m0 == 0) = M
    have hI' : (i0 != 0) = !I := by rw [← hI]; rfl
    have hM' : (m0 != 0) = !M := by rw [← hM]; rfl
    rw [hI', hM']
    cases (k0 == 1) with
    | true => cases E <;> cases Z <;> cases M <;> cases I <;> rfl
    | false =>
      cases (k0 == 2) with
      | true => cases E <;> cases Z <;> cases M <;> cases I <;> rfl
      | false =>
        cases (k0 == 3) with
        | true => cases E <;> cases Z <;> cases M <;> cases I <;> rfl
        | false =>
          cases (k0 == 4) with
          | true => cases E <;> cases Z <;> cases M <;> cases I <;> rfl
          | false =>
            cases h5 : (k0 == 5) <;> cases h6 : (k0 == 6) <;> cases h7 : (k0 == 7) <;> cases E <;> cases M <;> cases I <;> simp only [cond_true, cond_false, Bool.not_true, Bool.not_false] <;> (try cases V.formedL false none l0) <;> (try cases V.formedL true none l0) <;> rfl
def V.right (v : V) : Bool := v.small && v.formed
theorem hgt_small {v : V} (h : v.small = true) : v.hgt ≤ 16 := (of_decide_eq_true h).2
theorem check_eq {v : V} (hb : v.big ≤ 1048576) : n15 v.tup = some (bif v.right then 0 else 40) := by
  have h1 := small_eq hb
  have h2 := fun h => n44_eq 64 v h h hb
  obtain ⟨k, i, m, t, l⟩ := v
  simp only [V.tup, n15] at h1 h2 ⊢
  rw [h1, Option.bind_some]
  unfold V.right
  cases hs : (V.mk k i m t l).small with
  | false => rfl
  | true =>
    have := hgt_small hs
    rw [Bool.not_true, cond_false, h2 (by omega), Option.bind_some]
    cases (V.mk k i m t l).formed <;> rfl
theorem right_eq {v : V} (hb : v.big ≤ 1048576) : n13 v.tup = some v.right := by
  obtain ⟨c, h1, h1'⟩ := counted_eq hb
  have h2 := fun h => n42_eq 64 v h h hb
  obtain ⟨k, i, m, t, l⟩ := v
  simp only [V.tup, n13] at h1 h2 ⊢
  rw [h1, Option.bind_some, h1']
  unfold V.right
  cases hs : (V.mk k i m t l).small with
  | false => rfl
  | true =>
    have := hgt_small hs
    rw [cond_true, h2 (by omega), Option.bind_some]
    rfl
def V.ord (v w : V) : Int := bif v.right then bif w.right then v.cmp w else -1 else bif w.right then 1 else 0
theorem n21_eq {v w : V} (hb : v.big ≤ 1048576) (hb' : w.big ≤ 1048576) : n21 (v.two w) = some (v.ord w) := by
  have h1 := check_eq hb
  have h2 := check_eq hb'
  have h3 := fun h => n49_eq 64 v w h hb
  have h4 := @hgt_small v
  unfold V.ord
  have h5 : v.right = true → v.small = true := fun h => (Bool.and_eq_true _ _ ▸ h : _ ∧ _).1
  generalize v.right = R at *
  generalize w.right = R' at *
  obtain ⟨k, i, m, t, l⟩ := v
  obtain ⟨k', i', m', t', l'⟩ := w
  simp only [V.tup, V.two, n21] at h1 h2 h3 ⊢
  rw [h1, h2]
  cases R with
  | false => cases R' <;> rfl
  | true =>
    cases R' with
    | false => rfl
    | true =>
      rw [h3 (by have := h4 (h5 rfl); omega)]
      rfl
end Ev

set_option linter.unusedSimpArgs false
set_option linter.unusedVariables false
namespace Ev
open Go
def V.three : V → V → V → Int × Int × Int × ByteArray × List D × Int × Int × Int × ByteArray × List D × Int × Int × Int × ByteArray × List D
  | .mk k i m t l, .mk k' i' m' t' l', .mk k'' i'' m'' t'' l'' => (k, i, m, t, V.ds l, k', i', m', t', V.ds l', k'', i'', m'', t'', V.ds l'')
theorem plain5 {v w u : V} (hb : v.big ≤ 1048576) (hb' : w.big ≤ 1048576) (hb'' : u.big ≤ 1048576) : n5 (v.three w u) = some true := by
  have h1 := check_eq hb
  have h2 := check_eq hb'
  have h3 := check_eq hb''
  have c1 := n21_eq hb hb'
  have c2 := n21_eq hb' hb''
  have c3 := n21_eq hb hb''
  have c4 := n21_eq hb' hb
  have c5 := n21_eq hb hb
  have c6 := fun h => n23_eq 64 v w h hb
  have hs := @hgt_small v
  have h5 : v.right = true → v.small = true := fun h => (Bool.and_eq_true _ _ ▸ h : _ ∧ _).1
  have T := V.cmp_tri v w u
  have N := V.cmp_neg v w
  have S := V.cmp_self v
  unfold V.ord at c1 c2 c3 c4 c5
  generalize v.right = R at *
  generalize w.right = R' at *
  generalize u.right = R'' at *
  generalize v.cmp w = a at *
  generalize w.cmp u = b at *
  generalize v.cmp u = c at *
  rw [S] at c5
  rw [N] at c4
  obtain ⟨k, i, m, t, l⟩ := v
  obtain ⟨k', i', m', t', l'⟩ := w
  obtain ⟨k'', i'', m'', t'', l''⟩ := u
  simp only [V.tup, V.two, V.three, n5] at h1 h2 h3 c1 c2 c3 c4 c5 c6 ⊢
  rw [h1]
  cases R with
  | false => rfl
  | true =>
    rw [h2]
    cases R' with
    | false => rfl
    | true =>
      rw [h3]
      cases R'' with
      | false => rfl
      | true =>
        rw [c1, c2, c3, c4, c5, c6 (by have := hs (h5 rfl); omega)]
        unfold Tri at T
        obtain ⟨t1, t2, t3, t4, t5⟩ := T
        have ha : a = -1 ∨ a = 0 ∨ a = 1 := by omega
        have hb : b = -1 ∨ b = 0 ∨ b = 1 := by omega
        have hc : c = -1 ∨ c = 0 ∨ c = 1 := by omega
        rcases ha with rfl | rfl | rfl <;> rcases hb with rfl | rfl | rfl <;> rcases hc with rfl | rfl | rfl <;> first | rfl | omega
end Ev
