/- What functions of the program compute, as plain Lean functions, each with its proof by the reader (PlBig); printed by a tool of this work. -/
import Derived.Test.YtedbcbncdfjocaaDoorLtAg
import Derived.Lib.DecodeNEq
import Derived.Lib.TrimU
import Derived.Lib.QuoteLoop
import Derived.Lib.ParseIntBTie
import Derived.Lib.ParseIntBCases
import Derived.Lib.RuneCountTail
import Derived.Lib.MapLaws
set_option linter.unusedSimpArgs false
set_option linter.unusedVariables false
namespace Ev
open Go
end Ev
namespace Ev
open Go
theorem ask_of {p : Prop} [Decidable p] {β : Type} {x : Option β} (h : p) : ask p x = x := if_pos h
theorem w64_id {n : Int} (h0 : -9223372036854775808 ≤ n) (h1 : n ≤ 9223372036854775807) : w64 n = n := by
  simp only [w64, IntKind.wrap, IntKind.signed, IntKind.bits]
  simp
  omega
end Ev
namespace Ev
open Go
theorem sidx_nat (s : ByteArray) (i : Nat) : sidx s (i : Int) = s[i]? := by
  unfold sidx
  rw [if_pos (by omega), Int.toNat_natCast]
theorem cont_eq (s : ByteArray) (i : Nat) (lo hi : Int) : n98 (s, (i : Int), lo, hi) = some (match s[i]? with | some c => decide (lo ≤ (c.toNat : Int)) && decide ((c.toNat : Int) ≤ hi) | none => false) := by
  simp only [n98, sidx_nat]
  cases hc : s[i]? with
  | none =>
    have : ¬ i < s.size := fun h => by rw [getElem?_pos s i h] at hc; cases hc
    rw [decide_eq_false (by omega : ¬ (i : Int) < (s.size : Int)), cond_false]
  | some c =>
    have : i < s.size := by
      rcases Nat.lt_or_ge i s.size with h | h
      · exact h
      · rw [getElem?_neg s i (by omega)] at hc; cases hc
    rw [decide_eq_true (by omega : (i : Int) < (s.size : Int)), cond_true, Option.bind_some, Option.bind_some]
    by_cases h : lo ≤ (c.toNat : Int)
    · simp [h]
    · simp [h]
end Ev
set_option linter.unusedSimpArgs false
set_option linter.unusedVariables false
namespace Ev
open Go
theorem and_facts : ∀ n : Nat, n < 256 → bAnd .u8 n 31 = ((n % 32 : Nat) : Int) ∧ bAnd .u8 n 15 = ((n % 16 : Nat) : Int) ∧ bAnd .u8 n 7 = ((n % 8 : Nat) : Int) ∧ bAnd .u8 n 63 = ((n % 64 : Nat) : Int) := by decide +kernel
theorem bOr_add {k a b : Nat} (hb : b < 2 ^ k) (h : 2 ^ k * a + b < 9223372036854775808) : bOr .i64 ((2 ^ k * a : Nat) : Int) (b : Int) = ((2 ^ k * a + b : Nat) : Int) := by
  have h1 : (BitVec.ofInt 64 ((2 ^ k * a : Nat) : Int)) = BitVec.ofNat 64 (2 ^ k * a) := BitVec.ofInt_natCast ..
  have h2 : (BitVec.ofInt 64 (b : Int)) = BitVec.ofNat 64 b := BitVec.ofInt_natCast ..
  show w64 (((BitVec.ofInt 64 ((2 ^ k * a : Nat) : Int)) ||| (BitVec.ofInt 64 (b : Int))).toNat : Int) = _
  rw [h1, h2, BitVec.toNat_or, BitVec.toNat_ofNat, BitVec.toNat_ofNat, Nat.mod_eq_of_lt (by omega), Nat.mod_eq_of_lt (by omega), ← Nat.two_pow_add_eq_or_of_lt hb, w64_id (by omega) (by omega)]
def rn (s : ByteArray) (i : Nat) : Int := if Utf8.decode s i = (65533, 1) then -1 else ((Utf8.decode s i).1 : Int)
def wd (s : ByteArray) (i : Nat) : Nat := (Utf8.decode s i).2
section
variable {s : ByteArray} {i : Nat}
abbrev bt (s : ByteArray) (k : Nat) : Nat := (s.get! k).toNat
theorem get_bang {k : Nat} (h : k < s.size) : s[k]? = some (s.get! k) := by
  rw [getElem?_pos s k h]
  congr 1
  simp [ByteArray.get!, h]
  rfl
theorem bt_lt (k : Nat) : bt s k < 256 := UInt8.toNat_lt _
theorem cont_at (k : Nat) (lo hi : Int) : n98 (s, ((i + k : Nat) : Int), lo, hi) = some (decide (k < s.size - i ∧ lo ≤ (bt s (i + k) : Int) ∧ (bt s (i + k) : Int) ≤ hi)) := by
  rw [cont_eq]
  by_cases h : i + k < s.size
  · rw [get_bang h]
    congr 1
    have : k < s.size - i := by omega
    simp [this]
  · rw [getElem?_neg s (i + k) (by omega)]
    congr 1
    have : ¬ k < s.size - i := by omega
    simp [this]
theorem sidx_at {k : Nat} (h : k < s.size - i) : sidx s ((i + k : Nat) : Int) = some (s.get! (i + k)) := by
  rw [sidx_nat, get_bang (by omega)]
theorem w_and31 (k : Nat) : w64 (bAnd .u8 (((s.get! k).toNat : Nat) : Int) 31) = ((bt s k % 32 : Nat) : Int) := by
  rw [(and_facts _ (bt_lt k)).1, w64_id (by omega) (by omega)]
theorem w_and15 (k : Nat) : w64 (bAnd .u8 (((s.get! k).toNat : Nat) : Int) 15) = ((bt s k % 16 : Nat) : Int) := by
  rw [(and_facts _ (bt_lt k)).2.1, w64_id (by omega) (by omega)]
theorem w_and7 (k : Nat) : w64 (bAnd .u8 (((s.get! k).toNat : Nat) : Int) 7) = ((bt s k % 8 : Nat) : Int) := by
  rw [(and_facts _ (bt_lt k)).2.2.1, w64_id (by omega) (by omega)]
theorem w_and63 (k : Nat) : w64 (bAnd .u8 (((s.get! k).toNat : Nat) : Int) 63) = ((bt s k % 64 : Nat) : Int) := by
  rw [(and_facts _ (bt_lt k)).2.2.2, w64_id (by omega) (by omega)]
theorem w_mul {a m : Nat} (h : a * m < 9223372036854775808) : w64 ((a : Int) * (m : Int)) = ((a * m : Nat) : Int) := by
  rw [w64_id (by omega) (by omega)]; omega
theorem put2 (j k : Nat) : bOr .i64 (w64 ((w64 (bAnd .u8 ((s.get! j).toNat : Int) 31)) * 2 ^ (min (Int.toNat 6) 64))) (w64 (bAnd .u8 ((s.get! k).toNat : Int) 63)) = ((bt s j % 32 * 64 + bt s k % 64 : Nat) : Int) := by
  rw [w_and31, w_and63, show ((2 : Int) ^ (min (Int.toNat 6) 64)) = ((64 : Nat) : Int) from rfl, w_mul (by omega)]
  have := bOr_add (k := 6) (a := bt s j % 32) (b := bt s k % 64) (by omega) (by omega)
  rw [show bt s j % 32 * 64 = 2 ^ 6 * (bt s j % 32) by omega, this]
theorem put3 (j k l : Nat) : bOr .i64 (bOr .i64 (w64 ((w64 (bAnd .u8 ((s.get! j).toNat : Int) 15)) * 2 ^ (min (Int.toNat 12) 64))) (w64 ((w64 (bAnd .u8 ((s.get! k).toNat : Int) 63)) * 2 ^ (min (Int.toNat 6) 64)))) (w64 (bAnd .u8 ((s.get! l).toNat : Int) 63)) = ((bt s j % 16 * 4096 + bt s k % 64 * 64 + bt s l % 64 : Nat) : Int) := by
  rw [w_and15, w_and63, w_and63, show ((2 : Int) ^ (min (Int.toNat 12) 64)) = ((4096 : Nat) : Int) from rfl, show ((2 : Int) ^ (min (Int.toNat 6) 64)) = ((64 : Nat) : Int) from rfl, w_mul (by omega), w_mul (by omega)]
  have h1 := bOr_add (k := 12) (a := bt s j % 16) (b := bt s k % 64 * 64) (by omega) (by omega)
  rw [show bt s j % 16 * 4096 = 2 ^ 12 * (bt s j % 16) by omega, h1]
  have h2 := bOr_add (k := 6) (a := bt s j % 16 * 64 + bt s k % 64) (b := bt s l % 64) (by omega) (by omega)
  rw [show 2 ^ 12 * (bt s j % 16) + bt s k % 64 * 64 = 2 ^ 6 * (bt s j % 16 * 64 + bt s k % 64) by omega, h2]
theorem put4 (j k l m : Nat) : bOr .i64 (bOr .i64 (bOr .i64 (w64 ((w64 (bAnd .u8 ((s.get! j).toNat : Int) 7)) * 2 ^ (min (Int.toNat 18) 64))) (w64 ((w64 (bAnd .u8 ((s.get! k).toNat : Int) 63)) * 2 ^ (min (Int.toNat 12) 64)))) (w64 ((w64 (bAnd .u8 ((s.get! l).toNat : Int) 63)) * 2 ^ (min (Int.toNat 6) 64)))) (w64 (bAnd .u8 ((s.get! m).toNat : Int) 63)) = ((bt s j % 8 * 262144 + bt s k % 64 * 4096 + bt s l % 64 * 64 + bt s m % 64 : Nat) : Int) := by
  rw [w_and7, w_and63, w_and63, w_and63, show ((2 : Int) ^ (min (Int.toNat 18) 64)) = ((262144 : Nat) : Int) from rfl, show ((2 : Int) ^ (min (Int.toNat 12) 64)) = ((4096 : Nat) : Int) from rfl, show ((2 : Int) ^ (min (Int.toNat 6) 64)) = ((64 : Nat) : Int) from rfl, w_mul (by omega), w_mul (by omega), w_mul (by omega)]
  have h1 := bOr_add (k := 18) (a := bt s j % 8) (b := bt s k % 64 * 4096) (by omega) (by omega)
  rw [show bt s j % 8 * 262144 = 2 ^ 18 * (bt s j % 8) by omega, h1]
  have h2 := bOr_add (k := 12) (a := bt s j % 8 * 64 + bt s k % 64) (b := bt s l % 64 * 64) (by omega) (by omega)
  rw [show 2 ^ 18 * (bt s j % 8) + bt s k % 64 * 4096 = 2 ^ 12 * (bt s j % 8 * 64 + bt s k % 64) by omega, h2]
  have h3 := bOr_add (k := 6) (a := bt s j % 8 * 4096 + bt s k % 64 * 64 + bt s l % 64) (b := bt s m % 64) (by omega) (by omega)
  rw [show 2 ^ 12 * (bt s j % 8 * 64 + bt s k % 64) + bt s l % 64 * 64 = 2 ^ 6 * (bt s j % 8 * 4096 + bt s k % 64 * 64 + bt s l % 64) by omega, h3]
def tail2 (s : ByteArray) (i : Nat) (lo hi : Int) : Option (Int × Int × Int) := (n98 (s, (w64 ((i : Int) + 1)), lo, hi)).bind fun y6 => (bif y6 then ((sidx s (w64 ((i : Int) + 1))).bind fun c7 => (some ((bOr .i64 (w64 ((w64 (bAnd .u8 ((s.get! i).toNat : Int) 31)) * 2 ^ (min (Int.toNat 6) 64))) (w64 (bAnd .u8 (c7.toNat : Int) 63))), (i : Int), 2))) else (some ((-1), (i : Int), 1)))
def tail3 (s : ByteArray) (i : Nat) (lo hi : Int) : Option (Int × Int × Int) := (n98 (s, (w64 ((i : Int) + 1)), lo, hi)).bind fun y8 => (bif y8 then ((n98 (s, (w64 ((i : Int) + 2)), 128, 191)).bind fun y9 => (bif y9 then ((sidx s (w64 ((i : Int) + 1))).bind fun c10 => ((sidx s (w64 ((i : Int) + 2))).bind fun c11 => (some ((bOr .i64 (bOr .i64 (w64 ((w64 (bAnd .u8 ((s.get! i).toNat : Int) 15)) * 2 ^ (min (Int.toNat 12) 64))) (w64 ((w64 (bAnd .u8 (c10.toNat : Int) 63)) * 2 ^ (min (Int.toNat 6) 64)))) (w64 (bAnd .u8 (c11.toNat : Int) 63))), (i : Int), 3)))) else (some ((-1), (i : Int), 1)))) else (some ((-1), (i : Int), 1)))
def tail4 (s : ByteArray) (i : Nat) (lo hi : Int) : Option (Int × Int × Int) := (n98 (s, (w64 ((i : Int) + 1)), lo, hi)).bind fun y24 => (bif y24 then ((n98 (s, (w64 ((i : Int) + 2)), 128, 191)).bind fun y25 => (bif y25 then ((n98 (s, (w64 ((i : Int) + 3)), 128, 191)).bind fun y26 => (bif y26 then ((sidx s (w64 ((i : Int) + 1))).bind fun c27 => ((sidx s (w64 ((i : Int) + 2))).bind fun c28 => ((sidx s (w64 ((i : Int) + 3))).bind fun c29 => (some ((bOr .i64 (bOr .i64 (bOr .i64 (w64 ((w64 (bAnd .u8 ((s.get! i).toNat : Int) 7)) * 2 ^ (min (Int.toNat 18) 64))) (w64 ((w64 (bAnd .u8 (c27.toNat : Int) 63)) * 2 ^ (min (Int.toNat 12) 64)))) (w64 ((w64 (bAnd .u8 (c28.toNat : Int) 63)) * 2 ^ (min (Int.toNat 6) 64)))) (w64 (bAnd .u8 (c29.toNat : Int) 63))), (i : Int), 4))))) else (some ((-1), (i : Int), 1)))) else (some ((-1), (i : Int), 1)))) else (some ((-1), (i : Int), 1)))
def asRef (p : Nat × Nat) (i : Nat) : Int × Int × Int := (if p = (65533, 1) then -1 else (p.1 : Int), (i : Int), (p.2 : Int))
variable (hs : s.size ≤ 67108864) (hi : i < s.size)
include hs hi
theorem next1 : w64 ((i : Int) + 1) = ((i + 1 : Nat) : Int) := by rw [w64_id (by omega) (by omega)]; omega
theorem next2 : w64 ((i : Int) + 2) = ((i + 2 : Nat) : Int) := by rw [w64_id (by omega) (by omega)]; omega
theorem next3 : w64 ((i : Int) + 3) = ((i + 3 : Nat) : Int) := by rw [w64_id (by omega) (by omega)]; omega
theorem tail2_eq (lo hi' : Nat) : tail2 s i lo hi' = some (asRef (Lib.slowN (s.size - i) (bt s i) (bt s (i + 1)) (bt s (i + 2)) (bt s (i + 3)) 2 lo hi') i) := by
  unfold tail2
  rw [next1 hs hi, cont_at, Option.bind_some]
  by_cases h : 1 < s.size - i ∧ (lo : Int) ≤ (bt s (i + 1) : Int) ∧ (bt s (i + 1) : Int) ≤ (hi' : Int)
  · rw [decide_eq_true h, cond_true, sidx_at h.1, Option.bind_some, put2]
    have e : Lib.slowN (s.size - i) (bt s i) (bt s (i + 1)) (bt s (i + 2)) (bt s (i + 3)) 2 lo hi' = (bt s i % 32 * 64 + bt s (i + 1) % 64, 2) := by
      unfold Lib.slowN; rw [if_neg (by omega), if_neg (by omega), if_pos (by omega)]
    rw [e, asRef, if_neg (by simp)]
    rfl
  · rw [decide_eq_false h, cond_false]
    have e : Lib.slowN (s.size - i) (bt s i) (bt s (i + 1)) (bt s (i + 2)) (bt s (i + 3)) 2 lo hi' = (65533, 1) := by
      unfold Lib.slowN
      by_cases h1 : s.size - i < 2
      · rw [if_pos h1]
      · rw [if_neg h1, if_pos (by omega)]
    rw [e]; rfl
theorem tail3_eq (lo hi' : Nat) : tail3 s i lo hi' = some (asRef (Lib.slowN (s.size - i) (bt s i) (bt s (i + 1)) (bt s (i + 2)) (bt s (i + 3)) 3 lo hi') i) := by
  unfold tail3
  rw [next1 hs hi, next2 hs hi, cont_at, cont_at, Option.bind_some]
  by_cases h : 1 < s.size - i ∧ (lo : Int) ≤ (bt s (i + 1) : Int) ∧ (bt s (i + 1) : Int) ≤ (hi' : Int)
  · rw [decide_eq_true h, cond_true, Option.bind_some]
    by_cases h2 : 2 < s.size - i ∧ (128 : Int) ≤ (bt s (i + 2) : Int) ∧ (bt s (i + 2) : Int) ≤ 191
    · rw [decide_eq_true h2, cond_true, sidx_at h.1, Option.bind_some, sidx_at h2.1, Option.bind_some, put3]
      have e : Lib.slowN (s.size - i) (bt s i) (bt s (i + 1)) (bt s (i + 2)) (bt s (i + 3)) 3 lo hi' = (bt s i % 16 * 4096 + bt s (i + 1) % 64 * 64 + bt s (i + 2) % 64, 3) := by
        unfold Lib.slowN; rw [if_neg (by omega), if_neg (by omega), if_neg (by omega), if_neg (by omega), if_pos (by omega)]
      rw [e, asRef, if_neg (by simp)]
      rfl
    · rw [decide_eq_false h2, cond_false]
      have e : Lib.slowN (s.size - i) (bt s i) (bt s (i + 1)) (bt s (i + 2)) (bt s (i + 3)) 3 lo hi' = (65533, 1) := by
        unfold Lib.slowN
        by_cases h1 : s.size - i < 3
        · rw [if_pos h1]
        · rw [if_neg h1, if_neg (by omega), if_neg (by omega), if_pos (by omega)]
      rw [e]; rfl
  · rw [decide_eq_false h, cond_false]
    have e : Lib.slowN (s.size - i) (bt s i) (bt s (i + 1)) (bt s (i + 2)) (bt s (i + 3)) 3 lo hi' = (65533, 1) := by
      unfold Lib.slowN
      by_cases h1 : s.size - i < 3
      · rw [if_pos h1]
      · rw [if_neg h1, if_pos (by omega)]
    rw [e]; rfl
theorem tail4_eq (lo hi' : Nat) : tail4 s i lo hi' = some (asRef (Lib.slowN (s.size - i) (bt s i) (bt s (i + 1)) (bt s (i + 2)) (bt s (i + 3)) 4 lo hi') i) := by
  unfold tail4
  rw [next1 hs hi, next2 hs hi, next3 hs hi, cont_at, cont_at, cont_at, Option.bind_some]
  by_cases h : 1 < s.size - i ∧ (lo : Int) ≤ (bt s (i + 1) : Int) ∧ (bt s (i + 1) : Int) ≤ (hi' : Int)
  · rw [decide_eq_true h, cond_true, Option.bind_some]
    by_cases h2 : 2 < s.size - i ∧ (128 : Int) ≤ (bt s (i + 2) : Int) ∧ (bt s (i + 2) : Int) ≤ 191
    · rw [decide_eq_true h2, cond_true, Option.bind_some]
      by_cases h3 : 3 < s.size - i ∧ (128 : Int) ≤ (bt s (i + 3) : Int) ∧ (bt s (i + 3) : Int) ≤ 191
      · rw [decide_eq_true h3, cond_true, sidx_at h.1, Option.bind_some, sidx_at h2.1, Option.bind_some, sidx_at h3.1, Option.bind_some, put4]
        have e : Lib.slowN (s.size - i) (bt s i) (bt s (i + 1)) (bt s (i + 2)) (bt s (i + 3)) 4 lo hi' = (bt s i % 8 * 262144 + bt s (i + 1) % 64 * 4096 + bt s (i + 2) % 64 * 64 + bt s (i + 3) % 64, 4) := by
          unfold Lib.slowN; rw [if_neg (by omega), if_neg (by omega), if_neg (by omega), if_neg (by omega), if_neg (by omega), if_neg (by omega)]
        rw [e, asRef, if_neg (by simp)]
        rfl
      · rw [decide_eq_false h3, cond_false]
        have e : Lib.slowN (s.size - i) (bt s i) (bt s (i + 1)) (bt s (i + 2)) (bt s (i + 3)) 4 lo hi' = (65533, 1) := by
          unfold Lib.slowN
          by_cases h1 : s.size - i < 4
          · rw [if_pos h1]
          · rw [if_neg h1, if_neg (by omega), if_neg (by omega), if_neg (by omega), if_neg (by omega), if_pos (by omega)]
        rw [e]; rfl
    · rw [decide_eq_false h2, cond_false]
      have e : Lib.slowN (s.size - i) (bt s i) (bt s (i + 1)) (bt s (i + 2)) (bt s (i + 3)) 4 lo hi' = (65533, 1) := by
        unfold Lib.slowN
        by_cases h1 : s.size - i < 4
        · rw [if_pos h1]
        · rw [if_neg h1, if_neg (by omega), if_neg (by omega), if_pos (by omega)]
      rw [e]; rfl
  · rw [decide_eq_false h, cond_false]
    have e : Lib.slowN (s.size - i) (bt s i) (bt s (i + 1)) (bt s (i + 2)) (bt s (i + 3)) 4 lo hi' = (65533, 1) := by
      unfold Lib.slowN
      by_cases h1 : s.size - i < 4
      · rw [if_pos h1]
      · rw [if_neg h1, if_pos (by omega)]
    rw [e]; rfl
omit hs hi in
theorem n67_eq (c5 : UInt8) (hc : sidx s (i : Int) = some c5) (hg : s.get! i = c5) : n67 (s, (i : Int)) = (bif (decide ((c5.toNat : Int) < 128)) then (some ((w64 (c5.toNat : Int)), (i : Int), 1)) else (bif (bif (decide ((c5.toNat : Int) ≥ 194)) then (decide ((c5.toNat : Int) ≤ 223)) else false) then tail2 s i 128 191 else (bif (bif (decide ((c5.toNat : Int) ≥ 224)) then (decide ((c5.toNat : Int) ≤ 239)) else false) then (bif ((c5.toNat : Int) == 224) then (bif ((c5.toNat : Int) == 237) then tail3 s i 160 159 else tail3 s i 160 191) else (bif ((c5.toNat : Int) == 237) then tail3 s i 128 159 else tail3 s i 128 191)) else (bif (bif (decide ((c5.toNat : Int) ≥ 240)) then (decide ((c5.toNat : Int) ≤ 244)) else false) then (bif ((c5.toNat : Int) == 240) then (bif ((c5.toNat : Int) == 244) then tail4 s i 144 143 else tail4 s i 144 191) else (bif ((c5.toNat : Int) == 244) then tail4 s i 128 143 else tail4 s i 128 191)) else (some ((-1), (i : Int), 1)))))) := by
  subst hg
  simp only [n67, hc, Option.bind_some]
  rfl
theorem one_eq : n67 (s, (i : Int)) = some (asRef (Utf8.decode s i) i) := by
  have hg := get_bang (s := s) hi
  have hsx : sidx s (i : Int) = some (s.get! i) := by rw [sidx_nat, hg]
  rw [n67_eq _ hsx rfl, Lib.decode_at]
  have hb := bt_lt (s := s) i
  have h1 := bt_lt (s := s) (i + 1)
  have h2 := bt_lt (s := s) (i + 2)
  have h3 := bt_lt (s := s) (i + 3)
  have hn : 1 ≤ s.size - i := by omega
  have t2 := tail2_eq hs hi 128 191
  have t3a := tail3_eq hs hi 160 191
  have t3b := tail3_eq hs hi 128 159
  have t3c := tail3_eq hs hi 128 191
  have t4a := tail4_eq hs hi 144 191
  have t4b := tail4_eq hs hi 128 143
  have t4c := tail4_eq hs hi 128 191
  rw [show (((128 : Nat) : Int)) = 128 from rfl, show (((191 : Nat) : Int)) = 191 from rfl] at t2 t3c t4c
  rw [show (((160 : Nat) : Int)) = 160 from rfl, show (((191 : Nat) : Int)) = 191 from rfl] at t3a
  rw [show (((128 : Nat) : Int)) = 128 from rfl, show (((159 : Nat) : Int)) = 159 from rfl] at t3b
  rw [show (((144 : Nat) : Int)) = 144 from rfl, show (((191 : Nat) : Int)) = 191 from rfl] at t4a
  rw [show (((128 : Nat) : Int)) = 128 from rfl, show (((143 : Nat) : Int)) = 143 from rfl] at t4b
  have F : ∀ {p : Prop} [Decidable p], ¬ p → decide p = false := fun h => decide_eq_false h
  have T : ∀ {p : Prop} [Decidable p], p → decide p = true := fun h => decide_eq_true h
  have E0 : ∀ {z : Int}, ((bt s i : Nat) : Int) ≠ z → (((bt s i : Nat) : Int) == z) = false := fun h => beq_eq_false_iff_ne.2 h
  have E1 : ∀ {z : Int}, ((bt s i : Nat) : Int) = z → (((bt s i : Nat) : Int) == z) = true := fun h => beq_iff_eq.2 h
  by_cases c0 : bt s i < 128
  · rw [T (show ((bt s i : Nat) : Int) < 128 by omega), cond_true, Lib.ascii_eq _ _ _ _ _ (by unfold Lib.firstT; rw [if_pos c0])]
    have h0 : bt s i ≠ 65533 := by omega
    have hw : w64 (((s.get! i).toNat : Nat) : Int) = ((bt s i : Nat) : Int) := w64_id (n := ((bt s i : Nat) : Int)) (by omega) (by omega)
    rw [asRef, if_neg (fun h => h0 (congrArg Prod.fst h)), hw]
    rfl
  rw [F (show ¬ ((bt s i : Nat) : Int) < 128 by omega), cond_false]
  by_cases c1 : bt s i < 194
  · rw [F (show ¬ ((bt s i : Nat) : Int) ≥ 194 by omega), cond_false, cond_false, F (show ¬ ((bt s i : Nat) : Int) ≥ 224 by omega), cond_false, cond_false, F (show ¬ ((bt s i : Nat) : Int) ≥ 240 by omega), cond_false, cond_false,
      Lib.bad_eq _ _ _ _ _ hb (by unfold Lib.firstT; rw [if_neg c0, if_pos c1])]
    rfl
  rw [T (show ((bt s i : Nat) : Int) ≥ 194 by omega), cond_true]
  by_cases c2 : bt s i < 224
  · rw [T (show ((bt s i : Nat) : Int) ≤ 223 by omega), cond_true, t2, Lib.slow_C2 _ _ _ _ _ hn h1 h2 h3 ⟨by omega, c2⟩]
  rw [F (show ¬ ((bt s i : Nat) : Int) ≤ 223 by omega), cond_false, T (show ((bt s i : Nat) : Int) ≥ 224 by omega), cond_true]
  by_cases c3 : bt s i < 240
  · rw [T (show ((bt s i : Nat) : Int) ≤ 239 by omega), cond_true]
    by_cases d1 : bt s i = 224
    · rw [E1 (show ((bt s i : Nat) : Int) = 224 by omega), cond_true, E0 (show ((bt s i : Nat) : Int) ≠ 237 by omega), cond_false, t3a, Lib.slow_E0 _ _ _ _ _ hn h1 h2 h3 d1]
    · rw [E0 (show ((bt s i : Nat) : Int) ≠ 224 by omega), cond_false]
      by_cases d2 : bt s i = 237
      · rw [E1 (show ((bt s i : Nat) : Int) = 237 by omega), cond_true, t3b, Lib.slow_ED _ _ _ _ _ hn h1 h2 h3 d2]
      · rw [E0 (show ((bt s i : Nat) : Int) ≠ 237 by omega), cond_false, t3c, Lib.slow_E1 _ _ _ _ _ hn h1 h2 h3 (by omega)]
  rw [F (show ¬ ((bt s i : Nat) : Int) ≤ 239 by omega), cond_false, T (show ((bt s i : Nat) : Int) ≥ 240 by omega), cond_true]
  by_cases c4 : bt s i < 245
  · rw [T (show ((bt s i : Nat) : Int) ≤ 244 by omega), cond_true]
    by_cases d1 : bt s i = 240
    · rw [E1 (show ((bt s i : Nat) : Int) = 240 by omega), cond_true, E0 (show ((bt s i : Nat) : Int) ≠ 244 by omega), cond_false, t4a, Lib.slow_F0 _ _ _ _ _ hn h1 h2 h3 d1]
    · rw [E0 (show ((bt s i : Nat) : Int) ≠ 240 by omega), cond_false]
      by_cases d2 : bt s i = 244
      · rw [E1 (show ((bt s i : Nat) : Int) = 244 by omega), cond_true, t4b, Lib.slow_F4 _ _ _ _ _ hn h1 h2 h3 d2]
      · rw [E0 (show ((bt s i : Nat) : Int) ≠ 244 by omega), cond_false, t4c, Lib.slow_F1 _ _ _ _ _ hn h1 h2 h3 (by omega)]
  · rw [F (show ¬ ((bt s i : Nat) : Int) ≤ 244 by omega), cond_false, Lib.bad_eq _ _ _ _ _ hb (by unfold Lib.firstT; rw [if_neg c0, if_neg c1, if_neg c2, if_neg (by omega), if_neg (by omega), if_neg (by omega), if_neg c3, if_neg (by omega), if_neg (by omega), if_neg (by omega)])]
    rfl
end
end Ev
set_option linter.unusedSimpArgs false
set_option linter.unusedVariables false
namespace Ev
open Go
theorem wd_pos (s : ByteArray) (i : Nat) : 1 ≤ wd s i := Lib.width_pos s i
theorem wd_le {s : ByteArray} {i : Nat} (h : i < s.size) : i + wd s i ≤ s.size := by
  unfold wd
  rw [Lib.decode_at]
  have := Lib.decodeN_width_le (s.size - i) (s.get! i).toNat (s.get! (i + 1)).toNat (s.get! (i + 2)).toNat (s.get! (i + 3)).toNat (by omega)
  omega
abbrev Ru := Int × Nat × Nat
def runesF (s : ByteArray) : Nat → Nat → List Ru
  | 0, _ => []
  | f + 1, i => if i < s.size then (rn s i, i, wd s i) :: runesF s f (i + wd s i) else []
theorem runesF_ge (s : ByteArray) : ∀ (f i : Nat), s.size ≤ i → runesF s f i = []
  | 0, _, _ => rfl
  | f + 1, i, h => by rw [runesF, if_neg (by omega)]
theorem runesF_any (s : ByteArray) : ∀ (f g i : Nat), s.size - i ≤ f → s.size - i ≤ g → runesF s f i = runesF s g i
  | 0, g, i, hf, _ => by rw [runesF_ge s g i (by omega), runesF]
  | f + 1, 0, i, _, hg => by rw [runesF_ge s (f + 1) i (by omega), runesF]
  | f + 1, g + 1, i, hf, hg => by
    rw [runesF, runesF]
    by_cases h : i < s.size
    · have := wd_pos s i
      rw [if_pos h, if_pos h, runesF_any s f g _ (by omega) (by omega)]
    · rw [if_neg h, if_neg h]
def runesL (s : ByteArray) (i : Nat) : List Ru := runesF s (s.size - i) i
theorem runesL_nil {s : ByteArray} {i : Nat} (h : s.size ≤ i) : runesL s i = [] := runesF_ge s _ i h
theorem runesL_cons {s : ByteArray} {i : Nat} (h : i < s.size) : runesL s i = (rn s i, i, wd s i) :: runesL s (i + wd s i) := by
  unfold runesL
  obtain ⟨f, hf⟩ : ∃ f, s.size - i = f + 1 := ⟨s.size - i - 1, by omega⟩
  have := wd_pos s i
  rw [hf, runesF, if_pos h, runesF_any s f (s.size - (i + wd s i)) _ (by omega) (by omega)]
theorem runesL_length {s : ByteArray} : ∀ (d i : Nat), s.size - i ≤ d → (runesL s i).length ≤ s.size - i := by
  intro d
  induction d with
  | zero => intro i h; rw [runesL_nil (by omega)]; simp
  | succ d ih =>
    intro i h
    by_cases hi : i < s.size
    · have := wd_pos s i
      have h2 := wd_le hi
      rw [runesL_cons hi, List.length_cons]
      have := ih (i + wd s i) (by omega)
      omega
    · rw [runesL_nil (by omega)]; simp
theorem asRef_eq (s : ByteArray) (i : Nat) : asRef (Utf8.decode s i) i = (rn s i, (i : Int), (wd s i : Int)) := rfl
theorem one_at {s : ByteArray} (hs : s.size ≤ 67108864) {i : Nat} (hi : i < s.size) : n67 (s, (i : Int)) = some (rn s i, (i : Int), (wd s i : Int)) := by rw [one_eq hs hi, asRef_eq]
def encR (r : Ru) : D := .agg [.val (.int .i64 r.1), .val (.int .i64 r.2.1), .val (.int .i64 r.2.2)]
theorem hasSize_map {α : Type} (f : α → D) (z : Nat) (hf : ∀ a, (f a).cells.length = z) : ∀ l : List α, hasSize z (l.map f) = true
  | [] => rfl
  | a :: l => by show ((f a).cells.length == z) = true; rw [hf a]; exact beq_iff_eq.2 rfl
theorem addOk_map {α : Type} (f : α → D) (z w : Nat) (hf : ∀ a, (f a).cells.length = z) (acc : List α) (a : α) (h : (acc.length + 1) * w ≤ maxBytes) : addOk (acc.map f).length (acc.map f) [f a] z w :=
  ⟨rfl, hasSize_map f z hf [a], hasSize_map f z hf acc, by simpa using h⟩
theorem toks_one {α : Type} (f : α → D) (acc : List α) (a : α) (k : Nat) : ([k, (acc.map f).length + ([f a] : List D).length] : List Nat) = [k, (acc.map f ++ [f a]).length] := by simp
theorem map_snoc {α : Type} (f : α → D) (acc : List α) (a : α) : acc.map f ++ [f a] = (acc ++ [a]).map f := by simp
theorem L29_step (s : ByteArray) (v3 : List D) (i k : Nat) (n : Nat) : L29_0 (n + 1) (s, v3, (i : Int), k) () = (bif (decide ((i : Int) < (s.size : Int))) then ((n67 (s, (i : Int))).bind fun y6 => (ask (addOk v3.length v3 ([.agg [.val (.int .i64 y6.1), .val (.int .i64 y6.2.1), .val (.int .i64 y6.2.2)]] : List D) 3 24) (ask (([k, (v3.length + ([.agg [.val (.int .i64 y6.1), .val (.int .i64 y6.2.1), .val (.int .i64 y6.2.2)]] : List D).length)] : List Nat) = [k, (v3 ++ ([.agg [.val (.int .i64 y6.1), .val (.int .i64 y6.2.1), .val (.int .i64 y6.2.2)]] : List D)).length]) (L29_0 n (s, (v3 ++ ([.agg [.val (.int .i64 y6.1), .val (.int .i64 y6.2.1), .val (.int .i64 y6.2.2)]] : List D)), (w64 ((i : Int) + y6.2.2)), k) ())))) else (ask (([k, v3.length] : List Nat) = [k, v3.length]) (some (O29_0.x0 v3 k, ())))) := rfl
theorem L29 {s : ByteArray} (hs : s.size ≤ 67108864) (k : Nat) : ∀ (d n i : Nat) (acc : List Ru), s.size - i ≤ d → d < n → acc.length ≤ i → i ≤ s.size → L29_0 n (s, acc.map encR, (i : Int), k) () = some (O29_0.x0 ((acc ++ runesL s i).map encR) k, ()) := by
  intro d
  induction d with
  | zero =>
    intro n i acc hd hn ha hi
    obtain ⟨m, rfl⟩ : ∃ m, n = m + 1 := ⟨n - 1, by omega⟩
    rw [L29_step, decide_eq_false (by omega), cond_false, ask_of rfl, runesL_nil (by omega), List.append_nil]
  | succ d ih =>
    intro n i acc hd hn ha hi
    obtain ⟨m, rfl⟩ : ∃ m, n = m + 1 := ⟨n - 1, by omega⟩
    by_cases h : i < s.size
    · have w1 := wd_pos s i
      have w2 := wd_le h
      have hadd := addOk_map encR 3 24 (fun _ => rfl) acc (rn s i, i, wd s i) (by unfold maxBytes; omega)
      have e5 : w64 ((i : Int) + (wd s i : Int)) = ((i + wd s i : Nat) : Int) := by rw [w64_id (by omega) (by omega)]; omega
      rw [L29_step, decide_eq_true (by omega), cond_true, one_at hs h, Option.bind_some]
      show ask (addOk (acc.map encR).length (acc.map encR) [encR (rn s i, i, wd s i)] 3 24) (ask (([k, (acc.map encR).length + ([encR (rn s i, i, wd s i)] : List D).length] : List Nat) = [k, (acc.map encR ++ [encR (rn s i, i, wd s i)]).length]) (L29_0 m (s, acc.map encR ++ [encR (rn s i, i, wd s i)], w64 ((i : Int) + (wd s i : Int)), k) ())) = _
      rw [ask_of hadd, ask_of (toks_one encR acc (rn s i, i, wd s i) k), e5]
      show L29_0 m (s, acc.map encR ++ [encR (rn s i, i, wd s i)], ((i + wd s i : Nat) : Int), k) () = _
      rw [map_snoc, ih m (i + wd s i) (acc ++ [(rn s i, i, wd s i)]) (by omega) (by omega) (by simp; omega) w2, runesL_cons h, List.append_assoc]
      rfl
    · rw [L29_step, decide_eq_false (by omega), cond_false, ask_of rfl, runesL_nil (by omega), List.append_nil]
theorem n29_eq {s : ByteArray} (hs : s.size ≤ 67108864) : n29 s = some ((runesL s 0).map encR) := by
  show (ask (([0, 0] : List Nat) = [0, ([] : List D).length]) ((L29_0 1000000000000 (s, ([] : List D), 0, 0) ()).bind fun p9 => match p9.1 with | .x0 z10 z11 => (some z10))) = _
  rw [ask_of (show ([0, 0] : List Nat) = [0, ([] : List D).length] from rfl)]
  have := L29 hs 0 s.size 1000000000000 0 [] (by omega) (by omega) (by simp) (by omega)
  rw [show ((0 : Nat) : Int) = 0 from rfl] at this
  show (L29_0 1000000000000 (s, ([] : List Ru).map encR, 0, 0) ()).bind _ = _
  rw [this]
  rfl
theorem n55_eq {s : ByteArray} (hs : s.size ≤ 67108864) : n55 s = some (((runesL s 0).length : Nat) : Int) := by
  simp only [n55, n29_eq hs, Option.bind_some, List.length_map]
end Ev
set_option linter.unusedSimpArgs false
set_option linter.unusedVariables false
namespace Ev
open Go
theorem alive_true : n32 () = some true := by kernel_rfl
theorem sEq_iff (a b : ByteArray) : sEq a b = true ↔ a = b := by
  unfold sEq
  rw [beq_iff_eq]
  constructor
  · intro h
    have : a.data.toList = b.data.toList := by
      have e : ∀ x : ByteArray, x.toList = x.data.toList := fun x => by simp [ByteArray.toList_eq]
      rw [e, e] at h
      exact h
    exact ByteArray.ext (Array.toList_inj.1 this)
  · intro h; rw [h]
abbrev i64 (v : Int) : Prop := -9223372036854775808 ≤ v ∧ v ≤ 9223372036854775807
theorem toList_mk (l : List UInt8) : (⟨l.toArray⟩ : ByteArray).data.toList = l := by simp
theorem size_mk (l : List UInt8) : (⟨l.toArray⟩ : ByteArray).size = l.length := rfl
theorem get_list (s : ByteArray) (k : Nat) : s[k]? = s.data.toList[k]? := by
  rw [Array.getElem?_toList]
  by_cases h : k < s.size
  · rw [getElem?_pos s k h, Array.getElem?_eq_getElem h]; rfl
  · rw [getElem?_neg s k h, Array.getElem?_eq_none (by simpa using h)]
theorem size_list (s : ByteArray) : s.size = s.data.toList.length := by simp
end Ev
set_option linter.unusedSimpArgs false
set_option linter.unusedVariables false
namespace Ev
open Go
end Ev
set_option linter.unusedSimpArgs false
set_option linter.unusedVariables false
namespace Ev
open Go
abbrev Sp := Int × Nat × Nat × Nat
def spotsOf : Nat → Nat → List Ru → List Sp
  | _, _, [] => []
  | l, c, r :: t => (r.1, r.2.1, l, c) :: (if r.1 = 10 then spotsOf (l + 1) 1 t else spotsOf l (c + 1) t)
def encS (p : Sp) : D := .agg [.val (.int .i64 p.2.1), .val (.int .i64 p.2.2.1), .val (.int .i64 p.2.2.2)]
def encC (p : Sp) : D := .val (.int .i32 p.1)
def runY {σ : Type} (Y : Yd σ) : List Sp → σ → Option (Bool × σ)
  | [], st => some (true, st)
  | p :: t, st => (Y [encS p, encC p] st).bind fun q => bif q.1 then runY Y t q.2 else some (false, q.2)
theorem n84_eq {s : ByteArray} (hs : s.size ≤ 67108864) {i : Nat} (hi : i < s.size) : n84 (s, (i : Int)) = some (decide (wd s i = 1)) := by
  show (ask (cutOk (i : Int) (s.size : Int) s.size) ((n107 (s.extract (Int.toNat (i : Int)) (Int.toNat (s.size : Int)))).bind fun y3 => (some (y3.2 == 1)))) = _
  rw [ask_of ⟨by omega, by omega, by omega⟩, Int.toNat_natCast, Int.toNat_natCast]
  have e : Lib.decodeGo (s.extract i s.size) = Utf8.decode s i := by
    unfold Lib.decodeGo
    have hsz : (s.extract i s.size).size = s.size - i := by simp
    rw [if_neg (by rw [hsz]; omega)]
    exact Lib.tail_decode s i 0
  show (some ((((Lib.decodeGo (s.extract i s.size)).2 : Nat) : Int) == 1) : Option Bool) = _
  rw [e]
  congr 1
  unfold wd
  rw [Bool.eq_iff_iff, beq_iff_eq, decide_eq_true_iff]
  omega
def ofO83 : O83_0 → ByteArray
  | .x0 z _ _ _ _ _ => z
  | .x1 z _ _ _ _ _ => z
theorem L83_step {σ : Type} (Y : Yd σ) (s : ByteArray) (v2 v3 v4 : Int) (i n : Nat) (st : σ) : L83_0 Y (n + 1) (s, v2, v3, v4, s, i) st = (bif decide (i < s.size) then (bif (((Utf8.decode s i).1 : Int) == 65533) then ((n84 (s, (i : Int))).bind fun y7 => (bif y7 then ((Y [.agg [.val (.int .i64 (i : Int)), .val (.int .i64 v3), .val (.int .i64 v4)], .val (.int .i32 (-1))] st).bind fun q8 => (bif (!q8.1) then (some (O83_0.x0 s (i : Int) v3 v4 s (i + (Utf8.decode s i).2), q8.2)) else (L83_0 Y n (s, (i : Int), v3, (w64 (v4 + 1)), s, (i + (Utf8.decode s i).2)) q8.2))) else ((Y [.agg [.val (.int .i64 (i : Int)), .val (.int .i64 v3), .val (.int .i64 v4)], .val (.int .i32 ((Utf8.decode s i).1 : Int))] st).bind fun q15 => (bif (!q15.1) then (some (O83_0.x0 s (i : Int) v3 v4 s (i + (Utf8.decode s i).2), q15.2)) else (bif (((Utf8.decode s i).1 : Int) == 10) then (L83_0 Y n (s, (i : Int), (w64 (v3 + 1)), 1, s, (i + (Utf8.decode s i).2)) q15.2) else (L83_0 Y n (s, (i : Int), v3, (w64 (v4 + 1)), s, (i + (Utf8.decode s i).2)) q15.2)))))) else ((Y [.agg [.val (.int .i64 (i : Int)), .val (.int .i64 v3), .val (.int .i64 v4)], .val (.int .i32 ((Utf8.decode s i).1 : Int))] st).bind fun q16 => (bif (!q16.1) then (some (O83_0.x0 s (i : Int) v3 v4 s (i + (Utf8.decode s i).2), q16.2)) else (bif (((Utf8.decode s i).1 : Int) == 10) then (L83_0 Y n (s, (i : Int), (w64 (v3 + 1)), 1, s, (i + (Utf8.decode s i).2)) q16.2) else (L83_0 Y n (s, (i : Int), v3, (w64 (v4 + 1)), s, (i + (Utf8.decode s i).2)) q16.2))))) else (some (O83_0.x1 s v2 v3 v4 s i, st))) := rfl
theorem L83_round {σ : Type} (Y : Yd σ) {s : ByteArray} (hs : s.size ≤ 67108864) (v2 : Int) (l c : Nat) (hl : l ≤ 67108865) (hc : c ≤ 67108865) {i : Nat} (hi : i < s.size) (n : Nat) (st : σ) :
    ∃ o, ofO83 o = s ∧ L83_0 Y (n + 1) (s, v2, (l : Int), (c : Int), s, i) st = (Y [encS (rn s i, i, l, c), encC (rn s i, i, l, c)] st).bind fun q => (bif (!q.1) then (some (o, q.2)) else (bif (rn s i == 10) then (L83_0 Y n (s, (i : Int), ((l + 1 : Nat) : Int), ((1 : Nat) : Int), s, i + wd s i) q.2) else (L83_0 Y n (s, (i : Int), (l : Int), ((c + 1 : Nat) : Int), s, i + wd s i) q.2))) := by
  have e1 : w64 ((l : Int) + 1) = ((l + 1 : Nat) : Int) := by rw [w64_id (by omega) (by omega)]; omega
  have e2 : w64 ((c : Int) + 1) = ((c + 1 : Nat) : Int) := by rw [w64_id (by omega) (by omega)]; omega
  refine ⟨O83_0.x0 s (i : Int) l c s (i + (Utf8.decode s i).2), rfl, ?_⟩
  rw [L83_step, decide_eq_true hi, cond_true, e1, e2, n84_eq hs hi, Option.bind_some]
  by_cases hr : (Utf8.decode s i).1 = 65533
  · have b1 : (((Utf8.decode s i).1 : Int) == 65533) = true := by rw [hr]; rfl
    rw [b1, cond_true]
    by_cases hw : wd s i = 1
    · have hrn : rn s i = -1 := by
        unfold rn
        rw [if_pos (Prod.ext hr hw)]
      rw [decide_eq_true hw, cond_true, hrn]
      rfl
    · have hrn : rn s i = ((Utf8.decode s i).1 : Int) := by
        unfold rn
        rw [if_neg (fun h => hw (congrArg Prod.snd h))]
      rw [decide_eq_false hw, cond_false, hrn]
      rfl
  · have b1 : (((Utf8.decode s i).1 : Int) == 65533) = false := by rw [beq_eq_false_iff_ne]; omega
    have hrn : rn s i = ((Utf8.decode s i).1 : Int) := by
      unfold rn
      rw [if_neg (fun h => hr (congrArg Prod.fst h))]
    rw [b1, cond_false, hrn]
    rfl
theorem L83 {σ : Type} (Y : Yd σ) {s : ByteArray} (hs : s.size ≤ 67108864) : ∀ (d n i l c : Nat) (v2 : Int) (st : σ), s.size - i ≤ d → d < n → i ≤ s.size → l ≤ i + 1 → c ≤ i + 1 →
    (L83_0 Y n (s, v2, (l : Int), (c : Int), s, i) st).map (fun p => (ofO83 p.1, p.2)) = (runY Y (spotsOf l c (runesL s i)) st).map (fun q => (s, q.2)) := by
  intro d
  induction d with
  | zero =>
    intro n i l c v2 st hd hn hi hl hc
    obtain ⟨m, rfl⟩ : ∃ m, n = m + 1 := ⟨n - 1, by omega⟩
    rw [L83_step, decide_eq_false (by omega), cond_false, runesL_nil (by omega)]
    rfl
  | succ d ih =>
    intro n i l c v2 st hd hn hi hl hc
    obtain ⟨m, rfl⟩ : ∃ m, n = m + 1 := ⟨n - 1, by omega⟩
    by_cases h : i < s.size
    · have w1 := wd_pos s i
      have w2 := wd_le h
      obtain ⟨o, ho, e⟩ := L83_round Y hs v2 l c (by omega) (by omega) h m st
      rw [e, runesL_cons h, spotsOf, runY]
      cases hq : Y [encS (rn s i, i, l, c), encC (rn s i, i, l, c)] st with
      | none => rfl
      | some q =>
        rw [Option.bind_some, Option.bind_some]
        cases q.1 with
        | false => simp [ho]
        | true =>
          rw [Bool.not_true, cond_false, cond_true]
          by_cases h10 : rn s i = 10
          · rw [show (rn s i == 10) = true from beq_iff_eq.2 h10, cond_true, if_pos h10]
            exact ih m (i + wd s i) (l + 1) 1 _ _ (by omega) (by omega) w2 (by omega) (by omega)
          · rw [show (rn s i == 10) = false from beq_eq_false_iff_ne.2 h10, cond_false, if_neg h10]
            exact ih m (i + wd s i) l (c + 1) _ _ (by omega) (by omega) w2 (by omega) (by omega)
    · rw [L83_step, decide_eq_false h, cond_false, runesL_nil (by omega)]
      rfl
def spots (s : ByteArray) : List Sp := spotsOf 1 1 (runesL s 0)
theorem n83_eq {σ : Type} (Y : Yd σ) {s : ByteArray} (hs : s.size ≤ 67108864) (st : σ) : n83 Y s st = (runY Y (spots s) st).map (fun q => (s, q.2)) := by
  have h := L83 Y hs s.size 1000000000000 0 1 1 0 st (by omega) (by omega) (by omega) (by omega) (by omega)
  show ((L83_0 Y 1000000000000 (s, 0, 1, 1, s, 0) st).bind fun p23 => match p23.1 with | .x0 z24 z25 z26 z27 z28 z29 => (some (z24, p23.2)) | .x1 z30 z31 z32 z33 z34 z35 => (some (z30, p23.2))) = _
  rw [show spotsOf 1 1 (runesL s 0) = spots s from rfl] at h
  rw [← h]
  show _ = Option.map _ (L83_0 Y 1000000000000 (s, 0, 1, 1, s, 0) st)
  cases L83_0 Y 1000000000000 (s, 0, 1, 1, s, 0) st with
  | none => rfl
  | some p =>
    obtain ⟨o, st'⟩ := p
    cases o <;> rfl
theorem spotsOf_length : ∀ (l c : Nat) (t : List Ru), (spotsOf l c t).length = t.length
  | _, _, [] => rfl
  | l, c, r :: t => by
    rw [spotsOf, List.length_cons, List.length_cons]
    split
    · rw [spotsOf_length]
    · rw [spotsOf_length]
theorem spots_length (s : ByteArray) : (spots s).length = (runesL s 0).length := spotsOf_length _ _ _
end Ev
set_option linter.unusedSimpArgs false
set_option linter.unusedVariables false
namespace Ev
open Go
end Ev
set_option linter.unusedSimpArgs false
set_option linter.unusedVariables false
namespace Ev
open Go
end Ev
set_option linter.unusedSimpArgs false
set_option linter.unusedVariables false
namespace Ev
open Go
def linesF (cur : List UInt8) : List UInt8 → List (List UInt8)
  | [] => if cur = [] then [] else [cur]
  | c :: t => if c = 10 then cur :: linesF [] t else linesF (cur ++ [c]) t
def encB (l : List UInt8) : D := .val (.string ⟨l.toArray⟩)
def encN64 (k : Nat) : D := .val (.int .i64 (k : Int))
theorem cut_nil : Lib.cut [] [10] = ([], [], false) := rfl
theorem cut_hit (t : List UInt8) : Lib.cut (10 :: t) [10] = ([], t, true) := by
  have : Lib.index (10 :: t) [10] = 0 := by rw [Lib.index]; rfl
  unfold Lib.cut; rw [this]; rfl
theorem cut_miss {c : UInt8} (h : c ≠ 10) (t : List UInt8) : (Lib.cut (c :: t) [10]).1 = c :: (Lib.cut t [10]).1 ∧ (Lib.cut (c :: t) [10]).2.1 = (Lib.cut t [10]).2.1 := by
  have hge := Lib.index_ge t [10]
  have e : Lib.index (c :: t) [10] = if Lib.index t [10] == -1 then -1 else Lib.index t [10] + 1 := by
    have : ([10] : List UInt8).isPrefixOf (c :: t) = false := by
      rw [List.isPrefixOf, beq_eq_false_iff_ne.2 (fun h' => h h'.symm), Bool.false_and]
    rw [Lib.index, this]; rfl
  unfold Lib.cut
  by_cases hm : Lib.index t [10] = -1
  · have e' : Lib.index (c :: t) [10] = -1 := by rw [e, hm]; rfl
    rw [e', hm]; exact ⟨rfl, rfl⟩
  · have e' : Lib.index (c :: t) [10] = Lib.index t [10] + 1 := by rw [e, show (Lib.index t [10] == -1) = false from beq_eq_false_iff_ne.2 hm]; rfl
    have h0 : 0 ≤ Lib.index t [10] := by omega
    have h1 : 0 ≤ Lib.index (c :: t) [10] := by omega
    rw [if_pos h1, if_pos h0, e', show (Lib.index t [10] + 1).toNat = (Lib.index t [10]).toNat + 1 by omega]
    refine ⟨rfl, ?_⟩
    simp only [List.length_cons, List.length_nil]
    rw [show (Lib.index t [10]).toNat + 1 + (0 + 1) = ((Lib.index t [10]).toNat + (0 + 1)) + 1 by omega, List.drop_succ_cons]
theorem lines_cut : ∀ (l cur : List UInt8), cur ≠ [] ∨ l ≠ [] → linesF cur l = (cur ++ (Lib.cut l [10]).1) :: linesF [] (Lib.cut l [10]).2.1
  | [], cur, h => by
    have hc : cur ≠ [] := h.resolve_right (fun q => q rfl)
    rw [linesF, if_neg hc, cut_nil]
    simp [linesF]
  | c :: t, cur, _ => by
    by_cases hc : c = 10
    · subst hc
      rw [linesF, if_pos rfl, cut_hit, List.append_nil]
    · rw [linesF, if_neg hc, lines_cut t (cur ++ [c]) (.inl (by simp)), (cut_miss hc t).1, (cut_miss hc t).2, List.append_assoc]
      rfl
theorem cut_len : ∀ (l : List UInt8), (Lib.cut l [10]).1.length ≤ l.length ∧ (l ≠ [] → (Lib.cut l [10]).2.1.length < l.length)
  | [] => ⟨Nat.le_refl _, fun h => absurd rfl h⟩
  | c :: t => by
    by_cases hc : c = 10
    · subst hc
      rw [cut_hit]; exact ⟨Nat.zero_le _, fun _ => Nat.lt_succ_self _⟩
    · rw [(cut_miss hc t).1, (cut_miss hc t).2]
      have ih := cut_len t
      refine ⟨by simp only [List.length_cons]; omega, fun _ => ?_⟩
      by_cases ht : t = []
      · subst ht; rw [cut_nil]; simp
      · have := ih.2 ht; simp only [List.length_cons]; omega
theorem lines_len : ∀ (l cur : List UInt8), (linesF cur l).length ≤ cur.length + l.length
  | [], cur => by
    rw [linesF]; split
    · simp
    · rename_i h
      have := List.length_pos_iff.2 h
      simp only [List.length_cons, List.length_nil]; omega
  | c :: t, cur => by
    rw [linesF]; split
    · have := lines_len t []
      simp only [List.length_cons, List.length_nil] at this ⊢; omega
    · have := lines_len t (cur ++ [c])
      simp only [List.length_append, List.length_cons, List.length_nil] at this ⊢; omega
def ofO85 : O85_0 → ByteArray
  | .x0 z => z
  | .x1 z => z
theorem addOk_mapB (acc : List (List UInt8)) (x : List UInt8) (h : (acc.length + 1) * 16 ≤ maxBytes) : addOk (acc.map encB).length (acc.map encB) [encB x] 1 16 := addOk_map encB 1 16 (fun _ => rfl) acc x h
theorem L85_step {σ : Type} (Y : Yd σ) (v1 : ByteArray) (v2 : Int) (v3 : ByteArray) (n : Nat) (st : σ) : L85_0 Y (n + 1) (v1, v2, v3) st = (bif (!(sEq v1 (⟨#[]⟩ : ByteArray))) then ((n86 (v1, (⟨#[10]⟩ : ByteArray))).bind fun y4 => ((Y [.val (.int .i64 v2), .val (.string y4.1)] st).bind fun q5 => (bif (!q5.1) then (some (O85_0.x0 v3, q5.2)) else (L85_0 Y n (y4.2.1, (w64 (v2 + 1)), v3) q5.2)))) else (some (O85_0.x1 v3, st))) := rfl
theorem n86_cut {l : List UInt8} (h : l.length ≤ 67108864) : n86 ((⟨l.toArray⟩ : ByteArray), (⟨#[10]⟩ : ByteArray)) = some ((⟨(Lib.cut l [10]).1.toArray⟩ : ByteArray), (⟨(Lib.cut l [10]).2.1.toArray⟩ : ByteArray), (Lib.cut l [10]).2.2) := by
  show ask ((⟨l.toArray⟩ : ByteArray).size < 4294967281) (some ((⟨(Lib.cut (⟨l.toArray⟩ : ByteArray).data.toList [10]).1.toArray⟩ : ByteArray), (⟨(Lib.cut (⟨l.toArray⟩ : ByteArray).data.toList [10]).2.1.toArray⟩ : ByteArray), (Lib.cut (⟨l.toArray⟩ : ByteArray).data.toList [10]).2.2)) = _
  rw [toList_mk, ask_of (by rw [size_mk]; omega)]
abbrev bl (s : ByteArray) : List UInt8 := s.data.toList
theorem ba_mk (s : ByteArray) : (⟨(bl s).toArray⟩ : ByteArray) = s := by
  apply ByteArray.ext; simp
theorem L34_step (v2 : ByteArray) (v3 : List D) (v4 : Int) (k : Nat) (k6 : Nat) (n : Nat) : L34_0 (n + 1) (v2, v3, v4, (k : Int), k6) () = (bif (decide ((k : Int) < (v2.size : Int))) then ((sidx v2 (k : Int)).bind fun c7 => (bif ((c7.toNat : Int) == 10) then (ask (cutOk v4 (k : Int) v2.size) (ask (addOk v3.length v3 ([.val (.string (v2.extract (Int.toNat v4) (Int.toNat (k : Int))))] : List D) 1 16) (ask (([k6, (v3.length + ([.val (.string (v2.extract (Int.toNat v4) (Int.toNat (k : Int))))] : List D).length)] : List Nat) = [k6, (v3 ++ ([.val (.string (v2.extract (Int.toNat v4) (Int.toNat (k : Int))))] : List D)).length]) (L34_0 n (v2, (v3 ++ ([.val (.string (v2.extract (Int.toNat v4) (Int.toNat (k : Int))))] : List D)), (w64 ((k : Int) + 1)), (w64 ((k : Int) + 1)), k6) ())))) else (ask (([k6, v3.length] : List Nat) = [k6, v3.length]) (L34_0 n (v2, v3, v4, (w64 ((k : Int) + 1)), k6) ())))) else (ask (([k6, v3.length] : List Nat) = [k6, v3.length]) (some (O34_0.x0 v2 v3 v4 k6, ())))) := rfl
theorem ext_list (s : ByteArray) (a b : Nat) : s.extract a b = (⟨(((bl s).take b).drop a).toArray⟩ : ByteArray) := by
  apply ByteArray.ext
  apply Array.toList_inj.1
  simp [List.drop_take]
theorem sidx_bl {s : ByteArray} {i : Nat} {c : UInt8} (h : (bl s)[i]? = some c) : sidx s (i : Int) = some c := by
  rw [sidx_nat, get_list]; exact h
theorem L34 {s : ByteArray} (hs : s.size ≤ 67108864) (k6 : Nat) : ∀ (d n i st : Nat) (acc : List (List UInt8)), s.size - i ≤ d → d < n → st ≤ i → i ≤ s.size → acc.length ≤ i →
    ∃ (acc' : List (List UInt8)) (st' : Nat), L34_0 n (s, acc.map encB, (st : Int), (i : Int), k6) () = some (O34_0.x0 s (acc'.map encB) (st' : Int) k6, ()) ∧ acc'.length ≤ s.size ∧ (if st' < s.size then acc' ++ [((bl s).take s.size).drop st'] else acc') = acc ++ linesF (((bl s).take i).drop st) ((bl s).drop i) := by
  have hsz : s.size = (bl s).length := size_list s
  have done : ∀ (m i st : Nat) (acc : List (List UInt8)), st ≤ i → i = s.size → acc.length ≤ i → ∃ (acc' : List (List UInt8)) (st' : Nat), L34_0 (m + 1) (s, acc.map encB, (st : Int), (i : Int), k6) () = some (O34_0.x0 s (acc'.map encB) (st' : Int) k6, ()) ∧ acc'.length ≤ s.size ∧ (if st' < s.size then acc' ++ [((bl s).take s.size).drop st'] else acc') = acc ++ linesF (((bl s).take i).drop st) ((bl s).drop i) := by
    intro m i st acc h1 h2 h3
    refine ⟨acc, st, ?_, by omega, ?_⟩
    · rw [L34_step, decide_eq_false (by omega), cond_false, ask_of rfl]
    · rw [List.drop_eq_nil_of_le (show (bl s).length ≤ i by omega), linesF, h2]
      by_cases hh : st < s.size
      · rw [if_pos hh, if_neg]
        intro e
        have := congrArg List.length e
        simp at this
        omega
      · rw [if_neg hh, if_pos, List.append_nil]
        exact List.drop_eq_nil_of_le (by simp; omega)
  intro d
  induction d with
  | zero =>
    intro n i st acc hd hn h1 h2 h3
    obtain ⟨m, rfl⟩ : ∃ m, n = m + 1 := ⟨n - 1, by omega⟩
    exact done m i st acc h1 (by omega) h3
  | succ d ih =>
    intro n i st acc hd hn h1 h2 h3
    obtain ⟨m, rfl⟩ : ∃ m, n = m + 1 := ⟨n - 1, by omega⟩
    by_cases h : i < s.size
    · have hi : i < (bl s).length := by omega
      have e0 : w64 ((i : Int) + 1) = ((i + 1 : Nat) : Int) := by rw [w64_id (by omega) (by omega)]; omega
      rw [L34_step, decide_eq_true (by omega), cond_true, sidx_bl (List.getElem?_eq_getElem hi), Option.bind_some, e0, List.drop_eq_getElem_cons hi, linesF]
      by_cases h10 : (bl s)[i] = 10
      · rw [show (((bl s)[i].toNat : Int) == 10) = true from beq_iff_eq.2 (by rw [h10]; rfl), cond_true, if_pos h10, ask_of (show cutOk (st : Int) (i : Int) s.size from ⟨by omega, by omega, by omega⟩), Int.toNat_natCast, Int.toNat_natCast, ext_list]
        show ∃ (acc' : List (List UInt8)) (st' : Nat), (ask (addOk (acc.map encB).length (acc.map encB) [encB (((bl s).take i).drop st)] 1 16) (ask (([k6, ((acc.map encB).length + ([encB (((bl s).take i).drop st)] : List D).length)] : List Nat) = [k6, (acc.map encB ++ [encB (((bl s).take i).drop st)]).length]) (L34_0 m (s, acc.map encB ++ [encB (((bl s).take i).drop st)], ((i + 1 : Nat) : Int), ((i + 1 : Nat) : Int), k6) ()))) = _ ∧ _
        rw [ask_of (addOk_mapB acc _ (by unfold maxBytes; omega)), ask_of (toks_one encB acc _ k6), map_snoc]
        obtain ⟨acc', st', q1, q2, q3⟩ := ih m (i + 1) (i + 1) (acc ++ [((bl s).take i).drop st]) (by omega) (by omega) (by omega) (by omega) (by simp; omega)
        refine ⟨acc', st', q1, q2, ?_⟩
        rw [q3, List.append_assoc, List.drop_eq_nil_of_le (show ((bl s).take (i + 1)).length ≤ i + 1 by simp; omega)]
        rfl
      · have hb : (((bl s)[i].toNat : Int) == 10) = false := by
          rw [beq_eq_false_iff_ne]
          intro e
          apply h10
          apply UInt8.toNat_inj.1
          show (bl s)[i].toNat = 10
          omega
        rw [hb, cond_false, if_neg h10, ask_of rfl]
        obtain ⟨acc', st', q1, q2, q3⟩ := ih m (i + 1) st acc (by omega) (by omega) (by omega) (by omega) (by omega)
        refine ⟨acc', st', q1, q2, ?_⟩
        rw [q3, List.take_succ_eq_append_getElem hi, List.drop_append_of_le_length (by simp; omega)]
    · exact done m i st acc h1 (by omega) h3
theorem n34_eq {s : ByteArray} (hs : s.size ≤ 67108864) : n34 s = some ((linesF [] (bl s)).map encB) := by
  obtain ⟨acc', st', q1, q2, q3⟩ := L34 hs 0 s.size 1000000000000 0 0 [] (by omega) (by omega) (by omega) (by omega) (by simp)
  have q3' : (if st' < s.size then acc' ++ [((bl s).take s.size).drop st'] else acc') = linesF [] (bl s) := by rw [q3]; simp
  show (ask (([0, 0] : List Nat) = [0, ([] : List D).length]) ((L34_0 1000000000000 (s, ([] : List (List UInt8)).map encB, ((0 : Nat) : Int), ((0 : Nat) : Int), 0) ()).bind fun p12 => match p12.1 with | .x0 z13 z14 z15 z16 => (bif (decide (z15 < (z13.size : Int))) then (ask (cutOk z15 (z13.size : Int) z13.size) (ask (addOk z14.length z14 ([.val (.string (z13.extract (Int.toNat z15) (Int.toNat (z13.size : Int))))] : List D) 1 16) (some (z14 ++ ([.val (.string (z13.extract (Int.toNat z15) (Int.toNat (z13.size : Int))))] : List D))))) else (some z14)))) = _
  rw [ask_of (show ([0, 0] : List Nat) = [0, ([] : List D).length] from rfl), q1, ← q3']
  by_cases h : st' < s.size
  · rw [if_pos h]
    show (bif (decide ((st' : Int) < (s.size : Int))) then (ask (cutOk (st' : Int) (s.size : Int) s.size) (ask (addOk (acc'.map encB).length (acc'.map encB) ([.val (.string (s.extract (Int.toNat (st' : Int)) (Int.toNat (s.size : Int))))] : List D) 1 16) (some (acc'.map encB ++ ([.val (.string (s.extract (Int.toNat (st' : Int)) (Int.toNat (s.size : Int))))] : List D))))) else (some (acc'.map encB))) = _
    rw [decide_eq_true (by omega), cond_true, ask_of (show cutOk (st' : Int) (s.size : Int) s.size from ⟨by omega, by omega, by omega⟩), Int.toNat_natCast, Int.toNat_natCast, ext_list]
    show (ask (addOk (acc'.map encB).length (acc'.map encB) [encB (((bl s).take s.size).drop st')] 1 16) (some (acc'.map encB ++ [encB (((bl s).take s.size).drop st')]))) = _
    rw [ask_of (addOk_mapB acc' _ (by unfold maxBytes; omega)), map_snoc]
  · rw [if_neg h]
    show (bif (decide ((st' : Int) < (s.size : Int))) then _ else (some (acc'.map encB))) = _
    rw [decide_eq_false (by omega), cond_false]
end Ev
set_option linter.unusedSimpArgs false
set_option linter.unusedVariables false
namespace Ev
open Go
end Ev
set_option linter.unusedSimpArgs false
set_option linter.unusedVariables false
namespace Ev
open Go
end Ev
set_option linter.unusedSimpArgs false
set_option linter.unusedVariables false
namespace Ev
open Go
section
variable (s : ByteArray)
end
variable {s : ByteArray}
end Ev
set_option linter.unusedSimpArgs false
set_option linter.unusedVariables false
namespace Ev
open Go
variable {s : ByteArray}
end Ev
set_option linter.unusedSimpArgs false
set_option linter.unusedVariables false
namespace Ev
open Go
variable {s : ByteArray}
end Ev
