/- What functions of the program compute, as plain Lean functions, each with its proof by the reader (PlBig); printed by a tool of this work. -/
import Derived.Test.YtedbcbncdfjocaaDoorLt18t
import Derived.Lib.DecodeNEq
import Derived.Lib.TrimU
import Derived.Lib.QuoteLoop
import Derived.Lib.ParseIntBTie
import Derived.Lib.ParseIntBCases
import Derived.Lib.RuneCountTail
import Derived.Lib.MapLaws
set_option linter.unusedSimpArgs false
set_option linter.unusedVariables false
namespace Ev
open Go
theorem cond_some {α : Type} (c : Bool) (a b : α) : (bif c then some a else some b) = some (bif c then a else b) := by cases c <;> rfl
theorem cond_iff (c a b : Bool) : (bif c then a else b) = true ↔ (c = true ∧ a = true) ∨ (¬ c = true ∧ b = true) := by cases c <;> simp
theorem letter_eq (r : Int) : n37 r = n38 r := by
  simp only [n37, n38, n71, Option.bind_some, cond_some, Option.some.injEq]
  rw [Bool.eq_iff_iff]
  simp only [cond_iff, decide_eq_true_eq, beq_iff_eq, bne_iff_ne, ne_eq, and_true, Bool.false_eq_true, and_false, or_false]
  omega
end Ev
namespace Ev
open Go
theorem wu64_id {n : Int} (h0 : 0 ≤ n) (h1 : n < 18446744073709551616) : wu64 n = n := by
  simp only [wu64, IntKind.wrap, IntKind.signed, IntKind.bits]
  simp
  omega
theorem wu8_id {n : Int} (h0 : 0 ≤ n) (h1 : n < 256) : wu8 n = n := by
  simp only [wu8, IntKind.wrap, IntKind.signed, IntKind.bits]
  simp
  omega
theorem catOk_of {a b : ByteArray} (h : a.size + b.size ≤ 9223372036854775807) : catOk a b := Nat.ble_eq_true_of_le h
theorem ask_of {p : Prop} [Decidable p] {β : Type} {x : Option β} (h : p) : ask p x = x := if_pos h
theorem nDigits_le : ∀ (k u : Nat), 1 ≤ k → u < 10 ^ k → Lib.nDigits u ≤ k
  | 0, u, h, _ => by omega
  | k + 1, u, _, h => by
    rw [Lib.nDigits]
    split
    · omega
    · have hk : 1 ≤ k := by
        rcases Nat.eq_zero_or_pos k with rfl | hk
        · simp at h; omega
        · exact hk
      have := nDigits_le k (u / 10) hk (by rw [Nat.pow_succ] at h; omega)
      omega
theorem digits_eq : ∀ (k u : Nat), 1 ≤ k → k ≤ 64 → u < 10 ^ k → u < 18446744073709551616 → n75 k (u : Int) = some ⟨(Lib.decDigits u).toArray⟩
  | 0, u, h, _, _, _ => by omega
  | k + 1, u, _, hk64, h, h64 => by
    rw [n75]
    by_cases hu : u < 10
    · rw [decide_eq_true (by omega : (u : Int) < 10), cond_true]
      have e1 : wu8 (wu64 (48 + (u : Int))) = 48 + u := by rw [wu64_id (by omega) (by omega), wu8_id (by omega) (by omega)]
      rw [e1, ask_of (by unfold byteOk; omega), Lib.decDigits_one hu]
      congr 1
    · rw [decide_eq_false (by omega : ¬ (u : Int) < 10), cond_false]
      have hk : 1 ≤ k := by
        rcases Nat.eq_zero_or_pos k with rfl | hk
        · simp at h; omega
        · exact hk
      have hpow : 10 ≤ 10 ^ k := by
        obtain ⟨m, rfl⟩ : ∃ m, k = m + 1 := ⟨k - 1, by omega⟩
        rw [Nat.pow_succ]
        have := Nat.pow_pos (n := m) (show 0 < 10 by omega)
        omega
      have h10 : u / 10 < 10 ^ k := by rw [Nat.pow_succ] at h; omega
      have e1 : wu64 ((u : Int).tdiv 10) = ((u / 10 : Nat) : Int) := by
        have : (u : Int).tdiv 10 = ((u / 10 : Nat) : Int) := by rw [Int.tdiv_eq_ediv_of_nonneg (by omega)]; omega
        rw [this, wu64_id (by omega) (by omega)]
      have e2 : (u : Int).tmod 10 = ((u % 10 : Nat) : Int) := by rw [Int.tmod_eq_emod_of_nonneg (by omega)]; omega
      rw [e1, e2, digits_eq k (u / 10) hk (by omega) h10 (by omega), Option.bind_some, digits_eq k (u % 10) hk (by omega) (by omega) (by omega), Option.bind_some]
      have s1 := Lib.decDigits_length (u / 10)
      have s2 := nDigits_le k (u / 10) hk h10
      have s3 := Lib.decDigits_length (u % 10)
      have s4 := nDigits_le k (u % 10) hk (by omega)
      rw [ask_of (catOk_of (by simp only [ByteArray.size, List.size_toArray]; omega))]
      conv => rhs; rw [Lib.decDigits, dif_neg hu]
      rw [Lib.decDigits_one (show u % 10 < 10 by omega)]
      congr 1
      try (apply ByteArray.ext; simp)
theorem w64_id {n : Int} (h0 : -9223372036854775808 ≤ n) (h1 : n ≤ 9223372036854775807) : w64 n = n := by
  simp only [w64, IntKind.wrap, IntKind.signed, IntKind.bits]
  simp
  omega
theorem digits64 {u : Nat} (h : u < 18446744073709551616) : n75 64 (u : Int) = some ⟨(Lib.decDigits u).toArray⟩ :=
  digits_eq 64 u (by omega) (Nat.le_refl _) (Nat.lt_of_lt_of_le h (by decide)) h
theorem decimal_prog {n : Int} (h0 : -9223372036854775808 ≤ n) (h1 : n ≤ 9223372036854775807) : n44 n = some ⟨(Lib.itoa n).toArray⟩ := by
  have : (10 : Int) = 10 ∧ i64Ok n := ⟨rfl, Nat.ble_eq_true_of_le (by omega), Nat.ble_eq_true_of_le (by omega)⟩
  show (ask ((10 : Int) = 10 ∧ i64Ok n) (some (⟨(Lib.itoa n).toArray⟩ : ByteArray))).bind (fun y => some y) = _
  rw [ask_of this, Option.bind_some]
theorem decimal_ref {n : Int} (h0 : -9223372036854775808 ≤ n) (h1 : n ≤ 9223372036854775807) : n45 n = some ⟨(Lib.itoa n).toArray⟩ := by
  simp only [n45]
  by_cases hn : n < 0
  · rw [decide_eq_true hn, cond_true, w64_id (n := n + 1) (by omega) (by omega), w64_id (n := 0 - (n + 1)) (by omega) (by omega), wu64_id (n := 0 - (n + 1)) (by omega) (by omega), wu64_id (by omega) (by omega)]
    have e : 0 - (n + 1) + 1 = ((n.natAbs : Nat) : Int) := by omega
    have hb : n.natAbs < 18446744073709551616 := by omega
    rw [e, digits64 hb, Option.bind_some]
    have s1 := Lib.decDigits_length n.natAbs
    have s2 := nDigits_le 20 n.natAbs (by omega) (by omega)
    rw [ask_of (catOk_of (by simp only [ByteArray.size, List.size_toArray]; simp; omega))]
    unfold Lib.itoa
    rw [if_pos hn]
    congr 1
    try (apply ByteArray.ext; simp)
  · rw [decide_eq_false hn, cond_false, wu64_id (by omega) (by omega)]
    have e : n = ((n.toNat : Nat) : Int) := by omega
    rw [e, digits64 (by omega), Option.bind_some, ← e]
    unfold Lib.itoa
    rw [if_neg hn]
end Ev
namespace Ev
open Go
theorem sidx_nat (s : ByteArray) (i : Nat) : sidx s (i : Int) = s[i]? := by
  unfold sidx
  rw [if_pos (by omega), Int.toNat_natCast]
theorem cont_eq (s : ByteArray) (i : Nat) (lo hi : Int) : n98 (s, (i : Int), lo, hi) = some (match s[i]? with | some c => decide (lo ≤ (c.toNat : Int)) && decide ((c.toNat : Int) ≤ hi) | none => false) := by
  simp only [n98, sidx_nat]
  cases hc : s[i]? with
  | none =>
    have : ¬ i < s.size := fun h => by rw [getElem?_pos s i h] at hc; cases hc
    rw [decide_eq_false (by omega : ¬ (i : Int) < (s.size : Int)), cond_false]
  | some c =>
    have : i < s.size := by
      rcases Nat.lt_or_ge i s.size with h | h
      · exact h
      · rw [getElem?_neg s i (by omega)] at hc; cases hc
    rw [decide_eq_true (by omega : (i : Int) < (s.size : Int)), cond_true, Option.bind_some, Option.bind_some]
    by_cases h : lo ≤ (c.toNat : Int)
    · simp [h]
    · simp [h]
end Ev
set_option linter.unusedSimpArgs false
set_option linter.unusedVariables false
namespace Ev
open Go
theorem and_facts : ∀ n : Nat, n < 256 → bAnd .u8 n 31 = ((n % 32 : Nat) : Int) ∧ bAnd .u8 n 15 = ((n % 16 : Nat) : Int) ∧ bAnd .u8 n 7 = ((n % 8 : Nat) : Int) ∧ bAnd .u8 n 63 = ((n % 64 : Nat) : Int) := by decide +kernel
theorem bOr_add {k a b : Nat} (hb : b < 2 ^ k) (h : 2 ^ k * a + b < 9223372036854775808) : bOr .i64 ((2 ^ k * a : Nat) : Int) (b : Int) = ((2 ^ k * a + b : Nat) : Int) := by
  have h1 : (BitVec.ofInt 64 ((2 ^ k * a : Nat) : Int)) = BitVec.ofNat 64 (2 ^ k * a) := BitVec.ofInt_natCast ..
  have h2 : (BitVec.ofInt 64 (b : Int)) = BitVec.ofNat 64 b := BitVec.ofInt_natCast ..
  show w64 (((BitVec.ofInt 64 ((2 ^ k * a : Nat) : Int)) ||| (BitVec.ofInt 64 (b : Int))).toNat : Int) = _
  rw [h1, h2, BitVec.toNat_or, BitVec.toNat_ofNat, BitVec.toNat_ofNat, Nat.mod_eq_of_lt (by omega), Nat.mod_eq_of_lt (by omega), ← Nat.two_pow_add_eq_or_of_lt hb, w64_id (by omega) (by omega)]
def rn (s : ByteArray) (i : Nat) : Int := if Utf8.decode s i = (65533, 1) then -1 else ((Utf8.decode s i).1 : Int)
def wd (s : ByteArray) (i : Nat) : Nat := (Utf8.decode s i).2
section
variable {s : ByteArray} {i : Nat}
abbrev bt (s : ByteArray) (k : Nat) : Nat := (s.get! k).toNat
theorem get_bang {k : Nat} (h : k < s.size) : s[k]? = some (s.get! k) := by
  rw [getElem?_pos s k h]
  congr 1
  simp [ByteArray.get!, h]
  rfl
theorem bt_lt (k : Nat) : bt s k < 256 := UInt8.toNat_lt _
theorem cont_at (k : Nat) (lo hi : Int) : n98 (s, ((i + k : Nat) : Int), lo, hi) = some (decide (k < s.size - i ∧ lo ≤ (bt s (i + k) : Int) ∧ (bt s (i + k) : Int) ≤ hi)) := by
  rw [cont_eq]
  by_cases h : i + k < s.size
  · rw [get_bang h]
    congr 1
    have : k < s.size - i := by omega
    simp [this]
  · rw [getElem?_neg s (i + k) (by omega)]
    congr 1
    have : ¬ k < s.size - i := by omega
    simp [this]
theorem sidx_at {k : Nat} (h : k < s.size - i) : sidx s ((i + k : Nat) : Int) = some (s.get! (i + k)) := by
  rw [sidx_nat, get_bang (by omega)]
theorem w_and31 (k : Nat) : w64 (bAnd .u8 (((s.get! k).toNat : Nat) : Int) 31) = ((bt s k % 32 : Nat) : Int) := by
  rw [(and_facts _ (bt_lt k)).1, w64_id (by omega) (by omega)]
theorem w_and15 (k : Nat) : w64 (bAnd .u8 (((s.get! k).toNat : Nat) : Int) 15) = ((bt s k % 16 : Nat) : Int) := by
  rw [(and_facts _ (bt_lt k)).2.1, w64_id (by omega) (by omega)]
theorem w_and7 (k : Nat) : w64 (bAnd .u8 (((s.get! k).toNat : Nat) : Int) 7) = ((bt s k % 8 : Nat) : Int) := by
  rw [(and_facts _ (bt_lt k)).2.2.1, w64_id (by omega) (by omega)]
theorem w_and63 (k : Nat) : w64 (bAnd .u8 (((s.get! k).toNat : Nat) : Int) 63) = ((bt s k % 64 : Nat) : Int) := by
  rw [(and_facts _ (bt_lt k)).2.2.2, w64_id (by omega) (by omega)]
theorem w_mul {a m : Nat} (h : a * m < 9223372036854775808) : w64 ((a : Int) * (m : Int)) = ((a * m : Nat) : Int) := by
  rw [w64_id (by omega) (by omega)]; omega
theorem put2 (j k : Nat) : bOr .i64 (w64 ((w64 (bAnd .u8 ((s.get! j).toNat : Int) 31)) * 2 ^ (min (Int.toNat 6) 64))) (w64 (bAnd .u8 ((s.get! k).toNat : Int) 63)) = ((bt s j % 32 * 64 + bt s k % 64 : Nat) : Int) := by
  rw [w_and31, w_and63, show ((2 : Int) ^ (min (Int.toNat 6) 64)) = ((64 : Nat) : Int) from rfl, w_mul (by omega)]
  have := bOr_add (k := 6) (a := bt s j % 32) (b := bt s k % 64) (by omega) (by omega)
  rw [show bt s j % 32 * 64 = 2 ^ 6 * (bt s j % 32) by omega, this]
theorem put3 (j k l : Nat) : bOr .i64 (bOr .i64 (w64 ((w64 (bAnd .u8 ((s.get! j).toNat : Int) 15)) * 2 ^ (min (Int.toNat 12) 64))) (w64 ((w64 (bAnd .u8 ((s.get! k).toNat : Int) 63)) * 2 ^ (min (Int.toNat 6) 64)))) (w64 (bAnd .u8 ((s.get! l).toNat : Int) 63)) = ((bt s j % 16 * 4096 + bt s k % 64 * 64 + bt s l % 64 : Nat) : Int) := by
  rw [w_and15, w_and63, w_and63, show ((2 : Int) ^ (min (Int.toNat 12) 64)) = ((4096 : Nat) : Int) from rfl, show ((2 : Int) ^ (min (Int.toNat 6) 64)) = ((64 : Nat) : Int) from rfl, w_mul (by omega), w_mul (by omega)]
  have h1 := bOr_add (k := 12) (a := bt s j % 16) (b := bt s k % 64 * 64) (by omega) (by omega)
  rw [show bt s j % 16 * 4096 = 2 ^ 12 * (bt s j % 16) by omega, h1]
  have h2 := bOr_add (k := 6) (a := bt s j % 16 * 64 + bt s k % 64) (b := bt s l % 64) (by omega) (by omega)
  rw [show 2 ^ 12 * (bt s j % 16) + bt s k % 64 * 64 = 2 ^ 6 * (bt s j % 16 * 64 + bt s k % 64) by omega, h2]
theorem put4 (j k l m : Nat) : bOr .i64 (bOr .i64 (bOr .i64 (w64 ((w64 (bAnd .u8 ((s.get! j).toNat : Int) 7)) * 2 ^ (min (Int.toNat 18) 64))) (w64 ((w64 (bAnd .u8 ((s.get! k).toNat : Int) 63)) * 2 ^ (min (Int.toNat 12) 64)))) (w64 ((w64 (bAnd .u8 ((s.get! l).toNat : Int) 63)) * 2 ^ (min (Int.toNat 6) 64)))) (w64 (bAnd .u8 ((s.get! m).toNat : Int) 63)) = ((bt s j % 8 * 262144 + bt s k % 64 * 4096 + bt s l % 64 * 64 + bt s m % 64 : Nat) : Int) := by
  rw [w_and7, w_and63, w_and63, w_and63, show ((2 : Int) ^ (min (Int.toNat 18) 64)) = ((262144 : Nat) : Int) from rfl, show ((2 : Int) ^ (min (Int.toNat 12) 64)) = ((4096 : Nat) : Int) from rfl, show ((2 : Int) ^ (min (Int.toNat 6) 64)) = ((64 : Nat) : Int) from rfl, w_mul (by omega), w_mul (by omega), w_mul (by omega)]
  have h1 := bOr_add (k := 18) (a := bt s j % 8) (b := bt s k % 64 * 4096) (by omega) (by omega)
  rw [show bt s j % 8 * 262144 = 2 ^ 18 * (bt s j % 8) by omega, h1]
  have h2 := bOr_add (k := 12) (a := bt s j % 8 * 64 + bt s k % 64) (b := bt s l % 64 * 64) (by omega) (by omega)
  rw [show 2 ^ 18 * (bt s j % 8) + bt s k % 64 * 4096 = 2 ^ 12 * (bt s j % 8 * 64 + bt s k % 64) by omega, h2]
  have h3 := bOr_add (k := 6) (a := bt s j % 8 * 4096 + bt s k % 64 * 64 + bt s l % 64) (b := bt s m % 64) (by omega) (by omega)
  rw [show 2 ^ 12 * (bt s j % 8 * 64 + bt s k % 64) + bt s l % 64 * 64 = 2 ^ 6 * (bt s j % 8 * 4096 + bt s k % 64 * 64 + bt s l % 64) by omega, h3]
def tail2 (s : ByteArray) (i : Nat) (lo hi : Int) : Option (Int × Int × Int) := (n98 (s, (w64 ((i : Int) + 1)), lo, hi)).bind fun y6 => (bif y6 then ((sidx s (w64 ((i : Int) + 1))).bind fun c7 => (some ((bOr .i64 (w64 ((w64 (bAnd .u8 ((s.get! i).toNat : Int) 31)) * 2 ^ (min (Int.toNat 6) 64))) (w64 (bAnd .u8 (c7.toNat : Int) 63))), (i : Int), 2))) else (some ((-1), (i : Int), 1)))
def tail3 (s : ByteArray) (i : Nat) (lo hi : Int) : Option (Int × Int × Int) := (n98 (s, (w64 ((i : Int) + 1)), lo, hi)).bind fun y8 => (bif y8 then ((n98 (s, (w64 ((i : Int) + 2)), 128, 191)).bind fun y9 => (bif y9 then ((sidx s (w64 ((i : Int) + 1))).bind fun c10 => ((sidx s (w64 ((i : Int) + 2))).bind fun c11 => (some ((bOr .i64 (bOr .i64 (w64 ((w64 (bAnd .u8 ((s.get! i).toNat : Int) 15)) * 2 ^ (min (Int.toNat 12) 64))) (w64 ((w64 (bAnd .u8 (c10.toNat : Int) 63)) * 2 ^ (min (Int.toNat 6) 64)))) (w64 (bAnd .u8 (c11.toNat : Int) 63))), (i : Int), 3)))) else (some ((-1), (i : Int), 1)))) else (some ((-1), (i : Int), 1)))
def tail4 (s : ByteArray) (i : Nat) (lo hi : Int) : Option (Int × Int × Int) := (n98 (s, (w64 ((i : Int) + 1)), lo, hi)).bind fun y24 => (bif y24 then ((n98 (s, (w64 ((i : Int) + 2)), 128, 191)).bind fun y25 => (bif y25 then ((n98 (s, (w64 ((i : Int) + 3)), 128, 191)).bind fun y26 => (bif y26 then ((sidx s (w64 ((i : Int) + 1))).bind fun c27 => ((sidx s (w64 ((i : Int) + 2))).bind fun c28 => ((sidx s (w64 ((i : Int) + 3))).bind fun c29 => (some ((bOr .i64 (bOr .i64 (bOr .i64 (w64 ((w64 (bAnd .u8 ((s.get! i).toNat : Int) 7)) * 2 ^ (min (Int.toNat 18) 64))) (w64 ((w64 (bAnd .u8 (c27.toNat : Int) 63)) * 2 ^ (min (Int.toNat 12) 64)))) (w64 ((w64 (bAnd .u8 (c28.toNat : Int) 63)) * 2 ^ (min (Int.toNat 6) 64)))) (w64 (bAnd .u8 (c29.toNat : Int) 63))), (i : Int), 4))))) else (some ((-1), (i : Int), 1)))) else (some ((-1), (i : Int), 1)))) else (some ((-1), (i : Int), 1)))
def asRef (p : Nat × Nat) (i : Nat) : Int × Int × Int := (if p = (65533, 1) then -1 else (p.1 : Int), (i : Int), (p.2 : Int))
variable (hs : s.size ≤ 67108864) (hi : i < s.size)
include hs hi
theorem next1 : w64 ((i : Int) + 1) = ((i + 1 : Nat) : Int) := by rw [w64_id (by omega) (by omega)]; omega
theorem next2 : w64 ((i : Int) + 2) = ((i + 2 : Nat) : Int) := by rw [w64_id (by omega) (by omega)]; omega
theorem next3 : w64 ((i : Int) + 3) = ((i + 3 : Nat) : Int) := by rw [w64_id (by omega) (by omega)]; omega
theorem tail2_eq (lo hi' : Nat) : tail2 s i lo hi' = some (asRef (Lib.slowN (s.size - i) (bt s i) (bt s (i + 1)) (bt s (i + 2)) (bt s (i + 3)) 2 lo hi') i) := by
  unfold tail2
  rw [next1 hs hi, cont_at, Option.bind_some]
  by_cases h : 1 < s.size - i ∧ (lo : Int) ≤ (bt s (i + 1) : Int) ∧ (bt s (i + 1) : Int) ≤ (hi' : Int)
  · rw [decide_eq_true h, cond_true, sidx_at h.1, Option.bind_some, put2]
    have e : Lib.slowN (s.size - i) (bt s i) (bt s (i + 1)) (bt s (i + 2)) (bt s (i + 3)) 2 lo hi' = (bt s i % 32 * 64 + bt s (i + 1) % 64, 2) := by
      unfold Lib.slowN; rw [if_neg (by omega), if_neg (by omega), if_pos (by omega)]
    rw [e, asRef, if_neg (by simp)]
    rfl
  · rw [decide_eq_false h, cond_false]
    have e : Lib.slowN (s.size - i) (bt s i) (bt s (i + 1)) (bt s (i + 2)) (bt s (i + 3)) 2 lo hi' = (65533, 1) := by
      unfold Lib.slowN
      by_cases h1 : s.size - i < 2
      · rw [if_pos h1]
      · rw [if_neg h1, if_pos (by omega)]
    rw [e]; rfl
theorem tail3_eq (lo hi' : Nat) : tail3 s i lo hi' = some (asRef (Lib.slowN (s.size - i) (bt s i) (bt s (i + 1)) (bt s (i + 2)) (bt s (i + 3)) 3 lo hi') i) := by
  unfold tail3
  rw [next1 hs hi, next2 hs hi, cont_at, cont_at, Option.bind_some]
  by_cases h : 1 < s.size - i ∧ (lo : Int) ≤ (bt s (i + 1) : Int) ∧ (bt s (i + 1) : Int) ≤ (hi' : Int)
  · rw [decide_eq_true h, cond_true, Option.bind_some]
    by_cases h2 : 2 < s.size - i ∧ (128 : Int) ≤ (bt s (i + 2) : Int) ∧ (bt s (i + 2) : Int) ≤ 191
    · rw [decide_eq_true h2, cond_true, sidx_at h.1, Option.bind_some, sidx_at h2.1, Option.bind_some, put3]
      have e : Lib.slowN (s.size - i) (bt s i) (bt s (i + 1)) (bt s (i + 2)) (bt s (i + 3)) 3 lo hi' = (bt s i % 16 * 4096 + bt s (i + 1) % 64 * 64 + bt s (i + 2) % 64, 3) := by
        unfold Lib.slowN; rw [if_neg (by omega), if_neg (by omega), if_neg (by omega), if_neg (by omega), if_pos (by omega)]
      rw [e, asRef, if_neg (by simp)]
      rfl
    · rw [decide_eq_false h2, cond_false]
      have e : Lib.slowN (s.size - i) (bt s i) (bt s (i + 1)) (bt s (i + 2)) (bt s (i + 3)) 3 lo hi' = (65533, 1) := by
        unfold Lib.slowN
        by_cases h1 : s.size - i < 3
        · rw [if_pos h1]
        · rw [if_neg h1, if_neg (by omega), if_neg (by omega), if_pos (by omega)]
      rw [e]; rfl
  · rw [decide_eq_false h, cond_false]
    have e : Lib.slowN (s.size - i) (bt s i) (bt s (i + 1)) (bt s (i + 2)) (bt s (i + 3)) 3 lo hi' = (65533, 1) := by
      unfold Lib.slowN
      by_cases h1 : s.size - i < 3
      · rw [if_pos h1]
      · rw [if_neg h1, if_pos (by omega)]
    rw [e]; rfl
theorem tail4_eq (lo hi' : Nat) : tail4 s i lo hi' = some (asRef (Lib.slowN (s.size - i) (bt s i) (bt s (i + 1)) (bt s (i + 2)) (bt s (i + 3)) 4 lo hi') i) := by
  unfold tail4
  rw [next1 hs hi, next2 hs hi, next3 hs hi, cont_at, cont_at, cont_at, Option.bind_some]
  by_cases h : 1 < s.size - i ∧ (lo : Int) ≤ (bt s (i + 1) : Int) ∧ (bt s (i + 1) : Int) ≤ (hi' : Int)
  · rw [decide_eq_true h, cond_true, Option.bind_some]
    by_cases h2 : 2 < s.size - i ∧ (128 : Int) ≤ (bt s (i + 2) : Int) ∧ (bt s (i + 2) : Int) ≤ 191
    · rw [decide_eq_true h2, cond_true, Option.bind_some]
      by_cases h3 : 3 < s.size - i ∧ (128 : Int) ≤ (bt s (i + 3) : Int) ∧ (bt s (i + 3) : Int) ≤ 191
      · rw [decide_eq_true h3, cond_true, sidx_at h.1, Option.bind_some, sidx_at h2.1, Option.bind_some, sidx_at h3.1, Option.bind_some, put4]
        have e : Lib.slowN (s.size - i) (bt s i) (bt s (i + 1)) (bt s (i + 2)) (bt s (i + 3)) 4 lo hi' = (bt s i % 8 * 262144 + bt s (i + 1) % 64 * 4096 + bt s (i + 2) % 64 * 64 + bt s (i + 3) % 64, 4) := by
          unfold Lib.slowN; rw [if_neg (by omega), if_neg (by omega), if_neg (by omega), if_neg (by omega), if_neg (by omega), if_neg (by omega)]
        rw [e, asRef, if_neg (by simp)]
        rfl
      · rw [decide_eq_false h3, cond_false]
        have e : Lib.slowN (s.size - i) (bt s i) (bt s (i + 1)) (bt s (i + 2)) (bt s (i + 3)) 4 lo hi' = (65533, 1) := by
          unfold Lib.slowN
          by_cases h1 : s.size - i < 4
          · rw [if_pos h1]
          · rw [if_neg h1, if_neg (by omega), if_neg (by omega), if_neg (by omega), if_neg (by omega), if_pos (by omega)]
        rw [e]; rfl
    · rw [decide_eq_false h2, cond_false]
      have e : Lib.slowN (s.size - i) (bt s i) (bt s (i + 1)) (bt s (i + 2)) (bt s (i + 3)) 4 lo hi' = (65533, 1) := by
        unfold Lib.slowN
        by_cases h1 : s.size - i < 4
        · rw [if_pos h1]
        · rw [if_neg h1, if_neg (by omega), if_neg (by omega), if_pos (by omega)]
      rw [e]; rfl
  · rw [decide_eq_false h, cond_false]
    have e : Lib.slowN (s.size - i) (bt s i) (bt s (i + 1)) (bt s (i + 2)) (bt s (i + 3)) 4 lo hi' = (65533, 1) := by
      unfold Lib.slowN
      by_cases h1 : s.size - i < 4
      · rw [if_pos h1]
      · rw [if_neg h1, if_pos (by omega)]
    rw [e]; rfl
omit hs hi in
theorem n67_eq (c5 : UInt8) (hc : sidx s (i : Int) = some c5) (hg : s.get! i = c5) : n67 (s, (i : Int)) = (bif (decide ((c5.toNat : Int) < 128)) then (some ((w64 (c5.toNat : Int)), (i : Int), 1)) else (bif (bif (decide ((c5.toNat : Int) ≥ 194)) then (decide ((c5.toNat : Int) ≤ 223)) else false) then tail2 s i 128 191 else (bif (bif (decide ((c5.toNat : Int) ≥ 224)) then (decide ((c5.toNat : Int) ≤ 239)) else false) then (bif ((c5.toNat : Int) == 224) then (bif ((c5.toNat : Int) == 237) then tail3 s i 160 159 else tail3 s i 160 191) else (bif ((c5.toNat : Int) == 237) then tail3 s i 128 159 else tail3 s i 128 191)) else (bif (bif (decide ((c5.toNat : Int) ≥ 240)) then (decide ((c5.toNat : Int) ≤ 244)) else false) then (bif ((c5.toNat : Int) == 240) then (bif ((c5.toNat : Int) == 244) then tail4 s i 144 143 else tail4 s i 144 191) else (bif ((c5.toNat : Int) == 244) then tail4 s i 128 143 else tail4 s i 128 191)) else (some ((-1), (i : Int), 1)))))) := by
  subst hg
  simp only [n67, hc, Option.bind_some]
  rfl
theorem one_eq : n67 (s, (i : Int)) = some (asRef (Utf8.decode s i) i) := by
  have hg := get_bang (s := s) hi
  have hsx : sidx s (i : Int) = some (s.get! i) := by rw [sidx_nat, hg]
  rw [n67_eq _ hsx rfl, Lib.decode_at]
  have hb := bt_lt (s := s) i
  have h1 := bt_lt (s := s) (i + 1)
  have h2 := bt_lt (s := s) (i + 2)
  have h3 := bt_lt (s := s) (i + 3)
  have hn : 1 ≤ s.size - i := by omega
  have t2 := tail2_eq hs hi 128 191
  have t3a := tail3_eq hs hi 160 191
  have t3b := tail3_eq hs hi 128 159
  have t3c := tail3_eq hs hi 128 191
  have t4a := tail4_eq hs hi 144 191
  have t4b := tail4_eq hs hi 128 143
  have t4c := tail4_eq hs hi 128 191
  rw [show (((128 : Nat) : Int)) = 128 from rfl, show (((191 : Nat) : Int)) = 191 from rfl] at t2 t3c t4c
  rw [show (((160 : Nat) : Int)) = 160 from rfl, show (((191 : Nat) : Int)) = 191 from rfl] at t3a
  rw [show (((128 : Nat) : Int)) = 128 from rfl, show (((159 : Nat) : Int)) = 159 from rfl] at t3b
  rw [show (((144 : Nat) : Int)) = 144 from rfl, show (((191 : Nat) : Int)) = 191 from rfl] at t4a
  rw [show (((128 : Nat) : Int)) = 128 from rfl, show (((143 : Nat) : Int)) = 143 from rfl] at t4b
  have F : ∀ {p : Prop} [Decidable p], ¬ p → decide p = false := fun h => decide_eq_false h
  have T : ∀ {p : Prop} [Decidable p], p → decide p = true := fun h => decide_eq_true h
  have E0 : ∀ {z : Int}, ((bt s i : Nat) : Int) ≠ z → (((bt s i : Nat) : Int) == z) = false := fun h => beq_eq_false_iff_ne.2 h
  have E1 : ∀ {z : Int}, ((bt s i : Nat) : Int) = z → (((bt s i : Nat) : Int) == z) = true := fun h => beq_iff_eq.2 h
  by_cases c0 : bt s i < 128
  · rw [T (show ((bt s i : Nat) : Int) < 128 by omega), cond_true, Lib.ascii_eq _ _ _ _ _ (by unfold Lib.firstT; rw [if_pos c0])]
    have h0 : bt s i ≠ 65533 := by omega
    have hw : w64 (((s.get! i).toNat : Nat) : Int) = ((bt s i : Nat) : Int) := w64_id (n := ((bt s i : Nat) : Int)) (by omega) (by omega)
    rw [asRef, if_neg (fun h => h0 (congrArg Prod.fst h)), hw]
    rfl
  rw [F (show ¬ ((bt s i : Nat) : Int) < 128 by omega), cond_false]
  by_cases c1 : bt s i < 194
  · rw [F (show ¬ ((bt s i : Nat) : Int) ≥ 194 by omega), cond_false, cond_false, F (show ¬ ((bt s i : Nat) : Int) ≥ 224 by omega), cond_false, cond_false, F (show ¬ ((bt s i : Nat) : Int) ≥ 240 by omega), cond_false, cond_false,
      Lib.bad_eq _ _ _ _ _ hb (by unfold Lib.firstT; rw [if_neg c0, if_pos c1])]
    rfl
  rw [T (show ((bt s i : Nat) : Int) ≥ 194 by omega), cond_true]
  by_cases c2 : bt s i < 224
  · rw [T (show ((bt s i : Nat) : Int) ≤ 223 by omega), cond_true, t2, Lib.slow_C2 _ _ _ _ _ hn h1 h2 h3 ⟨by omega, c2⟩]
  rw [F (show ¬ ((bt s i : Nat) : Int) ≤ 223 by omega), cond_false, T (show ((bt s i : Nat) : Int) ≥ 224 by omega), cond_true]
  by_cases c3 : bt s i < 240
  · rw [T (show ((bt s i : Nat) : Int) ≤ 239 by omega), cond_true]
    by_cases d1 : bt s i = 224
    · rw [E1 (show ((bt s i : Nat) : Int) = 224 by omega), cond_true, E0 (show ((bt s i : Nat) : Int) ≠ 237 by omega), cond_false, t3a, Lib.slow_E0 _ _ _ _ _ hn h1 h2 h3 d1]
    · rw [E0 (show ((bt s i : Nat) : Int) ≠ 224 by omega), cond_false]
      by_cases d2 : bt s i = 237
      · rw [E1 (show ((bt s i : Nat) : Int) = 237 by omega), cond_true, t3b, Lib.slow_ED _ _ _ _ _ hn h1 h2 h3 d2]
      · rw [E0 (show ((bt s i : Nat) : Int) ≠ 237 by omega), cond_false, t3c, Lib.slow_E1 _ _ _ _ _ hn h1 h2 h3 (by omega)]
  rw [F (show ¬ ((bt s i : Nat) : Int) ≤ 239 by omega), cond_false, T (show ((bt s i : Nat) : Int) ≥ 240 by omega), cond_true]
  by_cases c4 : bt s i < 245
  · rw [T (show ((bt s i : Nat) : Int) ≤ 244 by omega), cond_true]
    by_cases d1 : bt s i = 240
    · rw [E1 (show ((bt s i : Nat) : Int) = 240 by omega), cond_true, E0 (show ((bt s i : Nat) : Int) ≠ 244 by omega), cond_false, t4a, Lib.slow_F0 _ _ _ _ _ hn h1 h2 h3 d1]
    · rw [E0 (show ((bt s i : Nat) : Int) ≠ 240 by omega), cond_false]
      by_cases d2 : bt s i = 244
      · rw [E1 (show ((bt s i : Nat) : Int) = 244 by omega), cond_true, t4b, Lib.slow_F4 _ _ _ _ _ hn h1 h2 h3 d2]
      · rw [E0 (show ((bt s i : Nat) : Int) ≠ 244 by omega), cond_false, t4c, Lib.slow_F1 _ _ _ _ _ hn h1 h2 h3 (by omega)]
  · rw [F (show ¬ ((bt s i : Nat) : Int) ≤ 244 by omega), cond_false, Lib.bad_eq _ _ _ _ _ hb (by unfold Lib.firstT; rw [if_neg c0, if_neg c1, if_neg c2, if_neg (by omega), if_neg (by omega), if_neg (by omega), if_neg c3, if_neg (by omega), if_neg (by omega), if_neg (by omega)])]
    rfl
end
end Ev
set_option linter.unusedSimpArgs false
set_option linter.unusedVariables false
namespace Ev
open Go
theorem wd_pos (s : ByteArray) (i : Nat) : 1 ≤ wd s i := Lib.width_pos s i
theorem wd_le {s : ByteArray} {i : Nat} (h : i < s.size) : i + wd s i ≤ s.size := by
  unfold wd
  rw [Lib.decode_at]
  have := Lib.decodeN_width_le (s.size - i) (s.get! i).toNat (s.get! (i + 1)).toNat (s.get! (i + 2)).toNat (s.get! (i + 3)).toNat (by omega)
  omega
abbrev Ru := Int × Nat × Nat
def runesF (s : ByteArray) : Nat → Nat → List Ru
  | 0, _ => []
  | f + 1, i => if i < s.size then (rn s i, i, wd s i) :: runesF s f (i + wd s i) else []
theorem runesF_ge (s : ByteArray) : ∀ (f i : Nat), s.size ≤ i → runesF s f i = []
  | 0, _, _ => rfl
  | f + 1, i, h => by rw [runesF, if_neg (by omega)]
theorem runesF_any (s : ByteArray) : ∀ (f g i : Nat), s.size - i ≤ f → s.size - i ≤ g → runesF s f i = runesF s g i
  | 0, g, i, hf, _ => by rw [runesF_ge s g i (by omega), runesF]
  | f + 1, 0, i, _, hg => by rw [runesF_ge s (f + 1) i (by omega), runesF]
  | f + 1, g + 1, i, hf, hg => by
    rw [runesF, runesF]
    by_cases h : i < s.size
    · have := wd_pos s i
      rw [if_pos h, if_pos h, runesF_any s f g _ (by omega) (by omega)]
    · rw [if_neg h, if_neg h]
def runesL (s : ByteArray) (i : Nat) : List Ru := runesF s (s.size - i) i
theorem runesL_nil {s : ByteArray} {i : Nat} (h : s.size ≤ i) : runesL s i = [] := runesF_ge s _ i h
theorem runesL_cons {s : ByteArray} {i : Nat} (h : i < s.size) : runesL s i = (rn s i, i, wd s i) :: runesL s (i + wd s i) := by
  unfold runesL
  obtain ⟨f, hf⟩ : ∃ f, s.size - i = f + 1 := ⟨s.size - i - 1, by omega⟩
  have := wd_pos s i
  rw [hf, runesF, if_pos h, runesF_any s f (s.size - (i + wd s i)) _ (by omega) (by omega)]
theorem runesL_length {s : ByteArray} : ∀ (d i : Nat), s.size - i ≤ d → (runesL s i).length ≤ s.size - i := by
  intro d
  induction d with
  | zero => intro i h; rw [runesL_nil (by omega)]; simp
  | succ d ih =>
    intro i h
    by_cases hi : i < s.size
    · have := wd_pos s i
      have h2 := wd_le hi
      rw [runesL_cons hi, List.length_cons]
      have := ih (i + wd s i) (by omega)
      omega
    · rw [runesL_nil (by omega)]; simp
theorem asRef_eq (s : ByteArray) (i : Nat) : asRef (Utf8.decode s i) i = (rn s i, (i : Int), (wd s i : Int)) := rfl
theorem one_at {s : ByteArray} (hs : s.size ≤ 67108864) {i : Nat} (hi : i < s.size) : n67 (s, (i : Int)) = some (rn s i, (i : Int), (wd s i : Int)) := by rw [one_eq hs hi, asRef_eq]
def encR (r : Ru) : D := .agg [.val (.int .i64 r.1), .val (.int .i64 r.2.1), .val (.int .i64 r.2.2)]
theorem hasSize_map {α : Type} (f : α → D) (z : Nat) (hf : ∀ a, (f a).cells.length = z) : ∀ l : List α, hasSize z (l.map f) = true
  | [] => rfl
  | a :: l => by show ((f a).cells.length == z) = true; rw [hf a]; exact beq_iff_eq.2 rfl
theorem addOk_map {α : Type} (f : α → D) (z w : Nat) (hf : ∀ a, (f a).cells.length = z) (acc : List α) (a : α) (h : (acc.length + 1) * w ≤ maxBytes) : addOk (acc.map f).length (acc.map f) [f a] z w :=
  ⟨rfl, hasSize_map f z hf [a], hasSize_map f z hf acc, by simpa using h⟩
theorem toks_one {α : Type} (f : α → D) (acc : List α) (a : α) (k : Nat) : ([k, (acc.map f).length + ([f a] : List D).length] : List Nat) = [k, (acc.map f ++ [f a]).length] := by simp
theorem map_snoc {α : Type} (f : α → D) (acc : List α) (a : α) : acc.map f ++ [f a] = (acc ++ [a]).map f := by simp
theorem L29_step (s : ByteArray) (v3 : List D) (i k : Nat) (n : Nat) : L29_0 (n + 1) (s, v3, (i : Int), k) () = (bif (decide ((i : Int) < (s.size : Int))) then ((n67 (s, (i : Int))).bind fun y6 => (ask (addOk v3.length v3 ([.agg [.val (.int .i64 y6.1), .val (.int .i64 y6.2.1), .val (.int .i64 y6.2.2)]] : List D) 3 24) (ask (([k, (v3.length + ([.agg [.val (.int .i64 y6.1), .val (.int .i64 y6.2.1), .val (.int .i64 y6.2.2)]] : List D).length)] : List Nat) = [k, (v3 ++ ([.agg [.val (.int .i64 y6.1), .val (.int .i64 y6.2.1), .val (.int .i64 y6.2.2)]] : List D)).length]) (L29_0 n (s, (v3 ++ ([.agg [.val (.int .i64 y6.1), .val (.int .i64 y6.2.1), .val (.int .i64 y6.2.2)]] : List D)), (w64 ((i : Int) + y6.2.2)), k) ())))) else (ask (([k, v3.length] : List Nat) = [k, v3.length]) (some (O29_0.x0 v3 k, ())))) := rfl
theorem L29 {s : ByteArray} (hs : s.size ≤ 67108864) (k : Nat) : ∀ (d n i : Nat) (acc : List Ru), s.size - i ≤ d → d < n → acc.length ≤ i → i ≤ s.size → L29_0 n (s, acc.map encR, (i : Int), k) () = some (O29_0.x0 ((acc ++ runesL s i).map encR) k, ()) := by
  intro d
  induction d with
  | zero =>
    intro n i acc hd hn ha hi
    obtain ⟨m, rfl⟩ : ∃ m, n = m + 1 := ⟨n - 1, by omega⟩
    rw [L29_step, decide_eq_false (by omega), cond_false, ask_of rfl, runesL_nil (by omega), List.append_nil]
  | succ d ih =>
    intro n i acc hd hn ha hi
    obtain ⟨m, rfl⟩ : ∃ m, n = m + 1 := ⟨n - 1, by omega⟩
    by_cases h : i < s.size
    · have w1 := wd_pos s i
      have w2 := wd_le h
      have hadd := addOk_map encR 3 24 (fun _ => rfl) acc (rn s i, i, wd s i) (by unfold maxBytes; omega)
      have e5 : w64 ((i : Int) + (wd s i : Int)) = ((i + wd s i : Nat) : Int) := by rw [w64_id (by omega) (by omega)]; omega
      rw [L29_step, decide_eq_true (by omega), cond_true, one_at hs h, Option.bind_some]
      show ask (addOk (acc.map encR).length (acc.map encR) [encR (rn s i, i, wd s i)] 3 24) (ask (([k, (acc.map encR).length + ([encR (rn s i, i, wd s i)] : List D).length] : List Nat) = [k, (acc.map encR ++ [encR (rn s i, i, wd s i)]).length]) (L29_0 m (s, acc.map encR ++ [encR (rn s i, i, wd s i)], w64 ((i : Int) + (wd s i : Int)), k) ())) = _
      rw [ask_of hadd, ask_of (toks_one encR acc (rn s i, i, wd s i) k), e5]
      show L29_0 m (s, acc.map encR ++ [encR (rn s i, i, wd s i)], ((i + wd s i : Nat) : Int), k) () = _
      rw [map_snoc, ih m (i + wd s i) (acc ++ [(rn s i, i, wd s i)]) (by omega) (by omega) (by simp; omega) w2, runesL_cons h, List.append_assoc]
      rfl
    · rw [L29_step, decide_eq_false (by omega), cond_false, ask_of rfl, runesL_nil (by omega), List.append_nil]
theorem n29_eq {s : ByteArray} (hs : s.size ≤ 67108864) : n29 s = some ((runesL s 0).map encR) := by
  show (ask (([0, 0] : List Nat) = [0, ([] : List D).length]) ((L29_0 1000000000000 (s, ([] : List D), 0, 0) ()).bind fun p9 => match p9.1 with | .x0 z10 z11 => (some z10))) = _
  rw [ask_of (show ([0, 0] : List Nat) = [0, ([] : List D).length] from rfl)]
  have := L29 hs 0 s.size 1000000000000 0 [] (by omega) (by omega) (by simp) (by omega)
  rw [show ((0 : Nat) : Int) = 0 from rfl] at this
  show (L29_0 1000000000000 (s, ([] : List Ru).map encR, 0, 0) ()).bind _ = _
  rw [this]
  rfl
end Ev
set_option linter.unusedSimpArgs false
set_option linter.unusedVariables false
namespace Ev
open Go
abbrev isDig (c : UInt8) : Prop := 48 ≤ c.toNat ∧ c.toNat ≤ 57
def dv (c : UInt8) : Nat := c.toNat - 48
theorem dv_eq (c : UInt8) : dv c = c.toNat - 48 := by unfold dv; rfl
def stD (a : Nat) (c : UInt8) : Nat := a * 10 + dv c
def valD (acc : Nat) (l : List UInt8) : Nat := l.foldl stD acc
theorem valD_nil (acc : Nat) : valD acc [] = acc := rfl
theorem valD_cons (acc : Nat) (c : UInt8) (r : List UInt8) : valD acc (c :: r) = valD (acc * 10 + (c.toNat - 48)) r := by
  rw [← dv_eq]
  show List.foldl stD acc (c :: r) = List.foldl stD (stD acc c) r
  exact List.foldl_cons ..
theorem valD_append (l r : List UInt8) (acc : Nat) : valD acc (l ++ r) = valD (valD acc l) r := List.foldl_append
theorem ofn {n : Nat} (h : n < 256) : (UInt8.ofNat n).toNat = n := by rw [UInt8.toNat_ofNat']; omega
theorem valD_ge : ∀ (l : List UInt8) (acc : Nat), acc ≤ valD acc l := by
  intro l
  induction l with
  | nil => intro acc; exact Nat.le_refl _
  | cons c r ih =>
    intro acc
    have := ih (acc * 10 + (c.toNat - 48))
    rw [valD_cons]; omega
theorem dec_digs (u : Nat) : ∀ c ∈ Lib.decDigits u, isDig c := by
  induction u using Nat.strongRecOn with
  | _ u ih =>
    intro c hc
    by_cases hu : u < 10
    · rw [Lib.decDigits_one hu] at hc
      rw [List.mem_singleton] at hc
      subst hc
      have : (UInt8.ofNat (48 + u)).toNat = 48 + u := ofn (by omega)
      omega
    · rw [Lib.decDigits, dif_neg hu] at hc
      rcases List.mem_append.1 hc with h | h
      · exact ih (u / 10) (by omega) c h
      · rw [List.mem_singleton] at h
        subst h
        have : (UInt8.ofNat (48 + u % 10)).toNat = 48 + u % 10 := ofn (by omega)
        omega
theorem dec_val (u : Nat) : valD 0 (Lib.decDigits u) = u := by
  induction u using Nat.strongRecOn with
  | _ u ih =>
    by_cases hu : u < 10
    · rw [Lib.decDigits_one hu]
      have : (UInt8.ofNat (48 + u)).toNat = 48 + u := ofn (by omega)
      rw [valD_cons, valD_nil, this]; omega
    · rw [Lib.decDigits, dif_neg hu, valD_append, ih (u / 10) (by omega)]
      have : (UInt8.ofNat (48 + u % 10)).toNat = 48 + u % 10 := ofn (by omega)
      rw [valD_cons, valD_nil, this]; omega
theorem dec_ne (u : Nat) : Lib.decDigits u ≠ [] := by
  intro h
  have := congrArg List.length h
  rw [Lib.decDigits_length] at this
  unfold Lib.nDigits at this
  split at this <;> simp at this
theorem parseM : ∀ (l : List UInt8) (acc : Nat), (∀ c ∈ l, isDig c) → valD acc l ≤ 18446744073709551615 → Lib.parseUintM (2 ^ 64 - 1) acc l = .ok (valD acc l)
  | [], acc, _, _ => rfl
  | c :: r, acc, hd, hv => by
    have h0 := hd c (by simp)
    rw [valD_cons] at hv ⊢
    have hv' := hv
    have h1 := valD_ge r (acc * 10 + (c.toNat - 48))
    rw [Lib.parseUintM, if_pos h0, if_neg (by omega), if_neg (by omega), parseM r _ (fun x hx => hd x (by simp [hx])) hv']
theorem parse_itoa {v : Int} (h0 : -9223372036854775808 ≤ v) (h1 : v ≤ 9223372036854775807) : Lib.parseIntB 64 (Lib.itoa v) = .ok v := by
  unfold Lib.itoa
  by_cases hv : v < 0
  · rw [if_pos hv]
    have hp := parseM (Lib.decDigits v.natAbs) 0 (dec_digs _) (by rw [dec_val]; omega)
    rw [dec_val] at hp
    have h45 : (45 : UInt8).toNat = 45 := rfl
    simp only [Lib.parseIntB, h45, Lib.parseUintB, if_neg (dec_ne v.natAbs), hp, or_true, if_true, not_true_eq_false, false_and, if_false, true_and]
    rw [if_neg (by omega)]
    congr 1; omega
  · rw [if_neg hv]
    have hp := parseM (Lib.decDigits v.toNat) 0 (dec_digs _) (by rw [dec_val]; omega)
    rw [dec_val] at hp
    cases hl : Lib.decDigits v.toNat with
    | nil => exact (dec_ne _ hl).elim
    | cons c r =>
      have hc : isDig c := dec_digs v.toNat c (by rw [hl]; simp)
      rw [hl] at hp
      rw [Lib.parseIntB_plain 64 c r (by omega) (by omega)]
      simp only [Lib.parseUintB, reduceCtorEq, if_false, hp, Lib.signlessC]
      rw [if_neg (by omega)]
      congr 1; omega
theorem sEq_iff (a b : ByteArray) : sEq a b = true ↔ a = b := by
  unfold sEq
  rw [beq_iff_eq]
  constructor
  · intro h
    have : a.data.toList = b.data.toList := by
      have e : ∀ x : ByteArray, x.toList = x.data.toList := fun x => by simp [ByteArray.toList_eq]
      rw [e, e] at h
      exact h
    exact ByteArray.ext (Array.toList_inj.1 this)
  · intro h; rw [h]
theorem w64_range (x : Int) : -9223372036854775808 ≤ w64 x ∧ w64 x ≤ 9223372036854775807 := by
  simp only [w64, IntKind.wrap, IntKind.signed, IntKind.bits]
  simp
  omega
abbrev i64 (v : Int) : Prop := -9223372036854775808 ≤ v ∧ v ≤ 9223372036854775807
abbrev IsNum (s : ByteArray) (v : Int) : Prop := i64 v ∧ s = ⟨(Lib.itoa v).toArray⟩
theorem toList_mk (l : List UInt8) : (⟨l.toArray⟩ : ByteArray).data.toList = l := by simp
theorem size_mk (l : List UInt8) : (⟨l.toArray⟩ : ByteArray).size = l.length := rfl
theorem drop_get {l : List UInt8} {k : Nat} {c : UInt8} {r : List UInt8} (h : l.drop k = c :: r) : l[k]? = some c ∧ l.drop (k + 1) = r := by
  have h1 : (l.drop k)[0]? = some c := by rw [h]; rfl
  have h2 : (l.drop k).drop 1 = r := by rw [h]; rfl
  rw [List.getElem?_drop] at h1
  rw [List.drop_drop] at h2
  exact ⟨h1, h2⟩
theorem get_list (s : ByteArray) (k : Nat) : s[k]? = s.data.toList[k]? := by
  rw [Array.getElem?_toList]
  by_cases h : k < s.size
  · rw [getElem?_pos s k h, Array.getElem?_eq_getElem h]; rfl
  · rw [getElem?_neg s k h, Array.getElem?_eq_none (by simpa using h)]
theorem size_list (s : ByteArray) : s.size = s.data.toList.length := by simp
theorem L43_step (s : ByteArray) (f acc : Int) (k n : Nat) : L43_0 (n + 1) (s, f, acc, (k : Int)) () = (bif (decide ((k : Int) < (s.size : Int))) then ((sidx s k).bind fun c8 => (bif (decide ((c8.toNat : Int) < 48)) then (some (O43_0.x0 0 22, ())) else ((sidx s k).bind fun c11 => (bif (decide ((c11.toNat : Int) > 57)) then (some (O43_0.x0 0 22, ())) else ((sidx s k).bind fun c12 => (L43_0 n (s, f, (wu64 ((wu64 (10 * acc)) + (wu64 (wu8 ((c12.toNat : Int) - 48))))), (w64 ((k : Int) + 1))) ())))))) else (some (O43_0.x1 s f acc, ()))) := rfl
theorem L43 (s : ByteArray) (f : Int) (hs : s.size ≤ 67108864) : ∀ (rest : List UInt8) (n k acc : Nat), s.data.toList.drop k = rest → rest.length < n → (∀ c ∈ rest, isDig c) → valD acc rest < 18446744073709551616 → L43_0 n (s, f, (acc : Int), (k : Int)) () = some (O43_0.x1 s f ((valD acc rest : Nat) : Int), ()) := by
  intro rest
  induction rest with
  | nil =>
    intro n k acc hd hn _ _
    obtain ⟨m, rfl⟩ : ∃ m, n = m + 1 := ⟨n - 1, by simp at hn; omega⟩
    have hk : s.size ≤ k := by rw [size_list]; exact List.drop_eq_nil_iff.1 hd
    rw [L43_step, decide_eq_false (by omega), cond_false, valD_nil]
  | cons c r ih =>
    intro n k acc hd hn hdig hv
    obtain ⟨m, rfl⟩ : ∃ m, n = m + 1 := ⟨n - 1, by simp at hn; omega⟩
    obtain ⟨h1, h2⟩ := drop_get hd
    have hk : k < s.size := by rw [size_list]; exact (List.getElem?_eq_some_iff.1 h1).1
    have hc := hdig c (by simp)
    have hsx : sidx s (k : Int) = some c := by rw [sidx_nat, get_list, h1]
    rw [valD_cons] at hv ⊢
    have hge := valD_ge r (acc * 10 + (c.toNat - 48))
    have e1 : wu8 ((c.toNat : Int) - 48) = ((c.toNat - 48 : Nat) : Int) := by rw [wu8_id (by omega) (by omega)]; omega
    have e2 : wu64 (10 * (acc : Int)) = ((acc * 10 : Nat) : Int) := by rw [wu64_id (by omega) (by omega)]; omega
    have e3 : wu64 (((c.toNat - 48 : Nat) : Int)) = ((c.toNat - 48 : Nat) : Int) := wu64_id (by omega) (by omega)
    have e4 : wu64 (((acc * 10 : Nat) : Int) + ((c.toNat - 48 : Nat) : Int)) = ((acc * 10 + (c.toNat - 48) : Nat) : Int) := by rw [wu64_id (by omega) (by omega)]; omega
    have e5 : w64 ((k : Int) + 1) = ((k + 1 : Nat) : Int) := by rw [w64_id (by omega) (by omega)]; omega
    rw [L43_step, decide_eq_true (by omega), cond_true, hsx, Option.bind_some, decide_eq_false (by omega), cond_false, Option.bind_some, decide_eq_false (by omega), cond_false, Option.bind_some, e1, e2, e3, e4, e5]
    exact ih m (k + 1) _ h2 (by simp at hn; omega) (fun x hx => hdig x (by simp [hx])) hv
theorem L43tot (s : ByteArray) (f : Int) (hs : s.size ≤ 67108864) : ∀ (d n k : Nat) (acc : Int), s.size - k = d → d < n → ∃ o, L43_0 n (s, f, acc, (k : Int)) () = some (o, ()) ∧ (o = O43_0.x0 0 22 ∨ ∃ z, o = O43_0.x1 s f z) := by
  intro d
  induction d with
  | zero =>
    intro n k acc hd hn
    obtain ⟨m, rfl⟩ : ∃ m, n = m + 1 := ⟨n - 1, by omega⟩
    rw [L43_step, decide_eq_false (by omega), cond_false]
    exact ⟨_, rfl, .inr ⟨_, rfl⟩⟩
  | succ d ih =>
    intro n k acc hd hn
    obtain ⟨m, rfl⟩ : ∃ m, n = m + 1 := ⟨n - 1, by omega⟩
    obtain ⟨c, hc⟩ : ∃ c, s[k]? = some c := ⟨s[k]'(by omega), getElem?_pos s k (by omega)⟩
    have hsx : sidx s (k : Int) = some c := by rw [sidx_nat, hc]
    have e5 : w64 ((k : Int) + 1) = ((k + 1 : Nat) : Int) := by rw [w64_id (by omega) (by omega)]; omega
    rw [L43_step, decide_eq_true (by omega), cond_true, hsx, Option.bind_some, Option.bind_some, Option.bind_some, e5]
    cases decide ((c.toNat : Int) < 48) with
    | true => exact ⟨_, rfl, .inl rfl⟩
    | false =>
      cases decide ((c.toNat : Int) > 57) with
      | true => exact ⟨_, rfl, .inl rfl⟩
      | false => exact ih m (k + 1) _ (by omega) (by omega)
def fin43 (f z : Int) (s : ByteArray) : Option (Int × Int) := bif (f == 1) then ((n45 (w64 (0 - (w64 z)))).bind fun y => (bif (!(sEq y s)) then (some (0, 22)) else (some ((w64 (0 - (w64 z))), 0)))) else ((n45 (w64 z)).bind fun y => (bif (!(sEq y s)) then (some (0, 22)) else (some ((w64 z), 0))))
def run43 (s : ByteArray) (f k : Int) : Option (Int × Int) := (L43_0 1000000000000 (s, f, 0, k) ()).bind fun p => match p.1 with | .x0 a b => some (a, b) | .x1 z1 z2 z3 => fin43 z2 z3 z1
theorem n43_eq (s : ByteArray) : n43 s = bif (decide ((s.size : Int) > 0)) then ((sidx s 0).bind fun c3 => (bif ((c3.toNat : Int) == 45) then (bif (bif ((s.size : Int) == 1) then true else (decide ((s.size : Int) > 20))) then (some (0, 22)) else run43 s 1 1) else (bif (bif ((s.size : Int) == 0) then true else (decide ((s.size : Int) > 19))) then (some (0, 22)) else run43 s 0 0))) else (bif (bif ((s.size : Int) == 0) then true else (decide ((s.size : Int) > 19))) then (some (0, 22)) else run43 s 0 0) := rfl
theorem fin43_or (f z : Int) (s : ByteArray) : fin43 f z s = some (0, 22) ∨ ∃ v, IsNum s v ∧ fin43 f z s = some (v, 0) := by
  have key : ∀ v, i64 v → ((n45 v).bind fun y => (bif (!(sEq y s)) then (some (0, 22) : Option (Int × Int)) else (some (v, 0)))) = some (0, 22) ∨ ∃ u, IsNum s u ∧ ((n45 v).bind fun y => (bif (!(sEq y s)) then (some (0, 22) : Option (Int × Int)) else (some (v, 0)))) = some (u, 0) := by
    intro v hv
    rw [decimal_ref hv.1 hv.2, Option.bind_some]
    cases he : sEq ⟨(Lib.itoa v).toArray⟩ s with
    | false => left; rfl
    | true => exact .inr ⟨v, ⟨hv, ((sEq_iff _ _).1 he).symm⟩, rfl⟩
  unfold fin43
  cases (f == 1) with
  | true => exact key (w64 (0 - w64 z)) (w64_range _)
  | false => exact key (w64 z) (w64_range _)
theorem run43_or (s : ByteArray) (hs : s.size ≤ 67108864) (f : Int) (k : Nat) : run43 s f k = some (0, 22) ∨ ∃ v, IsNum s v ∧ run43 s f k = some (v, 0) := by
  obtain ⟨o, h1, h2⟩ := L43tot s f hs (s.size - k) 1000000000000 k 0 rfl (by omega)
  unfold run43
  rw [h1, Option.bind_some]
  rcases h2 with rfl | ⟨z, rfl⟩
  · left; rfl
  · exact fin43_or f z s
theorem n43_or (s : ByteArray) (hs : s.size ≤ 67108864) : n43 s = some (0, 22) ∨ ∃ v, IsNum s v ∧ n43 s = some (v, 0) := by
  rw [n43_eq]
  have k0 := run43_or s hs 0 0
  have k1 := run43_or s hs 1 1
  have key : ∀ (b : Bool) (x : Option (Int × Int)), (x = some (0, 22) ∨ ∃ v, IsNum s v ∧ x = some (v, 0)) → ((bif b then some (0, 22) else x) = some (0, 22) ∨ ∃ v, IsNum s v ∧ (bif b then some (0, 22) else x) = some (v, 0)) := by
    intro b x h
    cases b with
    | true => left; rfl
    | false => exact h
  cases hd : decide ((s.size : Int) > 0) with
  | false => exact key _ _ k0
  | true =>
    have hp : 0 < s.size := by have := of_decide_eq_true hd; omega
    obtain ⟨c, hc⟩ : ∃ c, s[0]? = some c := ⟨s[0], getElem?_pos s 0 hp⟩
    have hsx : sidx s 0 = some c := by have := sidx_nat s 0; rw [hc] at this; exact this
    rw [cond_true, hsx, Option.bind_some]
    cases ((c.toNat : Int) == 45) with
    | true => exact key _ _ k1
    | false => exact key _ _ k0
theorem dec_len {u : Nat} (h : u ≤ 9223372036854775808) : (Lib.decDigits u).length ≤ 19 := by
  rw [Lib.decDigits_length]; exact nDigits_le 19 u (by omega) (by omega)
theorem n43_num {v : Int} (hv : i64 v) : n43 ⟨(Lib.itoa v).toArray⟩ = some (v, 0) := by
  rw [n43_eq]
  have h45 := decimal_ref hv.1 hv.2
  by_cases hn : v < 0
  · have hi : Lib.itoa v = 45 :: Lib.decDigits v.natAbs := by unfold Lib.itoa; rw [if_pos hn]
    have hlen := dec_len (u := v.natAbs) (by omega)
    have hpos : 0 < (Lib.decDigits v.natAbs).length := List.length_pos_iff.2 (dec_ne _)
    have hsz : (⟨(Lib.itoa v).toArray⟩ : ByteArray).size = (Lib.decDigits v.natAbs).length + 1 := by rw [size_mk, hi]; rfl
    have hsx : sidx ⟨(Lib.itoa v).toArray⟩ 0 = some 45 := by
      have := sidx_nat ⟨(Lib.itoa v).toArray⟩ 0
      rw [get_list, toList_mk] at this
      exact this.trans (by rw [hi]; rfl)
    have hr : run43 ⟨(Lib.itoa v).toArray⟩ 1 1 = some (v, 0) := by
      unfold run43
      have := L43 ⟨(Lib.itoa v).toArray⟩ 1 (by rw [hsz]; omega) (Lib.decDigits v.natAbs) 1000000000000 1 0 (by rw [toList_mk, hi]; rfl) (by omega) (dec_digs _) (by rw [dec_val]; omega)
      rw [dec_val] at this
      rw [show ((0 : Nat) : Int) = 0 from rfl, show ((1 : Nat) : Int) = 1 from rfl] at this
      rw [this, Option.bind_some]
      have e : w64 (0 - w64 ((v.natAbs : Nat) : Int)) = v := by
        by_cases hm : v.natAbs = 9223372036854775808
        · have : v = -9223372036854775808 := by omega
          subst this; decide +kernel
        · rw [w64_id (n := ((v.natAbs : Nat) : Int)) (by omega) (by omega), w64_id (by omega) (by omega)]; omega
      show fin43 1 _ _ = _
      unfold fin43
      rw [show ((1 : Int) == 1) = true from rfl, cond_true, e, h45, Option.bind_some, (sEq_iff _ _).2 rfl]
      rfl
    rw [hsz, decide_eq_true (by omega), cond_true, hsx, Option.bind_some, show (((45 : UInt8).toNat : Int) == 45) = true from rfl, cond_true]
    have b1 : (((((Lib.decDigits v.natAbs).length + 1 : Nat) : Int)) == 1) = false := by rw [beq_eq_false_iff_ne]; omega
    rw [b1, cond_false, decide_eq_false (by omega), cond_false, hr]
  · have hi : Lib.itoa v = Lib.decDigits v.toNat := by unfold Lib.itoa; rw [if_neg hn]
    have hlen := dec_len (u := v.toNat) (by omega)
    have hpos : 0 < (Lib.decDigits v.toNat).length := List.length_pos_iff.2 (dec_ne _)
    have hsz : (⟨(Lib.itoa v).toArray⟩ : ByteArray).size = (Lib.decDigits v.toNat).length := by rw [size_mk, hi]
    have hr : run43 ⟨(Lib.itoa v).toArray⟩ 0 0 = some (v, 0) := by
      unfold run43
      have := L43 ⟨(Lib.itoa v).toArray⟩ 0 (by rw [hsz]; omega) (Lib.decDigits v.toNat) 1000000000000 0 0 (by rw [toList_mk, hi]; rfl) (by omega) (dec_digs _) (by rw [dec_val]; omega)
      rw [dec_val] at this
      rw [show ((0 : Nat) : Int) = 0 from rfl] at this
      rw [this, Option.bind_some]
      have e : w64 ((v.toNat : Nat) : Int) = v := by rw [w64_id (by omega) (by omega)]; omega
      show fin43 0 _ _ = _
      unfold fin43
      rw [show ((0 : Int) == 1) = false from rfl, cond_false, e, h45, Option.bind_some, (sEq_iff _ _).2 rfl]
      rfl
    obtain ⟨c, r, hl⟩ : ∃ c r, Lib.decDigits v.toNat = c :: r := by
      cases h : Lib.decDigits v.toNat with
      | nil => exact (dec_ne _ h).elim
      | cons c r => exact ⟨c, r, rfl⟩
    have hsx : sidx ⟨(Lib.itoa v).toArray⟩ 0 = some c := by
      have := sidx_nat ⟨(Lib.itoa v).toArray⟩ 0
      rw [get_list, toList_mk] at this
      exact this.trans (by rw [hi, hl]; rfl)
    have hc := dec_digs v.toNat c (by rw [hl]; simp)
    have b0 : ((c.toNat : Int) == 45) = false := by rw [beq_eq_false_iff_ne]; omega
    have b1 : ((((Lib.decDigits v.toNat).length : Nat) : Int) == 0) = false := by rw [beq_eq_false_iff_ne]; omega
    rw [hsz, decide_eq_true (by omega), cond_true, hsx, Option.bind_some, b0, cond_false, b1, cond_false, decide_eq_false (by omega), cond_false, hr]
theorem n42_num {v : Int} (hv : i64 v) : n42 ⟨(Lib.itoa v).toArray⟩ = some (v, 0) := by
  have hsz : (⟨(Lib.itoa v).toArray⟩ : ByteArray).size ≤ 281474976710656 := by
    rw [size_mk]
    unfold Lib.itoa
    split
    · have := dec_len (u := v.natAbs) (by omega)
      simp; omega
    · have := dec_len (u := v.toNat) (by omega)
      omega
  show ((ask ((10 : Int) = 10 ∧ (64 : Int) = 64 ∧ parOk ⟨(Lib.itoa v).toArray⟩) (some (parse64 ⟨(Lib.itoa v).toArray⟩))).bind fun y3 => (bif y3.2 then (some (0, 22)) else ((n44 y3.1).bind fun y4 => (bif (!(sEq y4 ⟨(Lib.itoa v).toArray⟩)) then (some (0, 22)) else (some (y3.1, 0)))))) = _
  rw [ask_of ⟨rfl, rfl, Nat.ble_eq_true_of_le hsz⟩, Option.bind_some]
  have e : parse64 ⟨(Lib.itoa v).toArray⟩ = (v, false) := by
    unfold parse64
    rw [toList_mk, parse_itoa hv.1 hv.2]
  rw [e]
  show (n44 v).bind _ = _
  rw [decimal_prog hv.1 hv.2, Option.bind_some, (sEq_iff _ _).2 rfl]
  rfl
theorem n42_or (s : ByteArray) (hs : s.size ≤ 67108864) : n42 s = some (0, 22) ∨ ∃ v, IsNum s v ∧ n42 s = some (v, 0) := by
  show ((ask ((10 : Int) = 10 ∧ (64 : Int) = 64 ∧ parOk s) (some (parse64 s))).bind fun y3 => (bif y3.2 then (some (0, 22)) else ((n44 y3.1).bind fun y4 => (bif (!(sEq y4 s)) then (some (0, 22)) else (some (y3.1, 0)))))) = _ ∨ _
  have h42 : n42 s = ((ask ((10 : Int) = 10 ∧ (64 : Int) = 64 ∧ parOk s) (some (parse64 s))).bind fun y3 => (bif y3.2 then (some (0, 22)) else ((n44 y3.1).bind fun y4 => (bif (!(sEq y4 s)) then (some (0, 22)) else (some (y3.1, 0)))))) := rfl
  rw [h42, ask_of ⟨rfl, rfl, Nat.ble_eq_true_of_le (by omega)⟩, Option.bind_some]
  unfold parse64
  rcases hp : Lib.parseIntB 64 s.data.toList with v | _ | _
  ·
    have hb := Lib.parseIntB_bounds hp
    have hv : i64 v := ⟨by have := hb.1; simpa using this, by have := hb.2; simp at this; omega⟩
    show (n44 v).bind _ = _ ∨ ∃ u, _ ∧ (n44 v).bind _ = _
    rw [decimal_prog hv.1 hv.2, Option.bind_some]
    cases he : sEq ⟨(Lib.itoa v).toArray⟩ s with
    | false => left; rfl
    | true => exact .inr ⟨v, ⟨hv, ((sEq_iff _ _).1 he).symm⟩, rfl⟩
  · left; rfl
  · left; rfl
theorem number_eq (s : ByteArray) (hs : s.size ≤ 67108864) : ∃ v e, n42 s = some (v, e) ∧ n43 s = some (v, e) := by
  rcases n42_or s hs with h | ⟨v, ⟨hv, rfl⟩, _⟩
  · rcases n43_or s hs with k | ⟨v, ⟨hv, rfl⟩, _⟩
    · exact ⟨0, 22, h, k⟩
    · exact ⟨v, 0, n42_num hv, n43_num hv⟩
  · exact ⟨v, 0, n42_num hv, n43_num hv⟩
theorem wf_i64 {a : Int} (w : (Lit.int .i64 a).wf = true) : i64 a := by
  simp [Lit.wf, IntKind.min, IntKind.max, IntKind.signed, IntKind.bits] at w
  omega
end Ev
set_option linter.unusedSimpArgs false
set_option linter.unusedVariables false
namespace Ev
open Go
def letB (a0 : Int) : Bool := bif (bif (decide (a0 ≥ 97)) then (decide (a0 ≤ 122)) else false) then true else (bif (bif (decide (a0 ≥ 65)) then (decide (a0 ≤ 90)) else false) then true else (bif (a0 == 95) then true else (bif (bif (decide (a0 ≥ 192)) then (decide (a0 ≤ 591)) else false) then (bif (a0 != 215) then (a0 != 247) else false) else (bif (bif (decide (a0 ≥ 913)) then (decide (a0 ≤ 969)) else false) then (a0 != 930) else false))))
theorem n38_eq (r : Int) : n38 r = some (letB r) := by
  simp only [n38, letB, cond_some]
theorem n37_eq (r : Int) : n37 r = some (letB r) := by rw [letter_eq, n38_eq]
def restB (r : Int) : Bool := bif letB r then true else (bif (decide (r ≥ 48)) then (bif (decide (r ≤ 57)) then true else (r == 39)) else (r == 39))
theorem n72_eq (r : Int) : n72 r = some (restB r) := by
  show (n38 r).bind _ = _
  rw [n38_eq, Option.bind_some]
  simp only [restB, cond_some]
theorem letB_neg : letB (-1) = false := by decide +kernel
theorem letB_bad : letB 65533 = false := by decide +kernel
theorem restB_neg : restB (-1) = false := by decide +kernel
theorem restB_bad : restB 65533 = false := by decide +kernel
theorem raw_let (s : ByteArray) (i : Nat) : letB ((Utf8.decode s i).1 : Int) = letB (rn s i) := by
  unfold rn
  split
  · rename_i h
    rw [h, letB_neg]; exact letB_bad
  · rfl
theorem raw_rest (s : ByteArray) (i : Nat) : restB ((Utf8.decode s i).1 : Int) = restB (rn s i) := by
  unfold rn
  split
  · rename_i h
    rw [h, restB_neg]; exact restB_bad
  · rfl
def okFrom : Bool → List Ru → Bool
  | _, [] => true
  | true, r :: l => letB r.1 && okFrom false l
  | false, r :: l => restB r.1 && okFrom false l
theorem L40_step (s : ByteArray) (v : Int) (i n : Nat) : L40_0 (n + 1) (v, s, i) () = (bif decide (i < s.size) then ((n37 ((Utf8.decode s i).1 : Int)).bind fun y5 => (bif (!y5) then (bif ((w64 (v + 1)) == 1) then (some (O40_0.x0 21 s (i + (Utf8.decode s i).2), ())) else (bif (((Utf8.decode s i).1 : Int) != 39) then (bif (decide (((Utf8.decode s i).1 : Int) < 48)) then (some (O40_0.x0 21 s (i + (Utf8.decode s i).2), ())) else (bif (decide (((Utf8.decode s i).1 : Int) > 57)) then (some (O40_0.x0 21 s (i + (Utf8.decode s i).2), ())) else (L40_0 n ((w64 (v + 1)), s, (i + (Utf8.decode s i).2)) ()))) else (L40_0 n ((w64 (v + 1)), s, (i + (Utf8.decode s i).2)) ()))) else (L40_0 n ((w64 (v + 1)), s, (i + (Utf8.decode s i).2)) ()))) else (some (O40_0.x1 v s i, ()))) := rfl
theorem L40 {s : ByteArray} (hs : s.size ≤ 67108864) : ∀ (d n i c : Nat), s.size - i ≤ d → d < n → c ≤ i → i ≤ s.size →
    ∃ j, L40_0 n ((c : Int), s, i) () = some (if okFrom (decide (c = 0)) (runesL s i) = true then O40_0.x1 ((c + (runesL s i).length : Nat) : Int) s j else O40_0.x0 21 s j, ()) := by
  intro d
  induction d with
  | zero =>
    intro n i c hd hn hc hi
    obtain ⟨m, rfl⟩ : ∃ m, n = m + 1 := ⟨n - 1, by omega⟩
    rw [L40_step, decide_eq_false (by omega), cond_false, runesL_nil (by omega)]
    exact ⟨i, by rw [if_pos (by simp [okFrom])]; rfl⟩
  | succ d ih =>
    intro n i c hd hn hc hi
    obtain ⟨m, rfl⟩ : ∃ m, n = m + 1 := ⟨n - 1, by omega⟩
    by_cases h : i < s.size
    · have w1 := wd_pos s i
      have w2 := wd_le h
      have e5 : w64 ((c : Int) + 1) = ((c + 1 : Nat) : Int) := by rw [w64_id (by omega) (by omega)]; omega
      obtain ⟨j, hj⟩ := ih m (i + wd s i) (c + 1) (by omega) (by omega) (by omega) w2
      have hj' : L40_0 m (((c + 1 : Nat) : Int), s, i + (Utf8.decode s i).2) () = _ := hj
      rw [show decide (c + 1 = 0) = false by simp] at hj'
      rw [L40_step, decide_eq_true h, cond_true, e5, n37_eq, Option.bind_some, raw_let, runesL_cons h]
      have hlen : c + (runesL s (i + wd s i)).length + 1 = c + 1 + (runesL s (i + wd s i)).length := by omega
      cases hl : letB (rn s i) with
      | true =>
        refine ⟨j, ?_⟩
        have hr : restB (rn s i) = true := by simp [restB, hl]
        have ho : okFrom (decide (c = 0)) ((rn s i, i, wd s i) :: runesL s (i + wd s i)) = okFrom false (runesL s (i + wd s i)) := by
          cases decide (c = 0) with
          | true => simp [okFrom, hl]
          | false => simp [okFrom, hr]
        rw [ho, List.length_cons]
        show L40_0 m (((c + 1 : Nat) : Int), s, i + (Utf8.decode s i).2) () = _
        rw [hj', show c + ((runesL s (i + wd s i)).length + 1) = c + 1 + (runesL s (i + wd s i)).length by omega]
      | false =>
        by_cases hc0 : c = 0
        · subst hc0
          refine ⟨i + (Utf8.decode s i).2, ?_⟩
          have ho : okFrom (decide ((0 : Nat) = 0)) ((rn s i, i, wd s i) :: runesL s (i + wd s i)) = false := by simp [okFrom, hl]
          rw [ho, if_neg (by simp)]
          rfl
        · have b1 : ((((c + 1 : Nat)) : Int) == 1) = false := by rw [beq_eq_false_iff_ne]; omega
          have hrr := raw_rest s i
          have hlr := raw_let s i
          rw [hl] at hlr
          have ho : okFrom (decide (c = 0)) ((rn s i, i, wd s i) :: runesL s (i + wd s i)) = (restB (rn s i) && okFrom false (runesL s (i + wd s i))) := by
            rw [decide_eq_false hc0]; rfl
          rw [ho, ← hrr, List.length_cons]
          simp only [restB, hlr, cond_false, Bool.not_false, cond_true, b1]
          generalize hR : ((Utf8.decode s i).1 : Int) = R
          have done : (some (O40_0.x0 21 s (i + (Utf8.decode s i).2), ()) : Option (O40_0 × Unit)) = some (if (false && okFrom false (runesL s (i + wd s i))) = true then O40_0.x1 ((c + ((runesL s (i + wd s i)).length + 1) : Nat) : Int) s (i + (Utf8.decode s i).2) else O40_0.x0 21 s (i + (Utf8.decode s i).2), ()) := by
            rw [Bool.false_and, if_neg (by simp)]
          have next : L40_0 m (((c + 1 : Nat) : Int), s, i + (Utf8.decode s i).2) () = some (if (true && okFrom false (runesL s (i + wd s i))) = true then O40_0.x1 ((c + ((runesL s (i + wd s i)).length + 1) : Nat) : Int) s j else O40_0.x0 21 s j, ()) := by
            rw [Bool.true_and, hj', show c + ((runesL s (i + wd s i)).length + 1) = c + 1 + (runesL s (i + wd s i)).length by omega]
          by_cases h39 : R = 39
          · have a1 : (R != 39) = false := by rw [h39]; rfl
            have a2 : (R == 39) = true := by rw [h39]; rfl
            have a3 : decide (R ≥ 48) = false := by rw [h39]; rfl
            refine ⟨j, ?_⟩
            rw [a1, a2, a3, cond_false, cond_false]
            exact next
          · have a1 : (R != 39) = true := by rw [bne_iff_ne]; exact h39
            have a2 : (R == 39) = false := by rw [beq_eq_false_iff_ne]; exact h39
            rw [a1, a2, cond_true]
            by_cases h48 : R < 48
            · refine ⟨i + (Utf8.decode s i).2, ?_⟩
              rw [decide_eq_true h48, cond_true, decide_eq_false (by omega : ¬ R ≥ 48), cond_false]
              exact done
            · by_cases h57 : R > 57
              · refine ⟨i + (Utf8.decode s i).2, ?_⟩
                rw [decide_eq_false h48, cond_false, decide_eq_true h57, cond_true, decide_eq_true (by omega : R ≥ 48), cond_true, decide_eq_false (by omega : ¬ R ≤ 57), cond_false]
                exact done
              · refine ⟨j, ?_⟩
                rw [decide_eq_false h48, cond_false, decide_eq_false h57, cond_false, decide_eq_true (by omega : R ≥ 48), cond_true, decide_eq_true (by omega : R ≤ 57), cond_true]
                exact next
    · rw [L40_step, decide_eq_false h, cond_false, runesL_nil (by omega)]
      exact ⟨i, by rw [if_pos (by simp [okFrom])]; rfl⟩
def isName (s : ByteArray) : Bool := decide (1 ≤ (runesL s 0).length ∧ (runesL s 0).length ≤ 32) && okFrom true (runesL s 0)
theorem n40_eq {s : ByteArray} (hs : s.size ≤ 67108864) : n40 s = some (bif isName s then 0 else 21) := by
  obtain ⟨j, hj⟩ := L40 hs s.size 1000000000000 0 0 (by omega) (by omega) (by omega) (by omega)
  show (((L40_0 1000000000000 (0, s, 0) ()).bind fun p12 => match p12.1 with | .x0 z13 z14 z15 => (some z13) | .x1 z16 z17 z18 => (bif (bif (z16 == 0) then true else (decide (z16 > 32))) then (some 21) else (some 0))) : Option Int) = _
  rw [show (0 : Int) = ((0 : Nat) : Int) from rfl, hj, Option.bind_some, show decide ((0 : Nat) = 0) = true from rfl, Nat.zero_add]
  unfold isName
  cases okFrom true (runesL s 0) with
  | false => rw [Bool.and_false, if_neg (by simp)]; rfl
  | true =>
    rw [Bool.and_true, if_pos rfl]
    simp only
    by_cases h0 : (runesL s 0).length = 0
    · rw [h0]; rfl
    · have b0 : ((((runesL s 0).length : Nat) : Int) == ((0 : Nat) : Int)) = false := by rw [beq_eq_false_iff_ne]; omega
      rw [b0, cond_false]
      by_cases h32 : (runesL s 0).length ≤ 32
      · rw [decide_eq_false (by omega), cond_false, decide_eq_true (by omega)]; rfl
      · rw [decide_eq_true (by omega), cond_true, decide_eq_false (by omega)]; rfl
theorem lidx_map {α : Type} (f : α → D) (l : List α) (k : Nat) : lidx (l.map f) (k : Int) = (l[k]?).map f := by
  unfold lidx
  rw [if_pos (by omega), Int.toNat_natCast, List.getElem?_map]
theorem L41_step (v : List D) (k n : Nat) : L41_0 (n + 1) (v, (k : Int)) () = (bif (decide ((k : Int) < ((v.length : Nat) : Int))) then ((lidx v (k : Int)).bind fun d9 => ask (d9.cells.length = 3) ((cellAt 0 d9).bind fun x10 => (asInt .i64 x10).bind fun x11 => ((n72 x11).bind fun y12 => (bif (!y12) then (some (O41_0.x0 false, ())) else (L41_0 n (v, (w64 ((k : Int) + 1))) ()))))) else (some (O41_0.x1 , ()))) := rfl
theorem L41 {l : List Ru} (hl : l.length ≤ 67108864) : ∀ (d n k : Nat), l.length - k ≤ d → d < n → k ≤ l.length → L41_0 n (l.map encR, (k : Int)) () = some (if okFrom false (l.drop k) = true then O41_0.x1 else O41_0.x0 false, ()) := by
  intro d
  induction d with
  | zero =>
    intro n k hd hn hk
    obtain ⟨m, rfl⟩ : ∃ m, n = m + 1 := ⟨n - 1, by omega⟩
    rw [L41_step, List.length_map, decide_eq_false (by omega), cond_false, List.drop_eq_nil_of_le (by omega)]
    rfl
  | succ d ih =>
    intro n k hd hn hk
    obtain ⟨m, rfl⟩ : ∃ m, n = m + 1 := ⟨n - 1, by omega⟩
    by_cases h : k < l.length
    · have e5 : w64 ((k : Int) + 1) = ((k + 1 : Nat) : Int) := by rw [w64_id (by omega) (by omega)]; omega
      rw [L41_step, List.length_map, decide_eq_true (by omega), cond_true, lidx_map, List.getElem?_eq_getElem h, Option.map_some, Option.bind_some, ask_of (show (encR l[k]).cells.length = 3 from rfl)]
      show (n72 (l[k]).1).bind _ = _
      rw [n72_eq, Option.bind_some, e5, List.drop_eq_getElem_cons h]
      cases hr : restB (l[k]).1 with
      | false =>
        rw [if_neg (by simp [okFrom, hr])]; rfl
      | true =>
        rw [Bool.not_true, cond_false, ih m (k + 1) (by omega) (by omega) (by omega)]
        simp [okFrom, hr]
    · rw [L41_step, List.length_map, decide_eq_false (by omega), cond_false, List.drop_eq_nil_of_le (by omega)]
      rfl
theorem n41_eq {s : ByteArray} (hs : s.size ≤ 67108864) : n41 s = some (isName s) := by
  have hle := runesL_length (s := s) s.size 0 (by omega)
  show ((n29 s).bind fun y2 => (bif (bif (decide (((y2.length : Nat) : Int) < 1)) then true else (decide (((y2.length : Nat) : Int) > 32))) then (some false) else ((lidx y2 0).bind fun d3 => ask (d3.cells.length = 3) ((cellAt 0 d3).bind fun x4 => (asInt .i64 x4).bind fun x5 => ((n38 x5).bind fun y6 => (bif (!y6) then (some false) else ((L41_0 1000000000000 (y2, 1) ()).bind fun p14 => match p14.1 with | .x0 z15 => (some z15) | .x1  => (some true)))))))) = _
  rw [n29_eq hs, Option.bind_some, List.length_map]
  unfold isName
  by_cases h0 : (runesL s 0).length < 1
  · rw [decide_eq_true (by omega), cond_true, cond_true, decide_eq_false (by omega), Bool.false_and]
  · rw [decide_eq_false (by omega), cond_false]
    by_cases h32 : (runesL s 0).length > 32
    · rw [decide_eq_true (by omega), cond_true, decide_eq_false (by omega), Bool.false_and]
    · have hl := L41 (l := runesL s 0) (by omega) (runesL s 0).length 1000000000000 1 (by omega) (by omega) (by omega)
      rw [decide_eq_false (by omega), cond_false, decide_eq_true (by omega), Bool.true_and, show (0 : Int) = ((0 : Nat) : Int) from rfl, lidx_map, List.getElem?_eq_getElem (by omega), Option.map_some, Option.bind_some, ask_of (show (encR (runesL s 0)[0]).cells.length = 3 from rfl)]
      show (n38 ((runesL s 0)[0]).1).bind _ = _
      rw [n38_eq, Option.bind_some]
      have hc : okFrom true (runesL s 0) = (letB ((runesL s 0)[0]).1 && okFrom false ((runesL s 0).drop 1)) := by
        have : runesL s 0 = (runesL s 0)[0] :: (runesL s 0).drop 1 := by
          conv => lhs; rw [← List.drop_zero (l := runesL s 0), List.drop_eq_getElem_cons (by omega)]
        conv => lhs; rw [this]
        rfl
      rw [hc]
      cases letB ((runesL s 0)[0]).1 with
      | false => rfl
      | true =>
        rw [Bool.not_true, cond_false, Bool.true_and, show (1 : Int) = ((1 : Nat) : Int) from rfl, hl, Option.bind_some]
        cases okFrom false ((runesL s 0).drop 1) <;> rfl
end Ev
set_option linter.unusedSimpArgs false
set_option linter.unusedVariables false
namespace Ev
open Go
abbrev Sp := Int × Nat × Nat × Nat
def spotsOf : Nat → Nat → List Ru → List Sp
  | _, _, [] => []
  | l, c, r :: t => (r.1, r.2.1, l, c) :: (if r.1 = 10 then spotsOf (l + 1) 1 t else spotsOf l (c + 1) t)
def encS (p : Sp) : D := .agg [.val (.int .i64 p.2.1), .val (.int .i64 p.2.2.1), .val (.int .i64 p.2.2.2)]
def encC (p : Sp) : D := .val (.int .i32 p.1)
def runY {σ : Type} (Y : Yd σ) : List Sp → σ → Option (Bool × σ)
  | [], st => some (true, st)
  | p :: t, st => (Y [encS p, encC p] st).bind fun q => bif q.1 then runY Y t q.2 else some (false, q.2)
theorem n84_eq {s : ByteArray} (hs : s.size ≤ 67108864) {i : Nat} (hi : i < s.size) : n84 (s, (i : Int)) = some (decide (wd s i = 1)) := by
  show (ask (cutOk (i : Int) (s.size : Int) s.size) ((n107 (s.extract (Int.toNat (i : Int)) (Int.toNat (s.size : Int)))).bind fun y3 => (some (y3.2 == 1)))) = _
  rw [ask_of ⟨by omega, by omega, by omega⟩, Int.toNat_natCast, Int.toNat_natCast]
  have e : Lib.decodeGo (s.extract i s.size) = Utf8.decode s i := by
    unfold Lib.decodeGo
    have hsz : (s.extract i s.size).size = s.size - i := by simp
    rw [if_neg (by rw [hsz]; omega)]
    exact Lib.tail_decode s i 0
  show (some ((((Lib.decodeGo (s.extract i s.size)).2 : Nat) : Int) == 1) : Option Bool) = _
  rw [e]
  congr 1
  unfold wd
  rw [Bool.eq_iff_iff, beq_iff_eq, decide_eq_true_iff]
  omega
def ofO83 : O83_0 → ByteArray
  | .x0 z _ _ _ _ _ => z
  | .x1 z _ _ _ _ _ => z
theorem L83_step {σ : Type} (Y : Yd σ) (s : ByteArray) (v2 v3 v4 : Int) (i n : Nat) (st : σ) : L83_0 Y (n + 1) (s, v2, v3, v4, s, i) st = (bif decide (i < s.size) then (bif (((Utf8.decode s i).1 : Int) == 65533) then ((n84 (s, (i : Int))).bind fun y7 => (bif y7 then ((Y [.agg [.val (.int .i64 (i : Int)), .val (.int .i64 v3), .val (.int .i64 v4)], .val (.int .i32 (-1))] st).bind fun q8 => (bif (!q8.1) then (some (O83_0.x0 s (i : Int) v3 v4 s (i + (Utf8.decode s i).2), q8.2)) else (L83_0 Y n (s, (i : Int), v3, (w64 (v4 + 1)), s, (i + (Utf8.decode s i).2)) q8.2))) else ((Y [.agg [.val (.int .i64 (i : Int)), .val (.int .i64 v3), .val (.int .i64 v4)], .val (.int .i32 ((Utf8.decode s i).1 : Int))] st).bind fun q15 => (bif (!q15.1) then (some (O83_0.x0 s (i : Int) v3 v4 s (i + (Utf8.decode s i).2), q15.2)) else (bif (((Utf8.decode s i).1 : Int) == 10) then (L83_0 Y n (s, (i : Int), (w64 (v3 + 1)), 1, s, (i + (Utf8.decode s i).2)) q15.2) else (L83_0 Y n (s, (i : Int), v3, (w64 (v4 + 1)), s, (i + (Utf8.decode s i).2)) q15.2)))))) else ((Y [.agg [.val (.int .i64 (i : Int)), .val (.int .i64 v3), .val (.int .i64 v4)], .val (.int .i32 ((Utf8.decode s i).1 : Int))] st).bind fun q16 => (bif (!q16.1) then (some (O83_0.x0 s (i : Int) v3 v4 s (i + (Utf8.decode s i).2), q16.2)) else (bif (((Utf8.decode s i).1 : Int) == 10) then (L83_0 Y n (s, (i : Int), (w64 (v3 + 1)), 1, s, (i + (Utf8.decode s i).2)) q16.2) else (L83_0 Y n (s, (i : Int), v3, (w64 (v4 + 1)), s, (i + (Utf8.decode s i).2)) q16.2))))) else (some (O83_0.x1 s v2 v3 v4 s i, st))) := rfl
theorem L83_round {σ : Type} (Y : Yd σ) {s : ByteArray} (hs : s.size ≤ 67108864) (v2 : Int) (l c : Nat) (hl : l ≤ 67108865) (hc : c ≤ 67108865) {i : Nat} (hi : i < s.size) (n : Nat) (st : σ) :
    ∃ o, ofO83 o = s ∧ L83_0 Y (n + 1) (s, v2, (l : Int), (c : Int), s, i) st = (Y [encS (rn s i, i, l, c), encC (rn s i, i, l, c)] st).bind fun q => (bif (!q.1) then (some (o, q.2)) else (bif (rn s i == 10) then (L83_0 Y n (s, (i : Int), ((l + 1 : Nat) : Int), ((1 : Nat) : Int), s, i + wd s i) q.2) else (L83_0 Y n (s, (i : Int), (l : Int), ((c + 1 : Nat) : Int), s, i + wd s i) q.2))) := by
  have e1 : w64 ((l : Int) + 1) = ((l + 1 : Nat) : Int) := by rw [w64_id (by omega) (by omega)]; omega
  have e2 : w64 ((c : Int) + 1) = ((c + 1 : Nat) : Int) := by rw [w64_id (by omega) (by omega)]; omega
  refine ⟨O83_0.x0 s (i : Int) l c s (i + (Utf8.decode s i).2), rfl, ?_⟩
  rw [L83_step, decide_eq_true hi, cond_true, e1, e2, n84_eq hs hi, Option.bind_some]
  by_cases hr : (Utf8.decode s i).1 = 65533
  · have b1 : (((Utf8.decode s i).1 : Int) == 65533) = true := by rw [hr]; rfl
    rw [b1, cond_true]
    by_cases hw : wd s i = 1
    · have hrn : rn s i = -1 := by
        unfold rn
        rw [if_pos (Prod.ext hr hw)]
      rw [decide_eq_true hw, cond_true, hrn]
      rfl
    · have hrn : rn s i = ((Utf8.decode s i).1 : Int) := by
        unfold rn
        rw [if_neg (fun h => hw (congrArg Prod.snd h))]
      rw [decide_eq_false hw, cond_false, hrn]
      rfl
  · have b1 : (((Utf8.decode s i).1 : Int) == 65533) = false := by rw [beq_eq_false_iff_ne]; omega
    have hrn : rn s i = ((Utf8.decode s i).1 : Int) := by
      unfold rn
      rw [if_neg (fun h => hr (congrArg Prod.fst h))]
    rw [b1, cond_false, hrn]
    rfl
theorem L83 {σ : Type} (Y : Yd σ) {s : ByteArray} (hs : s.size ≤ 67108864) : ∀ (d n i l c : Nat) (v2 : Int) (st : σ), s.size - i ≤ d → d < n → i ≤ s.size → l ≤ i + 1 → c ≤ i + 1 →
    (L83_0 Y n (s, v2, (l : Int), (c : Int), s, i) st).map (fun p => (ofO83 p.1, p.2)) = (runY Y (spotsOf l c (runesL s i)) st).map (fun q => (s, q.2)) := by
  intro d
  induction d with
  | zero =>
    intro n i l c v2 st hd hn hi hl hc
    obtain ⟨m, rfl⟩ : ∃ m, n = m + 1 := ⟨n - 1, by omega⟩
    rw [L83_step, decide_eq_false (by omega), cond_false, runesL_nil (by omega)]
    rfl
  | succ d ih =>
    intro n i l c v2 st hd hn hi hl hc
    obtain ⟨m, rfl⟩ : ∃ m, n = m + 1 := ⟨n - 1, by omega⟩
    by_cases h : i < s.size
    · have w1 := wd_pos s i
      have w2 := wd_le h
      obtain ⟨o, ho, e⟩ := L83_round Y hs v2 l c (by omega) (by omega) h m st
      rw [e, runesL_cons h, spotsOf, runY]
      cases hq : Y [encS (rn s i, i, l, c), encC (rn s i, i, l, c)] st with
      | none => rfl
      | some q =>
        rw [Option.bind_some, Option.bind_some]
        cases q.1 with
        | false => simp [ho]
        | true =>
          rw [Bool.not_true, cond_false, cond_true]
          by_cases h10 : rn s i = 10
          · rw [show (rn s i == 10) = true from beq_iff_eq.2 h10, cond_true, if_pos h10]
            exact ih m (i + wd s i) (l + 1) 1 _ _ (by omega) (by omega) w2 (by omega) (by omega)
          · rw [show (rn s i == 10) = false from beq_eq_false_iff_ne.2 h10, cond_false, if_neg h10]
            exact ih m (i + wd s i) l (c + 1) _ _ (by omega) (by omega) w2 (by omega) (by omega)
    · rw [L83_step, decide_eq_false h, cond_false, runesL_nil (by omega)]
      rfl
def spots (s : ByteArray) : List Sp := spotsOf 1 1 (runesL s 0)
theorem n83_eq {σ : Type} (Y : Yd σ) {s : ByteArray} (hs : s.size ≤ 67108864) (st : σ) : n83 Y s st = (runY Y (spots s) st).map (fun q => (s, q.2)) := by
  have h := L83 Y hs s.size 1000000000000 0 1 1 0 st (by omega) (by omega) (by omega) (by omega) (by omega)
  show ((L83_0 Y 1000000000000 (s, 0, 1, 1, s, 0) st).bind fun p23 => match p23.1 with | .x0 z24 z25 z26 z27 z28 z29 => (some (z24, p23.2)) | .x1 z30 z31 z32 z33 z34 z35 => (some (z30, p23.2))) = _
  rw [show spotsOf 1 1 (runesL s 0) = spots s from rfl] at h
  rw [← h]
  show _ = Option.map _ (L83_0 Y 1000000000000 (s, 0, 1, 1, s, 0) st)
  cases L83_0 Y 1000000000000 (s, 0, 1, 1, s, 0) st with
  | none => rfl
  | some p =>
    obtain ⟨o, st'⟩ := p
    cases o <;> rfl
theorem spotsOf_length : ∀ (l c : Nat) (t : List Ru), (spotsOf l c t).length = t.length
  | _, _, [] => rfl
  | l, c, r :: t => by
    rw [spotsOf, List.length_cons, List.length_cons]
    split
    · rw [spotsOf_length]
    · rw [spotsOf_length]
theorem spots_length (s : ByteArray) : (spots s).length = (runesL s 0).length := spotsOf_length _ _ _
theorem spots_le (s : ByteArray) : (spots s).length ≤ s.size := by
  have := runesL_length (s := s) s.size 0 (by omega)
  rw [spots_length]; omega
end Ev
set_option linter.unusedSimpArgs false
set_option linter.unusedVariables false
namespace Ev
open Go
theorem sp_ru : ∀ (l c : Nat) (t : List Ru) (k : Nat) (p : Sp), (spotsOf l c t)[k]? = some p → ∃ r, t[k]? = some r ∧ r.1 = p.1 ∧ r.2.1 = p.2.1
  | _, _, [], k, p, h => by simp [spotsOf] at h
  | l, c, r :: t, 0, p, h => by
    simp only [spotsOf, List.getElem?_cons_zero, Option.some.injEq] at h
    subst h
    exact ⟨r, rfl, rfl, rfl⟩
  | l, c, r :: t, k + 1, p, h => by
    simp only [spotsOf, List.getElem?_cons_succ] at h ⊢
    split at h
    · exact sp_ru _ _ t k p h
    · exact sp_ru _ _ t k p h
theorem cellR0 (r : Ru) : cellAt 0 (encR r) = some (.val (.int .i64 r.1)) := rfl
theorem cellR1 (r : Ru) : cellAt 1 (encR r) = some (.val (.int .i64 r.2.1)) := rfl
theorem cellR2 (r : Ru) : cellAt 2 (encR r) = some (.val (.int .i64 r.2.2)) := rfl
theorem asI64 (n : Int) : asInt .i64 (.val (.int .i64 n)) = some n := rfl
theorem asI32 (n : Int) : asInt .i32 (.val (.int .i32 n)) = some n := rfl
theorem lenR (r : Ru) : (encR r).cells.length = 3 := rfl
end Ev
set_option linter.unusedSimpArgs false
set_option linter.unusedVariables false
namespace Ev
open Go
def atOf (off : Int) : Nat → Nat → List Ru → Nat × Nat
  | l, c, [] => (l, c)
  | l, c, r :: t => if (r.2.1 : Int) < off then (if r.1 = 10 then atOf off (l + 1) 1 t else atOf off l (c + 1) t) else (l, c)
def clamp (s : ByteArray) (a : Int) : Int := if (s.size : Int) < (if 0 > a then 0 else a) then (s.size : Int) else (if 0 > a then 0 else a)
theorem L59_step (v6 : Int) (v7 : List D) (k : Nat) (v9 v10 v11 v12 v13 v14 : Int) (n : Nat) : L59_0 (n + 1) (v6, v7, (k : Int), v9, v10, v11, v12, v13, v14) () = (bif (decide ((k : Int) < ((v7.length : Nat) : Int))) then ((lidx v7 (k : Int)).bind fun d15 => ask (d15.cells.length = 3) ((cellAt 1 d15).bind fun x16 => (asInt .i64 x16).bind fun x17 => (bif (decide (x17 < v6)) then ((lidx v7 (k : Int)).bind fun d18 => ask (d18.cells.length = 3) ((cellAt 0 d18).bind fun x19 => (asInt .i64 x19).bind fun x20 => (bif (x20 == 10) then (L59_0 n (v6, v7, (w64 ((k : Int) + 1)), v9, v10, v11, v12, (w64 (v13 + 1)), 1) ()) else (L59_0 n (v6, v7, (w64 ((k : Int) + 1)), v9, v10, v11, v12, v13, (w64 (v14 + 1))) ())))) else (some (O59_0.x0 v9 v10 v11 v12 v13 v14, ()))))) else (some (O59_0.x0 v9 v10 v11 v12 v13 v14, ()))) := rfl
theorem L59 {l : List Ru} (hl : l.length ≤ 67108864) (off v9 v10 v11 v12 : Int) : ∀ (d n k ln c : Nat), l.length - k ≤ d → d < n → k ≤ l.length → ln ≤ k + 1 → c ≤ k + 1 →
    L59_0 n (off, l.map encR, (k : Int), v9, v10, v11, v12, (ln : Int), (c : Int)) () = some (O59_0.x0 v9 v10 v11 v12 ((atOf off ln c (l.drop k)).1 : Int) ((atOf off ln c (l.drop k)).2 : Int), ()) := by
  intro d
  induction d with
  | zero =>
    intro n k ln c hd hn hk h1 h2
    obtain ⟨m, rfl⟩ : ∃ m, n = m + 1 := ⟨n - 1, by omega⟩
    rw [L59_step, List.length_map, decide_eq_false (by omega), cond_false, List.drop_eq_nil_of_le (by omega), atOf]
  | succ d ih =>
    intro n k ln c hd hn hk h1 h2
    obtain ⟨m, rfl⟩ : ∃ m, n = m + 1 := ⟨n - 1, by omega⟩
    by_cases h : k < l.length
    · have e0 : w64 ((k : Int) + 1) = ((k + 1 : Nat) : Int) := by rw [w64_id (by omega) (by omega)]; omega
      have e1 : w64 ((ln : Int) + 1) = ((ln + 1 : Nat) : Int) := by rw [w64_id (by omega) (by omega)]; omega
      have e2 : w64 ((c : Int) + 1) = ((c + 1 : Nat) : Int) := by rw [w64_id (by omega) (by omega)]; omega
      rw [L59_step, List.length_map, decide_eq_true (by omega), cond_true, lidx_map, List.getElem?_eq_getElem h, e0, e1, e2, List.drop_eq_getElem_cons h, atOf]
      simp only [Option.map_some, Option.bind_some, ask_of (lenR _), cellR0, cellR1, asI64]
      by_cases hlt : ((l[k]).2.1 : Int) < off
      · rw [decide_eq_true hlt, cond_true, if_pos hlt]
        by_cases h10 : (l[k]).1 = 10
        · rw [show ((l[k]).1 == 10) = true from beq_iff_eq.2 h10, cond_true, if_pos h10]
          exact ih m (k + 1) (ln + 1) 1 (by omega) (by omega) (by omega) (by omega) (by omega)
        · rw [show ((l[k]).1 == 10) = false from beq_eq_false_iff_ne.2 h10, cond_false, if_neg h10]
          exact ih m (k + 1) ln (c + 1) (by omega) (by omega) (by omega) (by omega) (by omega)
      · rw [decide_eq_false hlt, cond_false, if_neg hlt]
    · rw [L59_step, List.length_map, decide_eq_false (by omega), cond_false, List.drop_eq_nil_of_le (by omega), atOf]
def atS (s : ByteArray) (a : Int) : Int × Int × Int := (clamp s a, ((atOf (clamp s a) 1 1 (runesL s 0)).1 : Int), ((atOf (clamp s a) 1 1 (runesL s 0)).2 : Int))
theorem n59_eq {s : ByteArray} (hs : s.size ≤ 67108864) (a : Int) : n59 (s, a) = some (atS s a) := by
  have hle := runesL_length (s := s) s.size 0 (by omega)
  have h := L59 (l := runesL s 0) (by omega) (clamp s a) 0 0 0 (clamp s a) (runesL s 0).length 1000000000000 0 1 1 (by omega) (by omega) (by omega) (by omega) (by omega)
  show ((n29 s).bind fun y5 => ((L59_0 1000000000000 (clamp s a, y5, ((0 : Nat) : Int), 0, 0, 0, clamp s a, ((1 : Nat) : Int), ((1 : Nat) : Int)) ()).bind fun p27 => match p27.1 with | .x0 z28 z29 z30 z31 z32 z33 => (some (z31, z32, z33)))) = _
  rw [n29_eq hs, Option.bind_some, h]
  rfl
theorem run56 (off v10 v11 v12 v13 : Int) : ∀ (t : List Ru) (l c : Nat), t.length + l ≤ 67108868 → t.length + c ≤ 67108868 →
    ∃ b, (runY (W56_0 (σ := Unit) ()) (spotsOf l c t) (.inl (off, v10, v11, v12, v13, (l : Int), (c : Int)), ()) = some (b, (.inl (off, v10, v11, v12, v13, ((atOf off l c t).1 : Int), ((atOf off l c t).2 : Int)), ())) ∨ runY (W56_0 (σ := Unit) ()) (spotsOf l c t) (.inl (off, v10, v11, v12, v13, (l : Int), (c : Int)), ()) = some (b, (.inr (.x0 off v10 v11 v12 v13 ((atOf off l c t).1 : Int) ((atOf off l c t).2 : Int)), ())))
  | [], l, c, _, _ => ⟨true, .inl rfl⟩
  | r :: t, l, c, h1, h2 => by
    simp only [List.length_cons] at h1 h2
    have e1 : w64 ((l : Int) + 1) = ((l + 1 : Nat) : Int) := by rw [w64_id (by omega) (by omega)]; omega
    have e2 : w64 ((c : Int) + 1) = ((c + 1 : Nat) : Int) := by rw [w64_id (by omega) (by omega)]; omega
    have hW : W56_0 (σ := Unit) () [encS (r.1, r.2.1, l, c), encC (r.1, r.2.1, l, c)] (.inl (off, v10, v11, v12, v13, (l : Int), (c : Int)), ()) = (bif (decide ((r.2.1 : Int) ≥ off)) then (some (false, (Sum.inr (O56_0.x0 off v10 v11 v12 v13 (l : Int) (c : Int)), ()))) else (bif (r.1 == 10) then (some (true, (Sum.inl (off, v10, v11, v12, v13, (w64 ((l : Int) + 1)), 1), ()))) else (some (true, (Sum.inl (off, v10, v11, v12, v13, (l : Int), (w64 ((c : Int) + 1))), ()))))) := rfl
    rw [spotsOf, runY, hW, e1, e2, atOf]
    by_cases hlt : (r.2.1 : Int) < off
    · rw [decide_eq_false (by omega : ¬ (r.2.1 : Int) ≥ off), cond_false, if_pos hlt]
      by_cases h10 : r.1 = 10
      · rw [show (r.1 == 10) = true from beq_iff_eq.2 h10, cond_true, if_pos h10, if_pos h10, Option.bind_some, cond_true]
        exact run56 off v10 v11 v12 v13 t (l + 1) 1 (by omega) (by omega)
      · rw [show (r.1 == 10) = false from beq_eq_false_iff_ne.2 h10, cond_false, if_neg h10, if_neg h10, Option.bind_some, cond_true]
        exact run56 off v10 v11 v12 v13 t l (c + 1) (by omega) (by omega)
    · rw [decide_eq_true (by omega : (r.2.1 : Int) ≥ off), cond_true, if_neg hlt, Option.bind_some, cond_false]
      exact ⟨false, .inr rfl⟩
theorem n56_eq {s : ByteArray} (hs : s.size ≤ 67108864) (a : Int) : n56 (s, a) = some (atS s a) := by
  have hle := runesL_length (s := s) s.size 0 (by omega)
  show ((n83 (W56_0 ()) s (Sum.inl (clamp s a, 0, 0, 0, 0, ((1 : Nat) : Int), ((1 : Nat) : Int)), ())).bind fun p23 => match p23.2.1 with | .inl z24 => (some ((z24.1), (z24.2.2.2.2.2.1), (z24.2.2.2.2.2.2))) | .inr o32 => (match o32 with | .x0 z25 z26 z27 z28 z29 z30 z31 => (some (z25, z30, z31)))) = _
  rw [n83_eq _ hs]
  obtain ⟨b, h | h⟩ := run56 (clamp s a) 0 0 0 0 (runesL s 0) 1 1 (by omega) (by omega)
  · show (Option.map _ (runY (W56_0 (σ := Unit) ()) (spotsOf 1 1 (runesL s 0)) _)).bind _ = _
    rw [h]; rfl
  · show (Option.map _ (runY (W56_0 (σ := Unit) ()) (spotsOf 1 1 (runesL s 0)) _)).bind _ = _
    rw [h]; rfl
theorem at_spot {s : ByteArray} : ∀ (d i l c k : Nat) (p : Sp), s.size - i ≤ d → (spotsOf l c (runesL s i))[k]? = some p → i ≤ p.2.1 ∧ p.2.1 < s.size ∧ atOf (p.2.1 : Int) l c (runesL s i) = (p.2.2.1, p.2.2.2) := by
  intro d
  induction d with
  | zero =>
    intro i l c k p hd h
    rw [runesL_nil (by omega)] at h
    simp [spotsOf] at h
  | succ d ih =>
    intro i l c k p hd h
    by_cases hi : i < s.size
    · have w1 := wd_pos s i
      rw [runesL_cons hi, spotsOf] at h
      cases k with
      | zero =>
        simp only [List.getElem?_cons_zero, Option.some.injEq] at h
        subst h
        refine ⟨Nat.le_refl _, hi, ?_⟩
        rw [runesL_cons hi, atOf, if_neg (by simp)]
      | succ k =>
        simp only [List.getElem?_cons_succ] at h
        rw [runesL_cons hi, atOf]
        by_cases h10 : rn s i = 10
        · rw [if_pos h10] at h
          obtain ⟨q1, q2, q3⟩ := ih (i + wd s i) (l + 1) 1 k p (by omega) h
          refine ⟨by omega, q2, ?_⟩
          rw [if_pos (by simp only; omega), if_pos h10, q3]
        · rw [if_neg h10] at h
          obtain ⟨q1, q2, q3⟩ := ih (i + wd s i) l (c + 1) k p (by omega) h
          refine ⟨by omega, q2, ?_⟩
          rw [if_pos (by simp only; omega), if_neg h10, q3]
    · rw [runesL_nil (by omega)] at h
      simp [spotsOf] at h
theorem atS_spot {s : ByteArray} {k : Nat} {p : Sp} (h : (spots s)[k]? = some p) : atS s (p.2.1 : Int) = ((p.2.1 : Int), (p.2.2.1 : Int), (p.2.2.2 : Int)) := by
  obtain ⟨_, q2, q3⟩ := at_spot s.size 0 1 1 k p (by omega) h
  have hc : clamp s (p.2.1 : Int) = (p.2.1 : Int) := by unfold clamp; split <;> split at * <;> omega
  unfold atS
  rw [hc, q3]
end Ev
set_option linter.unusedSimpArgs false
set_option linter.unusedVariables false
namespace Ev
open Go
def encB (l : List UInt8) : D := .val (.string ⟨l.toArray⟩)
abbrev bl (s : ByteArray) : List UInt8 := s.data.toList
theorem ext_list (s : ByteArray) (a b : Nat) : s.extract a b = (⟨(((bl s).take b).drop a).toArray⟩ : ByteArray) := by
  apply ByteArray.ext
  apply Array.toList_inj.1
  simp [List.drop_take]
theorem cellB (x : List UInt8) : cellAt 0 (encB x) = some (.val (.string ⟨x.toArray⟩)) := rfl
theorem asS (x : ByteArray) : asStr (.val (.string x)) = some x := rfl
theorem lenB (x : List UInt8) : (encB x).cells.length = 1 := rfl
end Ev
set_option linter.unusedSimpArgs false
set_option linter.unusedVariables false
namespace Ev
open Go
theorem app_size (a b : ByteArray) : (a ++ b).size = a.size + b.size := ByteArray.size_append
theorem app_data (a b : ByteArray) : (a ++ b).data.toList = a.data.toList ++ b.data.toList := by simp
theorem get_bang_eq (s : ByteArray) (k : Nat) : s.get! k = (s.data.toList[k]?).getD 0 := by
  rw [← get_list]
  by_cases h : k < s.size
  · rw [get_bang h]; rfl
  · rw [getElem?_neg s k h]
    simp only [ByteArray.get!, Option.getD_none]
    rw [getElem!_neg s.data k (by simpa using h)]
    rfl
end Ev
set_option linter.unusedSimpArgs false
set_option linter.unusedVariables false
namespace Ev
open Go
theorem getD_drop (s : ByteArray) (i k : Nat) : ((bl s).drop i).getD k 0 = s.get! (i + k) := by
  rw [get_bang_eq, List.getD_eq_getElem?_getD, List.getElem?_drop]
theorem dec_small {s : ByteArray} {i : Nat} (h : (Utf8.decode s i).1 < 128) : Utf8.decode s i = (bt s i, 1) := by
  rw [← Lib.decodeL_drop, Lib.decodeL_N] at h ⊢
  rw [getD_drop s i 0] at h ⊢
  have k0 := bt_lt (s := s) i
  rcases Lib.decodeN_shape ((bl s).drop i).length (s.get! (i + 0)).toNat (((bl s).drop i).getD 1 0).toNat (((bl s).drop i).getD 2 0).toNat (((bl s).drop i).getD 3 0).toNat with q | q | q | q | q
  · rw [q.2]; rfl
  · obtain ⟨a1, a2, a3, a4, e⟩ := q
    rw [e] at h; simp only at h; omega
  · obtain ⟨a1, a2, a3, a4, a5, a6, e⟩ := q
    rw [e] at h; simp only at h; omega
  · obtain ⟨a1, a2, a3, a4, a5, a6, a7, e⟩ := q
    rw [e] at h; simp only at h; omega
  · rw [q] at h; simp at h
theorem dec_ascii {s : ByteArray} {i : Nat} (h : bt s i < 128) : Utf8.decode s i = (bt s i, 1) := by
  rw [← Lib.decodeL_drop, Lib.decodeL_N, getD_drop s i 0, Lib.decodeN_ascii _ _ _ _ _ (show (s.get! (i + 0)).toNat < 128 from h)]
  rfl
end Ev
set_option linter.unusedSimpArgs false
set_option linter.unusedVariables false
namespace Ev
open Go
section
variable (s : ByteArray)
abbrev rus : List Ru := runesL s 0
def rAt (k : Nat) : Int := match (rus s)[k]? with | some r => r.1 | none => 0
def offAt (k : Nat) : Nat := match (rus s)[k]? with | some r => r.2.1 | none => s.size
def encT (p : Sp) : D := .agg [.val (.int .i32 p.1), .val (.int .i64 p.2.1), .val (.int .i64 p.2.2.1), .val (.int .i64 p.2.2.2)]
abbrev Tl : List D := (spots s).map encT
abbrev El : List D := (rus s).map encR
end
variable {s : ByteArray}
theorem rus_facts : ∀ (d i k : Nat) (r : Ru), s.size - i ≤ d → i ≤ s.size → (runesL s i)[k]? = some r → r = (rn s r.2.1, r.2.1, wd s r.2.1) ∧ r.2.1 < s.size ∧ (match (runesL s i)[k + 1]? with | some r' => r'.2.1 | none => s.size) = r.2.1 + wd s r.2.1 := by
  intro d
  induction d with
  | zero =>
    intro i k r hd hi h
    rw [runesL_nil (by omega)] at h
    simp at h
  | succ d ih =>
    intro i k r hd hi h
    by_cases hlt : i < s.size
    · have w1 := wd_pos s i
      have w2 := wd_le hlt
      rw [runesL_cons hlt] at h ⊢
      cases k with
      | zero =>
        simp only [List.getElem?_cons_zero, Option.some.injEq] at h
        subst h
        refine ⟨rfl, hlt, ?_⟩
        rw [List.getElem?_cons_succ]
        by_cases h2 : i + wd s i < s.size
        · rw [runesL_cons h2]; rfl
        · rw [runesL_nil (by omega)]
          simp only [List.getElem?_nil]
          omega
      | succ k =>
        rw [List.getElem?_cons_succ] at h ⊢
        exact ih (i + wd s i) k r (by omega) w2 h
    · rw [runesL_nil (by omega)] at h
      simp at h
theorem ru_at {k : Nat} (h : k < (rus s).length) : ∃ o, (rus s)[k]? = some (rn s o, o, wd s o) ∧ o < s.size ∧ offAt s k = o ∧ rAt s k = rn s o ∧ offAt s (k + 1) = o + wd s o := by
  have hk : (rus s)[k]? = some (rus s)[k] := List.getElem?_eq_getElem h
  obtain ⟨h1, h2, h3⟩ := rus_facts s.size 0 k _ (by omega) (by omega) hk
  refine ⟨((rus s)[k]).2.1, by rw [← h1]; exact hk, h2, ?_, ?_, h3⟩
  · unfold offAt; rw [hk]
  · unfold rAt; rw [hk]; exact congrArg Prod.fst h1
theorem off_le (k : Nat) : offAt s k ≤ s.size := by
  by_cases h : k < (rus s).length
  · obtain ⟨o, _, h2, h3, _⟩ := ru_at h
    omega
  · unfold offAt; rw [List.getElem?_eq_none (by omega)]; exact Nat.le_refl _
theorem N_le (hs : s.size ≤ 67108864) : (rus s).length ≤ 67108864 := by
  have : (rus s).length ≤ s.size - 0 := runesL_length (s := s) s.size 0 (by omega)
  omega
theorem T_len : (Tl s).length = (rus s).length := by rw [List.length_map, spots_length]
def spAt (s : ByteArray) (k : Nat) : Int × Int × Int := atS s (offAt s k : Int)
theorem spAt_off (k : Nat) : (spAt s k).1 = (offAt s k : Int) := by
  have := off_le (s := s) k
  show clamp s (offAt s k : Int) = _
  unfold clamp; split <;> split at * <;> omega
theorem sp_at {k : Nat} (h : k < (rus s).length) : ∃ p, (spots s)[k]? = some p ∧ p.1 = rAt s k ∧ p.2.1 = offAt s k ∧ spAt s k = ((p.2.1 : Int), (p.2.2.1 : Int), (p.2.2.2 : Int)) := by
  have hk : k < (spots s).length := by rw [spots_length]; exact h
  have hp : (spots s)[k]? = some (spots s)[k] := List.getElem?_eq_getElem hk
  obtain ⟨r, hr, h1, h2⟩ := sp_ru 1 1 (runesL s 0) k _ hp
  have e1 : rAt s k = r.1 := by unfold rAt; rw [show (rus s)[k]? = some r from hr]
  have e2 : offAt s k = r.2.1 := by unfold offAt; rw [show (rus s)[k]? = some r from hr]
  refine ⟨_, hp, by rw [e1, h1], by rw [e2, h2], ?_⟩
  have := atS_spot hp
  unfold spAt
  rw [e2, h2]; exact this
theorem cellT0 (p : Sp) : cellAt 0 (encT p) = some (.val (.int .i32 p.1)) := rfl
theorem cellT1 (p : Sp) : cellAt 1 (encT p) = some (.val (.int .i64 p.2.1)) := rfl
theorem cellT2 (p : Sp) : cellAt 2 (encT p) = some (.val (.int .i64 p.2.2.1)) := rfl
theorem cellT3 (p : Sp) : cellAt 3 (encT p) = some (.val (.int .i64 p.2.2.2)) := rfl
theorem lenT (p : Sp) : (encT p).cells.length = 4 := rfl
theorem wadd {i k : Nat} (h : i + k ≤ 400000000) : w64 ((i : Int) + (k : Int)) = ((i + k : Nat) : Int) := by rw [w64_id (by omega) (by omega)]; omega
theorem n87_eq (i k q : Nat) (h : i + k ≤ 400000000) : n87 (s, Tl s, (i : Int), (k : Int), q) = some (rAt s (i + k), s, Tl s, (i : Int), q) := by
  unfold n87
  simp only [wadd h, T_len]
  by_cases hk : i + k < (rus s).length
  · obtain ⟨p, hp, h1, _⟩ := sp_at hk
    rw [decide_eq_true (by omega), cond_true, lidx_map, hp]
    simp only [Option.map_some, Option.bind_some, ask_of (lenT _), cellT0, asI32]
    rw [h1]
  · rw [decide_eq_false (by omega), cond_false]
    unfold rAt
    rw [List.getElem?_eq_none (by omega)]
theorem n87_0 (i q : Nat) (h : i ≤ 200000000) : n87 (s, Tl s, (i : Int), 0, q) = some (rAt s i, s, Tl s, (i : Int), q) := n87_eq i 0 q (by omega)
theorem n87_1 (i q : Nat) (h : i ≤ 200000000) : n87 (s, Tl s, (i : Int), 1, q) = some (rAt s (i + 1), s, Tl s, (i : Int), q) := n87_eq i 1 q (by omega)
theorem n88_eq (hs : s.size ≤ 67108864) (i q : Nat) : n88 (s, Tl s, (i : Int), q) = some ((spAt s i).1, (spAt s i).2.1, (spAt s i).2.2, s, Tl s, (i : Int), q) := by
  unfold n88
  simp only [T_len]
  by_cases hk : i < (rus s).length
  · obtain ⟨p, hp, _, _, h3⟩ := sp_at hk
    rw [decide_eq_true (by omega), cond_true, lidx_map, hp]
    simp only [Option.map_some, Option.bind_some, ask_of (lenT _), cellT1, cellT2, cellT3, asI64]
    rw [h3]
  · rw [decide_eq_false (by omega), cond_false, n56_eq hs, Option.bind_some]
    unfold spAt offAt
    rw [List.getElem?_eq_none (by omega)]
theorem r_E {k : Nat} (h : k < (rus s).length) : ∃ r, lidx (El s) (k : Int) = some (encR r) ∧ r.1 = rAt s k ∧ r.2.1 = offAt s k ∧ r.2.1 + r.2.2 = offAt s (k + 1) := by
  obtain ⟨o, h1, h2, h3, h4, h5⟩ := ru_at h
  refine ⟨_, by rw [lidx_map, h1]; rfl, h4.symm, h3.symm, h5.symm⟩
theorem n92_eq (i k : Nat) (c : Int) (h : i + k ≤ 400000000) : n92 (s, El s, (i : Int), (k : Int), c) = some ((bif decide (i + k < (rus s).length) then (rAt s (i + k) == c) else false), s, El s, (i : Int)) := by
  unfold n92
  simp only [wadd h, List.length_map]
  by_cases hk : i + k < (rus s).length
  · obtain ⟨r, h1, h2, _⟩ := r_E hk
    rw [decide_eq_true (by omega), cond_true, h1, decide_eq_true hk, cond_true]
    simp only [Option.bind_some, ask_of (lenR _), cellR0, asI64]
    rw [h2]
  · rw [decide_eq_false (by omega), cond_false, decide_eq_false hk, cond_false]
theorem L60_3_step (v9 : ByteArray) (v10 : List D) (k : Nat) (n : Nat) : L60_3 (n + 1) (v9, v10, (k : Int)) () = (bif (decide ((k : Int) < ((v10.length : Nat) : Int))) then ((n87 (v9, v10, (k : Int), 0, v10.length)).bind fun y12 => (bif (y12.1 != 10) then (ask (([v10.length] : List Nat) = [v10.length]) (L60_3 n (v9, v10, (w64 ((k : Int) + 1))) ())) else (ask (([v10.length] : List Nat) = [v10.length]) (some (O60_3.x0 v9 v10 (k : Int), ()))))) else (ask (([v10.length] : List Nat) = [v10.length]) (some (O60_3.x0 v9 v10 (k : Int), ())))) := rfl
theorem L62_2_step (v13 : ByteArray) (v14 : List D) (k : Nat) (n : Nat) : L62_2 (n + 1) (v13, v14, (k : Int)) () = (bif (decide ((k : Int) < ((v14.length : Nat) : Int))) then ((lidx v14 (k : Int)).bind fun d16 => ask (d16.cells.length = 3) ((cellAt 0 d16).bind fun x17 => (asInt .i64 x17).bind fun x18 => (bif (x18 != 10) then (L62_2 n (v13, v14, (w64 ((k : Int) + 1))) ()) else (some (O62_2.x0 v13 v14 (k : Int), ()))))) else (some (O62_2.x0 v13 v14 (k : Int), ()))) := rfl
theorem L60_step (v4 : ByteArray) (v5 : List D) (k : Nat) (n : Nat) : L60_0 (n + 1) (v4, v5, (k : Int)) () = (bif (decide ((k : Int) < ((v5.length : Nat) : Int))) then ((n87 (v4, v5, (k : Int), 0, v5.length)).bind fun y7 => (bif (bif (bif (bif (y7.1 == 32) then true else (y7.1 == 9)) then true else (y7.1 == 10)) then true else (y7.1 == 13)) then (ask (([v5.length] : List Nat) = [v5.length]) (L60_0 n (v4, v5, (w64 ((k : Int) + 1))) ())) else (bif (y7.1 == 47) then ((n87 (v4, v5, (k : Int), 1, v5.length)).bind fun y8 => (bif (y8.1 == 47) then (ask (([v5.length] : List Nat) = [v5.length]) ((L60_3 1000000000000 (v4, v5, (k : Int)) ()).bind fun p16 => match p16.1 with | .x0 z17 z18 z19 => (ask (([z18.length] : List Nat) = [z18.length]) (L60_0 n (z17, z18, z19) p16.2)))) else (ask (([v5.length] : List Nat) = [v5.length]) (some (O60_0.x0 v4 v5 (k : Int), ()))))) else (ask (([v5.length] : List Nat) = [v5.length]) (some (O60_0.x0 v4 v5 (k : Int), ())))))) else (ask (([v5.length] : List Nat) = [v5.length]) (some (O60_0.x1 v4 v5 (k : Int), ())))) := rfl
theorem L62_step (v3 : ByteArray) (v4 : List D) (k : Nat) (n : Nat) : L62_0 (n + 1) (v3, v4, (k : Int)) () = (bif (decide ((k : Int) < ((v4.length : Nat) : Int))) then ((lidx v4 (k : Int)).bind fun d6 => ask (d6.cells.length = 3) ((cellAt 0 d6).bind fun x7 => (asInt .i64 x7).bind fun x8 => (bif (bif (bif (bif (x8 == 32) then true else (x8 == 9)) then true else (x8 == 10)) then true else (x8 == 13)) then (L62_0 n (v3, v4, (w64 ((k : Int) + 1))) ()) else (bif (x8 != 47) then (some (O62_0.x0 v3 v4 (k : Int), ())) else ((n92 (v3, v4, (k : Int), 1, 47)).bind fun y12 => (bif (!y12.1) then (some (O62_0.x0 v3 v4 (k : Int), ())) else ((L62_2 1000000000000 (v3, v4, (k : Int)) ()).bind fun p22 => match p22.1 with | .x0 z23 z24 z25 => (L62_0 n (z23, z24, z25) p22.2)))))))) else (some (O62_0.x1 v3 v4 (k : Int), ()))) := rfl
theorem w1k {k : Nat} (h : k ≤ 300000000) : w64 ((k : Int) + 1) = ((k + 1 : Nat) : Int) := wadd (i := k) (k := 1) (by omega)
theorem cmBoth (hs : s.size ≤ 67108864) : ∀ (d n k : Nat), (rus s).length - k ≤ d → d < n → k ≤ 67108868 → ∃ j, k ≤ j ∧ (j = k ∨ j ≤ (rus s).length) ∧ (k < (rus s).length → rAt s k ≠ 10 → k < j) ∧ L60_3 n (s, Tl s, (k : Int)) () = some (O60_3.x0 s (Tl s) (j : Int), ()) ∧ L62_2 n (s, El s, (k : Int)) () = some (O62_2.x0 s (El s) (j : Int), ()) := by
  have hN := N_le hs
  have stop : ∀ (m k : Nat), ¬ k < (rus s).length → L60_3 (m + 1) (s, Tl s, (k : Int)) () = some (O60_3.x0 s (Tl s) (k : Int), ()) ∧ L62_2 (m + 1) (s, El s, (k : Int)) () = some (O62_2.x0 s (El s) (k : Int), ()) := by
    intro m k h
    constructor
    · rw [L60_3_step, T_len, decide_eq_false (by omega), cond_false, ask_of rfl]
    · rw [L62_2_step, List.length_map, decide_eq_false (by omega), cond_false]
  intro d
  induction d with
  | zero =>
    intro n k hd hn hk
    obtain ⟨m, rfl⟩ : ∃ m, n = m + 1 := ⟨n - 1, by omega⟩
    obtain ⟨q1, q2⟩ := stop m k (by omega)
    exact ⟨k, Nat.le_refl _, .inl rfl, fun h => by omega, q1, q2⟩
  | succ d ih =>
    intro n k hd hn hk
    obtain ⟨m, rfl⟩ : ∃ m, n = m + 1 := ⟨n - 1, by omega⟩
    by_cases h : k < (rus s).length
    · obtain ⟨r, h1, h2, _⟩ := r_E h
      rw [L60_3_step, L62_2_step, n87_0 k _ (by omega), h1]
      simp only [Option.bind_some, ask_of (lenR _), cellR0, asI64, h2, T_len, List.length_map, spots_length, w1k (show k ≤ 300000000 by omega)]
      rw [decide_eq_true (show (k : Int) < (((rus s).length : Nat) : Int) by omega), cond_true, cond_true]
      by_cases h10 : rAt s k = 10
      · rw [h10]
        exact ⟨k, Nat.le_refl _, .inl rfl, fun _ h => absurd rfl h, by rw [show ((10 : Int) != 10) = false from rfl, cond_false, ask_of trivial], rfl⟩
      · rw [show (rAt s k != 10) = true from bne_iff_ne.2 h10, cond_true, cond_true, ask_of trivial]
        obtain ⟨j, q1, q2, _, q3, q4⟩ := ih m (k + 1) (by omega) (by omega) (by omega)
        exact ⟨j, by omega, .inr (by omega), fun _ _ => by omega, q3, q4⟩
    · obtain ⟨q1, q2⟩ := stop m k h
      exact ⟨k, Nat.le_refl _, .inl rfl, fun h' => absurd h' h, q1, q2⟩
theorem blank4 (r : Int) : (bif (bif (bif (r == 32) then true else (r == 9)) then true else (r == 10)) then true else (r == 13)) = true ∨ (bif (bif (bif (r == 32) then true else (r == 9)) then true else (r == 10)) then true else (r == 13)) = false := by
  cases (bif (bif (bif (r == 32) then true else (r == 9)) then true else (r == 10)) then true else (r == 13)) <;> simp
def of60 : O60_0 → ByteArray × List D × Int
  | .x0 a b c => (a, b, c)
  | .x1 a b c => (a, b, c)
def of62 : O62_0 → ByteArray × List D × Int
  | .x0 a b c => (a, b, c)
  | .x1 a b c => (a, b, c)
theorem silBoth (hs : s.size ≤ 67108864) : ∀ (d n k : Nat), (rus s).length - k ≤ d → d < n → k ≤ 67108868 → ∃ j, k ≤ j ∧ (j = k ∨ j ≤ (rus s).length) ∧ (∃ o, L60_0 n (s, Tl s, (k : Int)) () = some (o, ()) ∧ of60 o = (s, Tl s, (j : Int))) ∧ (∃ o, L62_0 n (s, El s, (k : Int)) () = some (o, ()) ∧ of62 o = (s, El s, (j : Int))) := by
  have hN := N_le hs
  have stop : ∀ (m k : Nat), ¬ k < (rus s).length → (∃ o, L60_0 (m + 1) (s, Tl s, (k : Int)) () = some (o, ()) ∧ of60 o = (s, Tl s, (k : Int))) ∧ (∃ o, L62_0 (m + 1) (s, El s, (k : Int)) () = some (o, ()) ∧ of62 o = (s, El s, (k : Int))) := by
    intro m k h
    constructor
    · rw [L60_step, T_len, decide_eq_false (by omega), cond_false, ask_of rfl]
      exact ⟨_, rfl, rfl⟩
    · rw [L62_step, List.length_map, decide_eq_false (by omega), cond_false]
      exact ⟨_, rfl, rfl⟩
  intro d
  induction d with
  | zero =>
    intro n k hd hn hk
    obtain ⟨m, rfl⟩ : ∃ m, n = m + 1 := ⟨n - 1, by omega⟩
    obtain ⟨q1, q2⟩ := stop m k (by omega)
    exact ⟨k, Nat.le_refl _, .inl rfl, q1, q2⟩
  | succ d ih =>
    intro n k hd hn hk
    obtain ⟨m, rfl⟩ : ∃ m, n = m + 1 := ⟨n - 1, by omega⟩
    by_cases h : k < (rus s).length
    · obtain ⟨r, h1, h2, _⟩ := r_E h
      have e92 := n92_eq (s := s) k 1 47 (by omega)
      have e92' : n92 (s, El s, (k : Int), 1, 47) = some ((bif decide (k + 1 < (rus s).length) then (rAt s (k + 1) == 47) else false), s, El s, (k : Int)) := e92
      rw [L60_step, L62_step, n87_0 k _ (by omega), n87_1 k _ (by omega), h1]
      simp only [Option.bind_some, ask_of (lenR _), cellR0, asI64, h2, T_len, List.length_map, spots_length, w1k (show k ≤ 300000000 by omega), e92']
      rw [decide_eq_true (show (k : Int) < (((rus s).length : Nat) : Int) by omega), cond_true, cond_true]
      rcases blank4 (rAt s k) with hb | hb
      · rw [hb, cond_true, cond_true, ask_of trivial]
        obtain ⟨j, q1, q2, q3, q4⟩ := ih m (k + 1) (by omega) (by omega) (by omega)
        exact ⟨j, by omega, .inr (by omega), q3, q4⟩
      · rw [hb, cond_false, cond_false]
        by_cases h47 : rAt s k = 47
        · have hnx : (bif decide (k + 1 < (rus s).length) then (rAt s (k + 1) == 47) else false) = (rAt s (k + 1) == 47) := by
            by_cases hk1 : k + 1 < (rus s).length
            · rw [decide_eq_true hk1, cond_true]
            · rw [decide_eq_false hk1, cond_false]
              unfold rAt
              rw [List.getElem?_eq_none (by omega)]
              rfl
          rw [h47, show ((47 : Int) == 47) = true from rfl, show ((47 : Int) != 47) = false from rfl, cond_true, cond_false, hnx]
          cases (rAt s (k + 1) == 47) with
          | true =>
            obtain ⟨j, q1, q2, q5, q3, q4⟩ := cmBoth hs (rus s).length 1000000000000 k (by omega) (by omega) hk
            have q5' := q5 h (by rw [h47]; omega)
            rw [cond_true, Bool.not_true, cond_false, ask_of trivial, q3, q4]
            simp only [Option.bind_some, T_len]
            rw [ask_of trivial]
            obtain ⟨j2, r1, r2, r3, r4⟩ := ih m j (by omega) (by omega) (by omega)
            exact ⟨j2, by omega, .inr (by omega), r3, r4⟩
          | false =>
            rw [cond_false, Bool.not_false, cond_true, ask_of trivial]
            exact ⟨k, Nat.le_refl _, .inl rfl, ⟨_, rfl, rfl⟩, ⟨_, rfl, rfl⟩⟩
        · rw [show (rAt s k == 47) = false from beq_eq_false_iff_ne.2 h47, show (rAt s k != 47) = true from bne_iff_ne.2 h47, cond_false, cond_true, ask_of trivial]
          exact ⟨k, Nat.le_refl _, .inl rfl, ⟨_, rfl, rfl⟩, ⟨_, rfl, rfl⟩⟩
    · obtain ⟨q1, q2⟩ := stop m k h
      exact ⟨k, Nat.le_refl _, .inl rfl, q1, q2⟩
theorem n60_62 (hs : s.size ≤ 67108864) {k : Nat} (hk : k ≤ 67108868) : ∃ j, k ≤ j ∧ (j = k ∨ j ≤ (rus s).length) ∧ n60 (s, Tl s, (k : Int), (Tl s).length) = some (s, Tl s, (j : Int), (Tl s).length) ∧ n62 (s, El s, (k : Int)) = some (s, El s, (j : Int)) := by
  have hN := N_le hs
  obtain ⟨j, q1, q2, ⟨o, h1, h2⟩, ⟨o', h3, h4⟩⟩ := silBoth hs (rus s).length 1000000000000 k (by omega) (by omega) hk
  refine ⟨j, q1, q2, ?_, ?_⟩
  · show (ask (([(Tl s).length] : List Nat) = [(Tl s).length]) ((L60_0 1000000000000 (s, Tl s, (k : Int)) ()).bind fun p26 => match p26.1 with | .x0 z27 z28 z29 => (some (z27, z28, z29, z28.length)) | .x1 z34 z35 z36 => (some (z34, z35, z36, z35.length)))) = _
    rw [ask_of rfl, h1]
    cases o <;> (simp only [of60, Prod.mk.injEq] at h2; obtain ⟨rfl, rfl, rfl⟩ := h2; rfl)
  · show ((L62_0 1000000000000 (s, El s, (k : Int)) ()).bind fun p29 => match p29.1 with | .x0 z30 z31 z32 => (some (z30, z31, z32)) | .x1 z36 z37 z38 => (some (z36, z37, z38))) = _
    rw [h3]
    cases o' <;> (simp only [of62, Prod.mk.injEq] at h4; obtain ⟨rfl, rfl, rfl⟩ := h4; rfl)
theorem L89_step (v5 : Int) (v6 : ByteArray) (v7 : List D) (k : Nat) (n : Nat) : L89_0 (n + 1) (v5, v6, v7, (k : Int)) () = (bif (decide ((k : Int) < ((v7.length : Nat) : Int))) then ((n87 (v6, v7, (k : Int), 0, v7.length)).bind fun y9 => ((n109 y9.1).bind fun y10 => (bif y10 then (ask (([v7.length] : List Nat) = [v7.length]) (L89_0 n (v5, v6, v7, (w64 ((k : Int) + 1))) ())) else (ask (([v7.length] : List Nat) = [v7.length]) (some (O89_0.x0 v5 v6 v7 (k : Int), ())))))) else (ask (([v7.length] : List Nat) = [v7.length]) (some (O89_0.x0 v5 v6 v7 (k : Int), ())))) := rfl
theorem L94_step (v4 : Int) (v6 : ByteArray) (v7 : List D) (v8 : Int) (k : Nat) (n : Nat) : L94_0 (n + 1) (v4, (k : Int), v6, v7, v8) () = (bif (decide ((k : Int) < ((v7.length : Nat) : Int))) then ((lidx v7 (k : Int)).bind fun d9 => ask (d9.cells.length = 3) ((cellAt 0 d9).bind fun x10 => (asInt .i64 x10).bind fun x11 => ((n72 x11).bind fun y12 => (bif y12 then (L94_0 n (v4, (w64 ((k : Int) + 1)), v6, v7, v8) ()) else (some (O94_0.x0 v4 (k : Int) v6 v7 v8, ())))))) else (some (O94_0.x0 v4 (k : Int) v6 v7 v8, ()))) := rfl
theorem L94_2_step (v24 : Int) (v25 v27 : ByteArray) (v28 : List D) (v29 : Int) (k : Nat) (n : Nat) : L94_2 (n + 1) (v24, v25, (k : Int), v27, v28, v29) () = (bif (decide ((k : Int) < v24)) then ((lidx v28 (k : Int)).bind fun d30 => ask (d30.cells.length = 3) ((cellAt 1 d30).bind fun x31 => (asInt .i64 x31).bind fun x32 => ((lidx v28 (k : Int)).bind fun d33 => ask (d33.cells.length = 3) ((cellAt 1 d33).bind fun x34 => (asInt .i64 x34).bind fun x35 => ((lidx v28 (k : Int)).bind fun d36 => ask (d36.cells.length = 3) ((cellAt 2 d36).bind fun x37 => (asInt .i64 x37).bind fun x38 => (ask (cutOk x32 (w64 (x35 + x38)) v27.size) (ask (catOk v25 (v27.extract (Int.toNat x32) (Int.toNat (w64 (x35 + x38))))) (L94_2 n (v24, (v25 ++ (v27.extract (Int.toNat x32) (Int.toNat (w64 (x35 + x38))))), (w64 ((k : Int) + 1)), v27, v28, v29) ()))))))))) else (some (O94_2.x0 v24 v25 v27 v28 v29, ()))) := rfl
theorem n109_eq (r : Int) : n109 r = some (restB r) := by
  unfold n109 restB
  rw [n37_eq, Option.bind_some]
  cases letB r with
  | true => rfl
  | false =>
    rw [cond_false, cond_false]
    cases decide (r ≥ 48) <;> rfl
theorem wordBoth (hs : s.size ≤ 67108864) (v v' v8 : Int) : ∀ (d n k : Nat), (rus s).length - k ≤ d → d < n → k ≤ 67108868 → ∃ j, k ≤ j ∧ (j = k ∨ j ≤ (rus s).length) ∧ (k < (rus s).length → restB (rAt s k) = true → k < j) ∧ L89_0 n (v, s, Tl s, (k : Int)) () = some (O89_0.x0 v s (Tl s) (j : Int), ()) ∧ L94_0 n (v', (k : Int), s, El s, v8) () = some (O94_0.x0 v' (j : Int) s (El s) v8, ()) := by
  have hN := N_le hs
  have stop : ∀ (m k : Nat), ¬ k < (rus s).length → L89_0 (m + 1) (v, s, Tl s, (k : Int)) () = some (O89_0.x0 v s (Tl s) (k : Int), ()) ∧ L94_0 (m + 1) (v', (k : Int), s, El s, v8) () = some (O94_0.x0 v' (k : Int) s (El s) v8, ()) := by
    intro m k h
    constructor
    · rw [L89_step, T_len, decide_eq_false (by omega), cond_false, ask_of rfl]
    · rw [L94_step, List.length_map, decide_eq_false (by omega), cond_false]
  intro d
  induction d with
  | zero =>
    intro n k hd hn hk
    obtain ⟨m, rfl⟩ : ∃ m, n = m + 1 := ⟨n - 1, by omega⟩
    obtain ⟨q1, q2⟩ := stop m k (by omega)
    exact ⟨k, Nat.le_refl _, .inl rfl, fun h => by omega, q1, q2⟩
  | succ d ih =>
    intro n k hd hn hk
    obtain ⟨m, rfl⟩ : ∃ m, n = m + 1 := ⟨n - 1, by omega⟩
    by_cases h : k < (rus s).length
    · obtain ⟨r, h1, h2, _⟩ := r_E h
      rw [L89_step, L94_step, n87_0 k _ (by omega), h1]
      simp only [Option.bind_some, ask_of (lenR _), cellR0, asI64, h2, T_len, List.length_map, spots_length, w1k (show k ≤ 300000000 by omega), n109_eq, n72_eq]
      rw [decide_eq_true (show (k : Int) < (((rus s).length : Nat) : Int) by omega), cond_true, cond_true]
      cases hb : restB (rAt s k) with
      | true =>
        rw [cond_true, cond_true, ask_of trivial]
        obtain ⟨j, q1, q2, _, q3, q4⟩ := ih m (k + 1) (by omega) (by omega) (by omega)
        exact ⟨j, by omega, .inr (by omega), fun _ _ => by omega, q3, q4⟩
      | false =>
        rw [cond_false, cond_false, ask_of trivial]
        exact ⟨k, Nat.le_refl _, .inl rfl, fun _ h => (by cases h), rfl, rfl⟩
    · obtain ⟨q1, q2⟩ := stop m k h
      exact ⟨k, Nat.le_refl _, .inl rfl, fun h' => absurd h' h, q1, q2⟩
theorem ext_app {a b c : Nat} (h1 : a ≤ b) (h2 : b ≤ c) : s.extract a b ++ s.extract b c = s.extract a c := by
  apply ByteArray.ext
  simp only [ByteArray.data_append, ByteArray.data_extract, Array.extract_append_extract, Nat.min_eq_left h1, Nat.max_eq_right h2]
theorem off_mono {k : Nat} : offAt s k ≤ offAt s (k + 1) := by
  by_cases h : k < (rus s).length
  · obtain ⟨o, _, _, h3, _, h5⟩ := ru_at h
    omega
  · unfold offAt
    rw [List.getElem?_eq_none (by omega), List.getElem?_eq_none (by omega)]
    exact Nat.le_refl _
theorem L94_2_ok (hs : s.size ≤ 67108864) (v29 : Int) (a j : Nat) (hj : j ≤ (rus s).length) : ∀ (d n k : Nat), j - k ≤ d → d < n → k ≤ j → offAt s a ≤ offAt s k → L94_2 n ((j : Int), s.extract (offAt s a) (offAt s k), (k : Int), s, El s, v29) () = some (O94_2.x0 (j : Int) (s.extract (offAt s a) (offAt s j)) s (El s) v29, ()) := by
  have hN := N_le hs
  intro d
  induction d with
  | zero =>
    intro n k hd hn hk ha
    obtain ⟨m, rfl⟩ : ∃ m, n = m + 1 := ⟨n - 1, by omega⟩
    obtain rfl : k = j := by omega
    rw [L94_2_step, decide_eq_false (by omega), cond_false]
  | succ d ih =>
    intro n k hd hn hk ha
    obtain ⟨m, rfl⟩ : ∃ m, n = m + 1 := ⟨n - 1, by omega⟩
    by_cases h : k < j
    · obtain ⟨r, h1, h2, h3, h4⟩ := r_E (s := s) (k := k) (by omega)
      have hle := off_le (s := s) (k + 1)
      have hm := off_mono (s := s) (k := k)
      have ew : w64 ((offAt s k : Int) + (r.2.2 : Int)) = ((offAt s (k + 1) : Nat) : Int) := by rw [w64_id (by omega) (by omega)]; omega
      rw [L94_2_step, decide_eq_true (by omega), cond_true, h1]
      simp only [Option.bind_some, ask_of (lenR _), cellR1, cellR2, asI64, ew, h3, w1k (show k ≤ 300000000 by omega), Int.toNat_natCast]
      rw [ask_of (show cutOk ((offAt s k : Nat) : Int) ((offAt s (k + 1) : Nat) : Int) s.size from ⟨by omega, by omega, by omega⟩), ask_of (catOk_of (by simp only [ByteArray.size_extract]; omega)), ext_app ha hm]
      exact ih m (k + 1) (by omega) (by omega) (by omega) (by omega)
    · obtain rfl : k = j := by omega
      rw [L94_2_step, decide_eq_false (by omega), cond_false]
theorem word_eq (hs : s.size ≤ 67108864) {i : Nat} (a2 : Int) (hi : i < (rus s).length) : ∃ j w, i ≤ j ∧ j ≤ (rus s).length ∧ (restB (rAt s i) = true → i < j) ∧ w.size ≤ 67108864 ∧ n89 (s, Tl s, (i : Int), (Tl s).length) = some (w, s, Tl s, (j : Int), (Tl s).length) ∧ n94 (s, El s, a2, (i : Int)) = some (w, s, El s, (j : Int)) := by
  have hN := N_le hs
  obtain ⟨j, q1, q2, q3, q4, q5⟩ := wordBoth hs (offAt s i : Int) (i : Int) a2 (rus s).length 1000000000000 i (by omega) (by omega) (by omega)
  have hj : j ≤ (rus s).length := by omega
  have hmono : ∀ t, offAt s i ≤ offAt s (i + t) := by
    intro t
    induction t with
    | zero => exact Nat.le_refl _
    | succ t iht => exact Nat.le_trans iht off_mono
  have hij : offAt s i ≤ offAt s j := by
    have := hmono (j - i)
    rwa [show i + (j - i) = j by omega] at this
  have hjs := off_le (s := s) j
  refine ⟨j, s.extract (offAt s i) (offAt s j), q1, hj, q3 hi, by simp only [ByteArray.size_extract]; omega, ?_, ?_⟩
  · show ((n88 (s, Tl s, (i : Int), (Tl s).length)).bind fun y4 => (ask (([(Tl s).length] : List Nat) = [(Tl s).length]) ((L89_0 1000000000000 (y4.1, s, Tl s, (i : Int)) ()).bind fun p15 => match p15.1 with | .x0 z16 z17 z18 z19 => ((n88 (z17, z18, z19, z18.length)).bind fun y20 => (ask (cutOk z16 y20.1 z17.size) (some ((z17.extract (Int.toNat z16) (Int.toNat y20.1)), z17, z18, z19, z18.length))))))) = _
    rw [n88_eq hs, Option.bind_some, spAt_off, ask_of rfl, q4]
    show ((n88 (s, Tl s, (j : Int), (Tl s).length)).bind fun y20 => (ask (cutOk (offAt s i : Int) y20.1 s.size) (some ((s.extract (Int.toNat (offAt s i : Int)) (Int.toNat y20.1)), s, Tl s, (j : Int), (Tl s).length)))) = _
    rw [n88_eq hs, Option.bind_some, spAt_off, ask_of ⟨by omega, by omega, by omega⟩, Int.toNat_natCast, Int.toNat_natCast]
  · have q6 := L94_2_ok hs a2 i j hj j 1000000000000 i (by omega) (by omega) q1 (Nat.le_refl _)
    have h0 : s.extract (offAt s i) (offAt s i) = (⟨#[]⟩ : ByteArray) := by
      apply ByteArray.ext; simp
    rw [h0] at q6
    show ((L94_0 1000000000000 ((i : Int), (i : Int), s, El s, a2) ()).bind fun p18 => match p18.1 with | .x0 z19 z20 z21 z22 z23 => ((L94_2 1000000000000 (z20, (⟨#[]⟩ : ByteArray), z19, z21, z22, z23) p18.2).bind fun p44 => match p44.1 with | .x0 z45 z46 z47 z48 z49 => (some (z46, z47, z48, z45)))) = _
    rw [q5]
    show ((L94_2 1000000000000 ((j : Int), (⟨#[]⟩ : ByteArray), (i : Int), s, El s, a2) ()).bind fun p44 => match p44.1 with | .x0 z45 z46 z47 z48 z49 => (some (z46, z47, z48, z45))) = _
    rw [q6]
    rfl
theorem L61_1_step (v27 : List D) (v28 : Int) (v30 : ByteArray) (v31 : List D) (v32 v33 v34 v35 v36 : Int) (v37 : ByteArray) (v38 v39 v40 v41 v42 : Int) (v43 : ByteArray) (v44 : Int) (k : Nat) (n : Nat) : L61_1 (n + 1) (v27, v28, (k : Int), v30, v31, v32, v33, v34, v35, v36, v37, v38, v39, v40, v41, v42, v43, v44) () = (bif (decide ((k : Int) < v28)) then ((lidx v27 (k : Int)).bind fun d45 => ask (d45.cells.length = 1) ((cellAt 0 d45).bind fun x46 => (asStr x46).bind fun x47 => (ask (cutOk v40 (v30.size : Int) v30.size) ((n91 ((v30.extract (Int.toNat v40) (Int.toNat (v30.size : Int))), x47)).bind fun y48 => (bif y48 then (ask (([v31.length] : List Nat) = [v31.length]) (some (O61_1.x0 0 v30 v31 (w64 (v32 + (x47.size : Int))) 4 v40 v41 v42 x47 v44 4 v40 v41 v42 x47 v44, ()))) else (ask (([v31.length] : List Nat) = [v31.length]) (L61_1 n (v27, v28, (w64 ((k : Int) + 1)), v30, v31, v32, v33, v34, v35, v36, v37, v38, v39, v40, v41, v42, v43, v44) ()))))))) else (ask (([v31.length] : List Nat) = [v31.length]) (some (O61_1.x1 v30 v31 v32 v33 v34 v35 v36 v37 v38 v39 v40 v41 v42 v43 v44, ())))) := rfl
theorem L96_step (v7 : Int) (v8 : List D) (v10 : ByteArray) (v11 : List D) (v12 : Int) (k : Nat) (n : Nat) : L96_0 (n + 1) (v7, v8, (k : Int), v10, v11, v12) () = (bif (decide ((k : Int) < ((v8.length : Nat) : Int))) then ((lidx v8 (k : Int)).bind fun d13 => ask (d13.cells.length = 1) ((cellAt 0 d13).bind fun x14 => (asStr x14).bind fun x15 => (bif (decide ((w64 (v7 + (x15.size : Int))) ≤ (v10.size : Int))) then (ask (cutOk v7 (w64 (v7 + (x15.size : Int))) v10.size) ((lidx v8 (k : Int)).bind fun d16 => ask (d16.cells.length = 1) ((cellAt 0 d16).bind fun x17 => (asStr x17).bind fun x18 => (bif (sEq (v10.extract (Int.toNat v7) (Int.toNat (w64 (v7 + (x15.size : Int))))) x18) then ((lidx v8 (k : Int)).bind fun d19 => ask (d19.cells.length = 1) ((cellAt 0 d19).bind fun x20 => (asStr x20).bind fun x21 => (some (O96_0.x0 x21 v10 v11 v12, ())))) else (L96_0 n (v7, v8, (w64 ((k : Int) + 1)), v10, v11, v12) ()))))) else (L96_0 n (v7, v8, (w64 ((k : Int) + 1)), v10, v11, v12) ())))) else (some (O96_0.x1 v10 v11 v12, ()))) := rfl
def pMs : List (List UInt8) := [[40], [41], [91], [93], [123], [125], [44], [59], [46], [43], [45], [42], [47], [37], [124], [38], [92], [61, 61], [33, 61], [60, 61], [62, 61], [60], [62], [61]]
def rMs : List (List UInt8) := [[61, 61], [33, 61], [60, 61], [62, 61], [40], [41], [91], [93], [123], [125], [44], [59], [46], [43], [45], [42], [47], [37], [124], [38], [92], [60], [62], [61]]
theorem n90_eq : n90 () = some (pMs.map encB) := by kernel_rfl
theorem n112_eq : n112 () = some (rMs.map encB) := by kernel_rfl
def preB (m : List UInt8) (b : UInt8) (c : Bool) : Bool := match m with
  | [x] => x == b
  | [x, _] => (x == b) && c
  | _ => false
def fmB (L : List (List UInt8)) (b : UInt8) (c : Bool) : Option (List UInt8) := L.find? fun m => preB m b c
def okM (m : List UInt8) : Prop := (∃ x, m = [x]) ∨ (∃ x, m = [x, 61])
theorem pMs_ok : ∀ m ∈ pMs, okM m := by
  intro m hm
  simp only [pMs, List.mem_cons, List.not_mem_nil, or_false] at hm
  unfold okM
  rcases hm with rfl | rfl | rfl | rfl | rfl | rfl | rfl | rfl | rfl | rfl | rfl | rfl | rfl | rfl | rfl | rfl | rfl | rfl | rfl | rfl | rfl | rfl | rfl | rfl <;> first | exact .inl ⟨_, rfl⟩ | exact .inr ⟨_, rfl⟩
theorem rMs_ok : ∀ m ∈ rMs, okM m := by
  intro m hm
  simp only [rMs, List.mem_cons, List.not_mem_nil, or_false] at hm
  unfold okM
  rcases hm with rfl | rfl | rfl | rfl | rfl | rfl | rfl | rfl | rfl | rfl | rfl | rfl | rfl | rfl | rfl | rfl | rfl | rfl | rfl | rfl | rfl | rfl | rfl | rfl <;> first | exact .inl ⟨_, rfl⟩ | exact .inr ⟨_, rfl⟩
theorem fm_fact : ∀ n : Nat, n < 256 → ∀ c : Bool, fmB pMs (UInt8.ofNat n) c = fmB rMs (UInt8.ofNat n) c ∧ (n = 35 ∨ 128 ≤ n → fmB pMs (UInt8.ofNat n) c = none) := by decide +kernel
theorem fm_same (b : UInt8) (c : Bool) : fmB pMs b c = fmB rMs b c := by
  have := (fm_fact b.toNat (UInt8.toNat_lt _) c).1
  rwa [UInt8.ofNat_toNat] at this
theorem fm_none {b : UInt8} (c : Bool) (h : b.toNat = 35 ∨ 128 ≤ b.toNat) : fmB pMs b c = none := by
  have := (fm_fact b.toNat (UInt8.toNat_lt _) c).2 h
  rwa [UInt8.ofNat_toNat] at this
def eqAt (s : ByteArray) (o : Nat) : Bool := (bl s)[o + 1]? == some 61
theorem head_at {s : ByteArray} {i : Nat} (hi : i < s.size) : (bl s).drop i = s.get! i :: (bl s).drop (i + 1) := by
  have hl : i < (bl s).length := by rw [← size_list]; exact hi
  rw [List.drop_eq_getElem_cons hl]
  congr 1
  rw [get_bang_eq, List.getElem?_eq_getElem hl]
  rfl
theorem pre_pref {o : Nat} (ho : o < s.size) {m : List UInt8} (hm : okM m) : m.isPrefixOf ((bl s).drop o) = preB m (s.get! o) (eqAt s o) := by
  rw [head_at ho]
  rcases hm with ⟨x, rfl⟩ | ⟨x, rfl⟩
  · simp [List.isPrefixOf, preB]
  · have hd : ((bl s).drop (o + 1))[0]? = (bl s)[o + 1]? := by simp
    unfold preB eqAt
    rw [← hd]
    cases hq : (bl s).drop (o + 1) with
    | nil => simp [List.isPrefixOf]
    | cons y t =>
      simp only [List.isPrefixOf, List.getElem?_cons_zero, Bool.and_true]
      congr 1
      rw [Bool.eq_iff_iff, beq_iff_eq, beq_iff_eq]
      constructor
      · rintro rfl; rfl
      · intro h; exact (Option.some.inj h).symm
theorem okM_len {m : List UInt8} (h : okM m) : 1 ≤ m.length ∧ m.length ≤ 2 := by
  rcases h with ⟨x, rfl⟩ | ⟨x, rfl⟩ <;> exact ⟨by simp, by simp⟩
theorem ext_all (s : ByteArray) (o : Nat) : s.extract o s.size = (⟨((bl s).drop o).toArray⟩ : ByteArray) := by
  have hsz : s.size = (bl s).length := size_list s
  rw [ext_list, hsz, List.take_length]
theorem L61_ok (hs : s.size ≤ 67108864) {o : Nat} (ho : o < s.size) (L : List (List UInt8)) (hL : L.length ≤ 100) (hok : ∀ m ∈ L, okM m) {i : Nat} (hi : i ≤ 67108868) (v33 v34 v35 v36 v38 v39 ln c v44 : Int) (v37 v43 : ByteArray) : ∀ (d n k : Nat), L.length - k ≤ d → d < n → k ≤ L.length →
    L61_1 n (L.map encB, ((L.map encB).length : Nat), (k : Int), s, Tl s, (i : Int), v33, v34, v35, v36, v37, v38, v39, (o : Int), ln, c, v43, v44) () = some (match fmB (L.drop k) (s.get! o) (eqAt s o) with
      | some m => O61_1.x0 0 s (Tl s) ((i + m.length : Nat) : Int) 4 (o : Int) ln c (⟨m.toArray⟩ : ByteArray) v44 4 (o : Int) ln c (⟨m.toArray⟩ : ByteArray) v44
      | none => O61_1.x1 s (Tl s) (i : Int) v33 v34 v35 v36 v37 v38 v39 (o : Int) ln c v43 v44, ()) := by
  intro d
  induction d with
  | zero =>
    intro n k hd hn hk
    obtain ⟨m, rfl⟩ : ∃ m, n = m + 1 := ⟨n - 1, by omega⟩
    rw [L61_1_step, List.length_map, decide_eq_false (by omega), cond_false, ask_of (by first | trivial | rfl), List.drop_eq_nil_of_le (by omega)]
    rfl
  | succ d ih =>
    intro n k hd hn hk
    obtain ⟨m, rfl⟩ : ∃ m, n = m + 1 := ⟨n - 1, by omega⟩
    by_cases h : k < L.length
    · have hm := hok L[k] (List.getElem_mem h)
      have hml := okM_len hm
      have e91 : n91 ((⟨((bl s).drop o).toArray⟩ : ByteArray), (⟨(L[k]).toArray⟩ : ByteArray)) = some (preB L[k] (s.get! o) (eqAt s o)) := by
        rw [← pre_pref ho hm]
        show some (Lib.hasPrefix (⟨((bl s).drop o).toArray⟩ : ByteArray).data.toList (⟨(L[k]).toArray⟩ : ByteArray).data.toList) = _
        rw [toList_mk, toList_mk]; rfl
      have ih' := ih m (k + 1) (by omega) (by omega) (by omega)
      rw [List.length_map] at ih'
      rw [L61_1_step, List.length_map, decide_eq_true (by omega), cond_true, lidx_map, List.getElem?_eq_getElem h, w1k (show k ≤ 300000000 by omega)]
      simp only [Option.map_some, Option.bind_some, ask_of (lenB _), cellB, asS, Int.toNat_natCast]
      rw [ask_of (show cutOk (o : Int) (s.size : Int) s.size from ⟨by omega, by omega, by omega⟩), ext_all, e91, Option.bind_some, List.drop_eq_getElem_cons h, fmB, List.find?_cons]
      cases preB L[k] (s.get! o) (eqAt s o) with
      | true =>
        rw [cond_true, ask_of (by first | trivial | rfl), size_mk, wadd (show i + (L[k]).length ≤ 400000000 by omega)]
      | false =>
        rw [cond_false, ask_of (by first | trivial | rfl), ih']
        rfl
    · rw [L61_1_step, List.length_map, decide_eq_false (by omega), cond_false, ask_of (by first | trivial | rfl), List.drop_eq_nil_of_le (by omega)]
      rfl
theorem L96_ok (hs : s.size ≤ 67108864) {o : Nat} (ho : o < s.size) (L : List (List UInt8)) (hL : L.length ≤ 100) (hok : ∀ m ∈ L, okM m) (i : Int) : ∀ (d n k : Nat), L.length - k ≤ d → d < n → k ≤ L.length →
    L96_0 n ((o : Int), L.map encB, (k : Int), s, El s, i) () = some (match fmB (L.drop k) (s.get! o) (eqAt s o) with
      | some m => O96_0.x0 (⟨m.toArray⟩ : ByteArray) s (El s) i
      | none => O96_0.x1 s (El s) i, ()) := by
  have hsz : s.size = (bl s).length := size_list s
  intro d
  induction d with
  | zero =>
    intro n k hd hn hk
    obtain ⟨m, rfl⟩ : ∃ m, n = m + 1 := ⟨n - 1, by omega⟩
    rw [L96_step, List.length_map, decide_eq_false (by omega), cond_false, List.drop_eq_nil_of_le (by omega)]
    rfl
  | succ d ih =>
    intro n k hd hn hk
    obtain ⟨m, rfl⟩ : ∃ m, n = m + 1 := ⟨n - 1, by omega⟩
    by_cases h : k < L.length
    · have hm := hok L[k] (List.getElem_mem h)
      have hml := okM_len hm
      have hp := pre_pref ho hm
      have ih' := ih m (k + 1) (by omega) (by omega) (by omega)
      rw [L96_step, List.length_map, decide_eq_true (by omega), cond_true, lidx_map, List.getElem?_eq_getElem h, w1k (show k ≤ 300000000 by omega)]
      simp only [Option.map_some, Option.bind_some, ask_of (lenB _), cellB, asS, Int.toNat_natCast, size_mk, wadd (show o + (L[k]).length ≤ 400000000 by omega)]
      rw [List.drop_eq_getElem_cons h, fmB, List.find?_cons, ← hp]
      by_cases hfit : o + (L[k]).length ≤ s.size
      · rw [decide_eq_true (by omega), cond_true, ask_of ⟨by omega, by omega, by omega⟩]
        have hse : sEq (s.extract o (o + (L[k]).length)) (⟨(L[k]).toArray⟩ : ByteArray) = (L[k]).isPrefixOf ((bl s).drop o) := by
          rw [Bool.eq_iff_iff, sEq_iff, List.isPrefixOf_iff_prefix, ext_list]
          have e1 : ((bl s).take (o + (L[k]).length)).drop o = ((bl s).drop o).take (L[k]).length := by
            rw [List.drop_take]; congr 1; omega
          rw [e1]
          constructor
          · intro hq
            have := congrArg (fun b : ByteArray => b.data.toList) hq
            simp only [List.toList_toArray] at this
            rw [← this]
            exact List.take_prefix _ _
          · intro hq
            rw [← List.prefix_iff_eq_take.1 hq]
        rw [hse]
        cases (L[k]).isPrefixOf ((bl s).drop o) with
        | true => rfl
        | false =>
          rw [cond_false, ih']
          rfl
      · have hno : (L[k]).isPrefixOf ((bl s).drop o) = false := by
          rw [Bool.eq_false_iff]
          intro hq
          have := (List.isPrefixOf_iff_prefix.1 hq).length_le
          rw [List.length_drop] at this
          omega
        rw [decide_eq_false (by omega), cond_false, hno, ih']
        rfl
    · rw [L96_step, List.length_map, decide_eq_false (by omega), cond_false, List.drop_eq_nil_of_le (by omega)]
      rfl
end Ev
set_option linter.unusedSimpArgs false
set_option linter.unusedVariables false
namespace Ev
open Go
variable {s : ByteArray}
theorem iT (hs : s.size ≤ 67108864) {i : Nat} (h : i < (rus s).length) : decide ((i : Int) ≥ (((Tl s).length : Nat) : Int)) = false := by
  rw [T_len]; exact decide_eq_false (by omega)
theorem next_end (hs : s.size ≤ 67108864) {i : Nat} (h : ¬ i < (rus s).length) (hi : i ≤ 67108868) : n61 (s, Tl s, (i : Int), (Tl s).length) = some (0, (spAt s i).1, (spAt s i).2.1, (spAt s i).2.2, (⟨#[]⟩ : ByteArray), 0, 0, s, Tl s, (i : Int), (Tl s).length) := by
  have hd : decide ((i : Int) ≥ (((Tl s).length : Nat) : Int)) = true := by rw [T_len]; exact decide_eq_true (by omega)
  simp only [n61, n88_eq hs, n87_0 i _ (show i ≤ 200000000 by omega), Option.bind_some, hd, cond_true]
def marksP (s : ByteArray) (i : Nat) : Option (Int × Int × Int × Int × ByteArray × Int × Int × ByteArray × List D × Int × Nat) := ((n90 ()).bind fun y26 => (ask (([(Tl s).length] : List Nat) = [(Tl s).length]) ((L61_1 1000000000000 (y26, ((y26.length : Nat) : Int), 0, s, Tl s, (i : Int), 0, 0, 0, 0, (⟨#[]⟩ : ByteArray), 0, 0, (spAt s i).1, (spAt s i).2.1, (spAt s i).2.2, (⟨#[]⟩ : ByteArray), 0) ()).bind fun p80 => match p80.1 with | .x0 z81 z82 z83 z84 z85 z86 z87 z88 z89 z90 z91 z92 z93 z94 z95 z96 => (some (z85, z86, z87, z88, z89, z90, z81, z82, z83, z84, z83.length)) | .x1 z97 z98 z99 z100 z101 z102 z103 z104 z105 z106 z107 z108 z109 z110 z111 => (some (z106, z107, z108, z109, z110, z111, 90, z97, z98, z99, z98.length)))))
theorem marksP_eq (hs : s.size ≤ 67108864) {i : Nat} (h : i < (rus s).length) : marksP s i = some (match fmB pMs (s.get! (offAt s i)) (eqAt s (offAt s i)) with
    | some m => (4, (spAt s i).1, (spAt s i).2.1, (spAt s i).2.2, (⟨m.toArray⟩ : ByteArray), 0, 0, s, Tl s, ((i + m.length : Nat) : Int), (Tl s).length)
    | none => (0, (spAt s i).1, (spAt s i).2.1, (spAt s i).2.2, (⟨#[]⟩ : ByteArray), 0, 90, s, Tl s, (i : Int), (Tl s).length)) := by
  have hN := N_le hs
  obtain ⟨o, _, h2, h3, _⟩ := ru_at h
  have q := L61_ok hs (o := offAt s i) (by omega) pMs (by simp [pMs]) pMs_ok (i := i) (by omega) 0 0 0 0 0 0 (spAt s i).2.1 (spAt s i).2.2 0 (⟨#[]⟩ : ByteArray) (⟨#[]⟩ : ByteArray) 100 1000000000000 0 (by simp [pMs]) (by omega) (by omega)
  rw [Int.natCast_zero, List.drop_zero] at q
  unfold marksP
  rw [n90_eq, Option.bind_some, ask_of (by first | trivial | rfl), spAt_off, q]
  cases fmB pMs (s.get! (offAt s i)) (eqAt s (offAt s i)) <;> rfl
theorem n96_eq (hs : s.size ≤ 67108864) {i : Nat} (h : i < (rus s).length) : n96 (s, El s, (i : Int)) = some (match fmB rMs (s.get! (offAt s i)) (eqAt s (offAt s i)) with
    | some m => ((⟨m.toArray⟩ : ByteArray), s, El s, (i : Int))
    | none => ((⟨#[]⟩ : ByteArray), s, El s, (i : Int))) := by
  obtain ⟨r, h1, h2, h3, _⟩ := r_E h
  obtain ⟨o, _, h5, h6, _⟩ := ru_at h
  have q := L96_ok hs (o := offAt s i) (by omega) rMs (by simp [rMs]) rMs_ok (i : Int) 100 1000000000000 0 (by simp [rMs]) (by omega) (by omega)
  rw [Int.natCast_zero, List.drop_zero] at q
  show ((lidx (El s) (i : Int)).bind fun d3 => ask (d3.cells.length = 3) ((cellAt 1 d3).bind fun x4 => (asInt .i64 x4).bind fun x5 => ((n112 ()).bind fun y6 => ((L96_0 1000000000000 (x5, y6, 0, s, El s, (i : Int)) ()).bind fun p29 => match p29.1 with | .x0 z30 z31 z32 z33 => (some (z30, z31, z32, z33)) | .x1 z38 z39 z40 => (some ((⟨#[]⟩ : ByteArray), z38, z39, z40)))))) = _
  rw [h1]
  simp only [Option.bind_some, ask_of (lenR _), cellR1, asI64, h3, n112_eq]
  rw [q]
  cases fmB rMs (s.get! (offAt s i)) (eqAt s (offAt s i)) <;> rfl
abbrev tT : ByteArray := ⟨#[116, 114, 117, 101]⟩
abbrev tF : ByteArray := ⟨#[102, 97, 108, 115, 101]⟩
theorem n93_eq {w : ByteArray} (hw : w.size ≤ 67108864) (k : Int) : n93 (k, w) = some (bif isName w then (bif k == 3 then (bif sEq w tT then (0, 0, 0, 0, (⟨#[]⟩ : ByteArray), 0, 21) else (bif sEq w tF then (0, 0, 0, 0, (⟨#[]⟩ : ByteArray), 0, 21) else (k, 0, 0, 0, w, 0, 0))) else (k, 0, 0, 0, w, 0, 0)) else (0, 0, 0, 0, (⟨#[]⟩ : ByteArray), 0, 21)) := by
  show ((n41 w).bind fun y9 => (bif (!y9) then (some (0, 0, 0, 0, (⟨#[]⟩ : ByteArray), 0, 21)) else (bif (k == 3) then (bif (sEq w tT) then (some (0, 0, 0, 0, (⟨#[]⟩ : ByteArray), 0, 21)) else (bif (sEq w tF) then (some (0, 0, 0, 0, (⟨#[]⟩ : ByteArray), 0, 21)) else (some (k, 0, 0, 0, w, 0, 0)))) else (some (k, 0, 0, 0, w, 0, 0))))) = _
  rw [n41_eq hw, Option.bind_some]
  cases isName w <;> cases (k == 3) <;> cases sEq w tT <;> cases sEq w tF <;> rfl
def Both (s : ByteArray) (i : Nat) : Prop :=
  (∃ (e a c d : Int) (b : ByteArray), e ≠ 0 ∧ n61 (s, Tl s, (i : Int), (Tl s).length) = some (a, (spAt s i).1, (spAt s i).2.1, (spAt s i).2.2, b, c, e, s, Tl s, d, (Tl s).length) ∧
    ∃ (a1 a2 a3 a4 a5 a6 : Int) (b1 : ByteArray), n64 (s, El s, (i : Int)) = some (a1, a2, a3, a4, b1, a5, e, s, El s, a6)) ∨
  (∃ (kd v : Int) (txt : ByteArray) (j : Nat), kd ≠ 0 ∧ i < j ∧ j ≤ (rus s).length + 2 ∧ n61 (s, Tl s, (i : Int), (Tl s).length) = some (kd, (spAt s i).1, (spAt s i).2.1, (spAt s i).2.2, txt, v, 0, s, Tl s, (j : Int), (Tl s).length) ∧
    n64 (s, El s, (i : Int)) = some (kd, 0, 0, 0, txt, v, 0, s, El s, (j : Int)))
theorem n64_head {i : Nat} (h : i < (rus s).length) : n64 (s, El s, (i : Int)) = (bif letB (rAt s i) then ((n94 (s, El s, (i : Int), (i : Int))).bind fun y7 => ((n93 (1, y7.1)).bind fun y8 => (some (y8.1, y8.2.1, y8.2.2.1, y8.2.2.2.1, y8.2.2.2.2.1, y8.2.2.2.2.2.1, y8.2.2.2.2.2.2, y7.2.1, y7.2.2.1, y7.2.2.2)))) else (bif (bif (decide (rAt s i ≥ 48)) then (decide (rAt s i ≤ 57)) else false) then ((n94 (s, El s, (i : Int), (i : Int))).bind fun y19 => ((n43 y19.1).bind fun y20 => (bif (y20.2 != 0) then (some (0, 0, 0, 0, (⟨#[]⟩ : ByteArray), 0, 22, y19.2.1, y19.2.2.1, y19.2.2.2)) else (some (2, 0, 0, 0, (⟨#[]⟩ : ByteArray), y20.1, 0, y19.2.1, y19.2.2.1, y19.2.2.2))))) else (bif (rAt s i == 35) then ((n95 (s, El s, (i : Int), 1)).bind fun y21 => (bif (!y21.1) then (some (0, 0, 0, 0, (⟨#[]⟩ : ByteArray), 0, 90, y21.2.1, y21.2.2.1, y21.2.2.2)) else ((n94 (y21.2.1, y21.2.2.1, y21.2.2.2, (w64 (y21.2.2.2 + 1)))).bind fun y22 => ((n93 (3, y22.1)).bind fun y23 => (some (y23.1, y23.2.1, y23.2.2.1, y23.2.2.2.1, y23.2.2.2.2.1, y23.2.2.2.2.2.1, y23.2.2.2.2.2.2, y22.2.1, y22.2.2.1, y22.2.2.2)))))) else (bif (decide (rAt s i < 0)) then (some (0, 0, 0, 0, (⟨#[]⟩ : ByteArray), 0, 90, s, El s, (i : Int))) else ((n96 (s, El s, (i : Int))).bind fun y24 => (bif (sEq y24.1 (⟨#[]⟩ : ByteArray)) then (some (0, 0, 0, 0, (⟨#[]⟩ : ByteArray), 0, 90, y24.2.1, y24.2.2.1, y24.2.2.2)) else (some (4, 0, 0, 0, y24.1, 0, 0, y24.2.1, y24.2.2.1, (w64 (y24.2.2.2 + (y24.1.size : Int))))))))))) := by
  obtain ⟨r, h1, h2, _⟩ := r_E h
  simp only [n64, h1, Option.bind_some, ask_of (lenR _), cellR0, asI64, h2, n38_eq]
theorem n61_head (hs : s.size ≤ 67108864) {i : Nat} (h : i < (rus s).length) : n61 (s, Tl s, (i : Int), (Tl s).length) = (bif letB (rAt s i) then ((n89 (s, Tl s, (i : Int), (Tl s).length)).bind fun y18 => ((n40 y18.1).bind fun y19 => (some (1, (spAt s i).1, (spAt s i).2.1, (spAt s i).2.2, y18.1, 0, y19, y18.2.1, y18.2.2.1, y18.2.2.2.1, y18.2.2.2.2)))) else (bif (bif (decide (rAt s i ≥ 48)) then (decide (rAt s i ≤ 57)) else false) then ((n89 (s, Tl s, (i : Int), (Tl s).length)).bind fun y20 => ((n42 y20.1).bind fun y21 => (some (2, (spAt s i).1, (spAt s i).2.1, (spAt s i).2.2, (⟨#[]⟩ : ByteArray), y21.1, y21.2, y20.2.1, y20.2.2.1, y20.2.2.2.1, y20.2.2.2.2)))) else (bif (rAt s i == 35) then (bif letB (rAt s (i + 1)) then ((n89 (s, Tl s, ((i + 1 : Nat) : Int), (Tl s).length)).bind fun y24 => (bif (bif (sEq y24.1 tT) then true else (sEq y24.1 tF)) then (some (3, (spAt s i).1, (spAt s i).2.1, (spAt s i).2.2, y24.1, 0, 21, y24.2.1, y24.2.2.1, y24.2.2.2.1, y24.2.2.2.2)) else ((n40 y24.1).bind fun y25 => (some (3, (spAt s i).1, (spAt s i).2.1, (spAt s i).2.2, y24.1, 0, y25, y24.2.1, y24.2.2.1, y24.2.2.2.1, y24.2.2.2.2))))) else marksP s i) else marksP s i))) := by
  have hN := N_le hs
  unfold marksP
  simp only [n61, n88_eq hs, n87_0 i _ (show i ≤ 200000000 by omega), n87_1 i _ (show i ≤ 200000000 by omega), Option.bind_some, iT hs h, cond_false, n37_eq, w1k (show i ≤ 300000000 by omega)]
  rfl
theorem digit_rest {r : Int} (h : (bif (decide (r ≥ 48)) then (decide (r ≤ 57)) else false) = true) : restB r = true := by
  unfold restB
  cases letB r with
  | true => rfl
  | false =>
    rw [cond_false]
    cases h1 : decide (r ≥ 48) with
    | false => rw [h1] at h; cases h
    | true =>
      rw [h1, cond_true] at h
      rw [cond_true, h]; rfl
theorem let_rest {r : Int} (h : letB r = true) : restB r = true := by
  unfold restB; rw [h]; rfl
theorem let35 : letB 35 = false := by decide +kernel
theorem let0 : letB 0 = false := by decide +kernel
theorem both_let (hs : s.size ≤ 67108864) {i : Nat} (h : i < (rus s).length) (hl : letB (rAt s i) = true) : Both s i := by
  have hN := N_le hs
  obtain ⟨j, w, q1, q2, q3, q4, q5, q6⟩ := word_eq hs (i : Int) h
  have q3' := q3 (let_rest hl)
  have e61 := n61_head hs h
  have e64 := n64_head h
  rw [hl, cond_true, q5, Option.bind_some] at e61
  rw [hl, cond_true, q6, Option.bind_some] at e64
  simp only [n40_eq q4, n93_eq q4, Option.bind_some] at e61 e64
  cases hn : isName w with
  | true =>
    rw [hn] at e61 e64
    exact .inr ⟨1, 0, w, j, by omega, q3', by omega, e61, e64⟩
  | false =>
    rw [hn] at e61 e64
    exact .inl ⟨21, _, _, _, _, by omega, e61, _, _, _, _, _, _, _, e64⟩
theorem both_dig (hs : s.size ≤ 67108864) {i : Nat} (h : i < (rus s).length) (hl : letB (rAt s i) = false) (hd : (bif (decide (rAt s i ≥ 48)) then (decide (rAt s i ≤ 57)) else false) = true) : Both s i := by
  have hN := N_le hs
  obtain ⟨j, w, q1, q2, q3, q4, q5, q6⟩ := word_eq hs (i : Int) h
  have q3' := q3 (digit_rest hd)
  have e61 := n61_head hs h
  have e64 := n64_head h
  obtain ⟨v, e, h1, h2⟩ := number_eq w q4
  have he : e = 0 ∨ e = 22 := by
    rcases n43_or w q4 with q | ⟨v', _, q⟩
    · rw [h2] at q; cases q; exact .inr rfl
    · rw [h2] at q; cases q; exact .inl rfl
  rw [hl, cond_false, hd, cond_true, q5, Option.bind_some] at e61
  rw [hl, cond_false, hd, cond_true, q6, Option.bind_some] at e64
  simp only [h1, h2, Option.bind_some] at e61 e64
  rcases he with rfl | rfl
  · exact .inr ⟨2, v, _, j, by omega, q3', by omega, e61, e64⟩
  · exact .inl ⟨22, _, _, _, _, by omega, e61, _, _, _, _, _, _, _, e64⟩
theorem bt_of {i : Nat} (h : i < (rus s).length) (hr : 0 ≤ rAt s i) (h2 : rAt s i < 128) : (s.get! (offAt s i)).toNat = (rAt s i).toNat := by
  obtain ⟨o, _, _, h4, h5, _⟩ := ru_at h
  rw [h5] at hr h2 ⊢
  rw [h4]
  have e : ((Utf8.decode s o).1 : Int) = rn s o := by
    unfold rn at hr ⊢
    split
    · rename_i q; rw [if_pos q] at hr; omega
    · rfl
  have := dec_small (s := s) (i := o) (by omega)
  have h6 := congrArg Prod.fst this
  simp only at h6
  show bt s o = _
  omega
theorem bt_neg {i : Nat} (h : i < (rus s).length) (hr : rAt s i < 0) : 128 ≤ (s.get! (offAt s i)).toNat := by
  obtain ⟨o, _, _, h4, h5, _⟩ := ru_at h
  rw [h5] at hr
  rw [h4]
  apply Nat.le_of_not_lt
  intro hlt
  have := dec_ascii (s := s) (i := o) hlt
  unfold rn at hr
  split at hr
  · rename_i q
    rw [this] at q
    have := congrArg Prod.fst q
    simp only at this
    have h8 : bt s o < 128 := hlt
    omega
  · omega
theorem n95_eq {i : Nat} (hi : i ≤ 67108868) : n95 (s, El s, (i : Int), 1) = some (letB (rAt s (i + 1)), s, El s, (i : Int)) := by
  show (bif (decide ((w64 ((i : Int) + 1)) < (((El s).length : Nat) : Int))) then ((lidx (El s) (w64 ((i : Int) + 1))).bind fun d4 => ask (d4.cells.length = 3) ((cellAt 0 d4).bind fun x5 => (asInt .i64 x5).bind fun x6 => ((n38 x6).bind fun y7 => (some (y7, s, El s, (i : Int)))))) else (some (false, s, El s, (i : Int)))) = _
  rw [w1k (show i ≤ 300000000 by omega), List.length_map]
  by_cases h : i + 1 < (rus s).length
  · obtain ⟨r, h1, h2, _⟩ := r_E h
    rw [decide_eq_true (by omega), cond_true, h1]
    simp only [Option.bind_some, ask_of (lenR _), cellR0, asI64, h2, n38_eq]
  · rw [decide_eq_false (by omega), cond_false]
    unfold rAt
    rw [List.getElem?_eq_none (by omega)]
    simp only [let0]
theorem both_sym (hs : s.size ≤ 67108864) {i : Nat} (h : i < (rus s).length) (h35 : rAt s i = 35) : Both s i := by
  have hN := N_le hs
  have e61 := n61_head hs h
  have e64 := n64_head h
  rw [h35, let35, cond_false, show (bif (decide ((35 : Int) ≥ 48)) then (decide ((35 : Int) ≤ 57)) else false) = false from rfl, cond_false, show ((35 : Int) == 35) = true from rfl, cond_true] at e61 e64
  rw [n95_eq (by omega), Option.bind_some] at e64
  cases hl : letB (rAt s (i + 1)) with
  | false =>
    rw [hl, cond_false, marksP_eq hs h, fm_none _ (.inl (by rw [bt_of h (by omega) (by omega), h35]; rfl))] at e61
    rw [hl] at e64
    exact .inl ⟨90, _, _, _, _, by omega, e61, _, _, _, _, _, _, _, e64⟩
  | true =>
    have h1 : i + 1 < (rus s).length := by
      apply Nat.lt_of_not_le
      intro hh
      unfold rAt at hl
      rw [List.getElem?_eq_none (by omega)] at hl
      rw [let0] at hl
      cases hl
    obtain ⟨j, w, q1, q2, q3, q4, q5, q6⟩ := word_eq hs (i : Int) h1
    have q3' := q3 (let_rest hl)
    rw [hl, cond_true, q5, Option.bind_some] at e61
    rw [hl] at e64
    simp only [Bool.not_true, cond_false, w1k (show i ≤ 300000000 by omega), q6, Option.bind_some, n93_eq q4, show ((3 : Int) == 3) = true from rfl, cond_true] at e64
    simp only [n40_eq q4, Option.bind_some] at e61
    cases ht : sEq w tT with
    | true =>
      rw [ht] at e61 e64
      cases hn : isName w <;> rw [hn] at e64 <;> exact .inl ⟨21, _, _, _, _, by omega, e61, _, _, _, _, _, _, _, e64⟩
    | false =>
      cases hf : sEq w tF with
      | true =>
        rw [ht, hf] at e61 e64
        cases hn : isName w <;> rw [hn] at e64 <;> exact .inl ⟨21, _, _, _, _, by omega, e61, _, _, _, _, _, _, _, e64⟩
      | false =>
        rw [ht, hf] at e61 e64
        cases hn : isName w with
        | true =>
          rw [hn] at e61 e64
          exact .inr ⟨3, 0, w, j, by omega, by omega, by omega, e61, e64⟩
        | false =>
          rw [hn] at e61 e64
          exact .inl ⟨21, _, _, _, _, by omega, e61, _, _, _, _, _, _, _, e64⟩
theorem both_mark (hs : s.size ≤ 67108864) {i : Nat} (h : i < (rus s).length) (hl : letB (rAt s i) = false) (hd : (bif (decide (rAt s i ≥ 48)) then (decide (rAt s i ≤ 57)) else false) = false) (h35 : rAt s i ≠ 35) : Both s i := by
  have hN := N_le hs
  have e61 := n61_head hs h
  have e64 := n64_head h
  rw [hl, cond_false, hd, cond_false, show (rAt s i == 35) = false from beq_eq_false_iff_ne.2 h35, cond_false] at e61 e64
  rw [marksP_eq hs h] at e61
  by_cases hneg : rAt s i < 0
  · rw [fm_none _ (.inr (bt_neg h hneg))] at e61
    rw [decide_eq_true hneg, cond_true] at e64
    exact .inl ⟨90, _, _, _, _, by omega, e61, _, _, _, _, _, _, _, e64⟩
  · rw [decide_eq_false hneg, cond_false, n96_eq hs h, ← fm_same, Option.bind_some] at e64
    cases hm : fmB pMs (s.get! (offAt s i)) (eqAt s (offAt s i)) with
    | none =>
      rw [hm] at e61 e64
      have h0 : sEq (⟨#[]⟩ : ByteArray) (⟨#[]⟩ : ByteArray) = true := (sEq_iff _ _).2 rfl
      simp only [h0, cond_true] at e64
      exact .inl ⟨90, _, _, _, _, by omega, e61, _, _, _, _, _, _, _, e64⟩
    | some m =>
      have hmem : m ∈ pMs := List.mem_of_find?_eq_some hm
      have hml := okM_len (pMs_ok m hmem)
      rw [hm] at e61 e64
      have hne : sEq (⟨m.toArray⟩ : ByteArray) (⟨#[]⟩ : ByteArray) = false := by
        rw [Bool.eq_false_iff]; intro hh
        have := congrArg ByteArray.size ((sEq_iff _ _).1 hh)
        rw [size_mk] at this
        exact absurd this (by show ¬ m.length = 0; omega)
      simp only [hne, cond_false, size_mk, wadd (show i + m.length ≤ 400000000 by omega)] at e64
      exact .inr ⟨4, 0, _, i + m.length, by omega, by omega, by omega, e61, e64⟩
theorem nextBoth (hs : s.size ≤ 67108864) {i : Nat} (h : i < (rus s).length) : Both s i := by
  cases hl : letB (rAt s i) with
  | true => exact both_let hs h hl
  | false =>
    cases hd : (bif (decide (rAt s i ≥ 48)) then (decide (rAt s i ≤ 57)) else false) with
    | true => exact both_dig hs h hl hd
    | false =>
      by_cases h35 : rAt s i = 35
      · exact both_sym hs h h35
      · exact both_mark hs h hl hd h35
end Ev
set_option linter.unusedSimpArgs false
set_option linter.unusedVariables false
namespace Ev
open Go
variable {s : ByteArray}
abbrev Tok := Int × (Int × Int × Int) × ByteArray × Int
def encK (t : Tok) : D := .agg [.val (.int .i64 t.1), .val (.int .i64 t.2.1.1), .val (.int .i64 t.2.1.2.1), .val (.int .i64 t.2.1.2.2), .val (.string t.2.2.1), .val (.int .i64 t.2.2.2)]
def of18 : O18_2 → List D × Int × Int × Int × Int
  | .x0 a b c d e _ _ _ _ _ _ => (a, b, c, d, e)
  | .x1 a b c d e _ _ _ _ _ => (a, b, c, d, e)
def of19 : O19_0 → List D × Int × Int × Int × Int
  | .x0 a b c d e _ _ _ _ => (a, b, c, d, e)
  | .x1 a b c d e _ _ _ _ _ => (a, b, c, d, e)
theorem L18_2_step (v20 : List D) (v21 v22 v23 v24 : Int) (v25 : ByteArray) (v26 : List D) (v27 : Int) (v28 : ByteArray) (k29 : Nat) (n : Nat) : L18_2 (n + 1) (v20, v21, v22, v23, v24, v25, v26, v27, v28, k29) () = ((n60 (v25, v26, v27, v26.length)).bind fun y30 => ((n61 (y30.1, y30.2.1, y30.2.2.1, y30.2.2.2)).bind fun y31 => (bif (y31.2.2.2.2.2.2.1 != 0) then (ask (([k29, y31.2.2.2.2.2.2.2.2.2.2, v20.length] : List Nat) = [k29, y31.2.2.2.2.2.2.2.2.1.length, v20.length]) (some (O18_2.x0 ([] : List D) y31.2.2.2.2.2.2.1 y31.2.1 y31.2.2.1 y31.2.2.2.1 y31.2.2.2.2.2.2.2.1 y31.2.2.2.2.2.2.2.2.1 y31.2.2.2.2.2.2.2.2.2.1 v28 k29 v20.length, ()))) else (ask (addOk v20.length v20 ([.agg [.val (.int .i64 y31.1), .val (.int .i64 y31.2.1), .val (.int .i64 y31.2.2.1), .val (.int .i64 y31.2.2.2.1), .val (.string y31.2.2.2.2.1), .val (.int .i64 y31.2.2.2.2.2.1)]] : List D) 6 56) (bif (y31.1 == 0) then (ask (([k29, y31.2.2.2.2.2.2.2.2.2.2, (v20.length + ([.agg [.val (.int .i64 y31.1), .val (.int .i64 y31.2.1), .val (.int .i64 y31.2.2.1), .val (.int .i64 y31.2.2.2.1), .val (.string y31.2.2.2.2.1), .val (.int .i64 y31.2.2.2.2.2.1)]] : List D).length)] : List Nat) = [k29, y31.2.2.2.2.2.2.2.2.1.length, (v20 ++ ([.agg [.val (.int .i64 y31.1), .val (.int .i64 y31.2.1), .val (.int .i64 y31.2.2.1), .val (.int .i64 y31.2.2.2.1), .val (.string y31.2.2.2.2.1), .val (.int .i64 y31.2.2.2.2.2.1)]] : List D)).length]) (some (O18_2.x1 (v20 ++ ([.agg [.val (.int .i64 y31.1), .val (.int .i64 y31.2.1), .val (.int .i64 y31.2.2.1), .val (.int .i64 y31.2.2.2.1), .val (.string y31.2.2.2.2.1), .val (.int .i64 y31.2.2.2.2.2.1)]] : List D)) 0 0 0 0 y31.2.2.2.2.2.2.2.1 y31.2.2.2.2.2.2.2.2.1 y31.2.2.2.2.2.2.2.2.2.1 v28 k29, ()))) else (ask (([k29, y31.2.2.2.2.2.2.2.2.2.2, (v20.length + ([.agg [.val (.int .i64 y31.1), .val (.int .i64 y31.2.1), .val (.int .i64 y31.2.2.1), .val (.int .i64 y31.2.2.2.1), .val (.string y31.2.2.2.2.1), .val (.int .i64 y31.2.2.2.2.2.1)]] : List D).length)] : List Nat) = [k29, y31.2.2.2.2.2.2.2.2.1.length, (v20 ++ ([.agg [.val (.int .i64 y31.1), .val (.int .i64 y31.2.1), .val (.int .i64 y31.2.2.1), .val (.int .i64 y31.2.2.2.1), .val (.string y31.2.2.2.2.1), .val (.int .i64 y31.2.2.2.2.2.1)]] : List D)).length]) (L18_2 n ((v20 ++ ([.agg [.val (.int .i64 y31.1), .val (.int .i64 y31.2.1), .val (.int .i64 y31.2.2.1), .val (.int .i64 y31.2.2.2.1), .val (.string y31.2.2.2.2.1), .val (.int .i64 y31.2.2.2.2.2.1)]] : List D)), v21, v22, v23, v24, y31.2.2.2.2.2.2.2.1, y31.2.2.2.2.2.2.2.2.1, y31.2.2.2.2.2.2.2.2.2.1, v28, k29) ()))))))) := rfl
theorem L19_step (v7 : ByteArray) (v8 : List D) (v9 v10 v11 v12 : Int) (v13 : ByteArray) (v14 : List D) (v15 : Int) (k16 : Nat) (n : Nat) : L19_0 (n + 1) (v7, v8, v9, v10, v11, v12, v13, v14, v15, k16) () = ((n62 (v13, v14, v15)).bind fun y17 => (bif (decide (y17.2.2 ≥ ((y17.2.1.length : Nat) : Int))) then ((n63 (v7, (v7.size : Int))).bind fun y18 => (ask (addOk v8.length v8 ([.agg [.val (.int .i64 0), .val (.int .i64 y18.1), .val (.int .i64 y18.2.1), .val (.int .i64 y18.2.2), .val (.string (⟨#[]⟩ : ByteArray)), .val (.int .i64 0)]] : List D) 6 56) (ask (([k16, (v8.length + ([.agg [.val (.int .i64 0), .val (.int .i64 y18.1), .val (.int .i64 y18.2.1), .val (.int .i64 y18.2.2), .val (.string (⟨#[]⟩ : ByteArray)), .val (.int .i64 0)]] : List D).length)] : List Nat) = [k16, (v8 ++ ([.agg [.val (.int .i64 0), .val (.int .i64 y18.1), .val (.int .i64 y18.2.1), .val (.int .i64 y18.2.2), .val (.string (⟨#[]⟩ : ByteArray)), .val (.int .i64 0)]] : List D)).length]) (some (O19_0.x0 (v8 ++ ([.agg [.val (.int .i64 0), .val (.int .i64 y18.1), .val (.int .i64 y18.2.1), .val (.int .i64 y18.2.2), .val (.string (⟨#[]⟩ : ByteArray)), .val (.int .i64 0)]] : List D)) 0 0 0 0 y17.1 y17.2.1 y17.2.2 k16, ()))))) else ((lidx y17.2.1 y17.2.2).bind fun d28 => ask (d28.cells.length = 3) ((cellAt 1 d28).bind fun x29 => (asInt .i64 x29).bind fun x30 => ((n64 (y17.1, y17.2.1, y17.2.2)).bind fun y31 => (bif (y31.2.2.2.2.2.2.1 != 0) then ((n63 (v7, x30)).bind fun y32 => (ask (([k16, v8.length] : List Nat) = [k16, v8.length]) (some (O19_0.x1 ([] : List D) y31.2.2.2.2.2.2.1 y32.1 y32.2.1 y32.2.2 y31.2.2.2.2.2.2.2.1 y31.2.2.2.2.2.2.2.2.1 y31.2.2.2.2.2.2.2.2.2 k16 v8.length, ())))) else ((n63 (v7, x30)).bind fun y43 => (ask (addOk v8.length v8 ([.agg [.val (.int .i64 y31.1), .val (.int .i64 y43.1), .val (.int .i64 y43.2.1), .val (.int .i64 y43.2.2), .val (.string y31.2.2.2.2.1), .val (.int .i64 y31.2.2.2.2.2.1)]] : List D) 6 56) (ask (([k16, (v8.length + ([.agg [.val (.int .i64 y31.1), .val (.int .i64 y43.1), .val (.int .i64 y43.2.1), .val (.int .i64 y43.2.2), .val (.string y31.2.2.2.2.1), .val (.int .i64 y31.2.2.2.2.2.1)]] : List D).length)] : List Nat) = [k16, (v8 ++ ([.agg [.val (.int .i64 y31.1), .val (.int .i64 y43.1), .val (.int .i64 y43.2.1), .val (.int .i64 y43.2.2), .val (.string y31.2.2.2.2.1), .val (.int .i64 y31.2.2.2.2.2.1)]] : List D)).length]) (L19_0 n (v7, (v8 ++ ([.agg [.val (.int .i64 y31.1), .val (.int .i64 y43.1), .val (.int .i64 y43.2.1), .val (.int .i64 y43.2.2), .val (.string y31.2.2.2.2.1), .val (.int .i64 y31.2.2.2.2.2.1)]] : List D)), v9, v10, v11, v12, y31.2.2.2.2.2.2.2.1, y31.2.2.2.2.2.2.2.2.1, y31.2.2.2.2.2.2.2.2.2, k16) ())))))))))) := rfl
theorem n63_eq (hs : s.size ≤ 67108864) (a : Int) : n63 (s, a) = some (atS s a) := by
  show ((n59 (s, a)).bind fun y5 => (some (y5.1, y5.2.1, y5.2.2))) = _
  rw [n59_eq hs]; rfl
theorem spAt_end {j : Nat} (h : ¬ j < (rus s).length) : spAt s j = atS s (s.size : Int) := by
  unfold spAt offAt
  rw [List.getElem?_eq_none (by omega)]
theorem addOk_K (acc : List Tok) (x : Tok) (h : acc.length ≤ 67108888) : addOk (acc.map encK).length (acc.map encK) [encK x] 6 56 := addOk_map encK 6 56 (fun _ => rfl) acc x (by unfold maxBytes; omega)
theorem scanBoth (hs : s.size ≤ 67108864) (v21 v22 v23 v24 u9 u10 u11 u12 : Int) (v28 : ByteArray) (k29 k16 : Nat) : ∀ (d n i : Nat) (acc : List Tok), (rus s).length + 3 - i ≤ d → d < n → i ≤ (rus s).length + 2 → acc.length ≤ i →
    ∃ (toks : List Tok) (f : Int × Int × Int × Int), toks.length ≤ 67108878 ∧ (∃ o, L18_2 n (acc.map encK, v21, v22, v23, v24, s, Tl s, (i : Int), v28, k29) () = some (o, ()) ∧ of18 o = (toks.map encK, f)) ∧ (∃ o, L19_0 n (s, acc.map encK, u9, u10, u11, u12, s, El s, (i : Int), k16) () = some (o, ()) ∧ of19 o = (toks.map encK, f)) := by
  have hN := N_le hs
  intro d
  induction d with
  | zero => intro n i acc hd hn hi ha; omega
  | succ d ih =>
    intro n i acc hd hn hi ha
    obtain ⟨m, rfl⟩ : ∃ m, n = m + 1 := ⟨n - 1, by omega⟩
    obtain ⟨j, q1, q2, q3, q4⟩ := n60_62 hs (k := i) (by omega)
    have hj : j ≤ (rus s).length + 2 := by omega
    rw [L18_2_step, L19_step, q3, q4, Option.bind_some, Option.bind_some]
    dsimp only
    by_cases h : j < (rus s).length
    · obtain ⟨r, h1, h2, h3, _⟩ := r_E h
      have hge : decide ((j : Int) ≥ (((El s).length : Nat) : Int)) = false := by rw [List.length_map]; exact decide_eq_false (by omega)
      rw [hge, cond_false, h1]
      simp only [Option.bind_some, ask_of (lenR _), cellR1, asI64, h3, n63_eq hs]
      rcases nextBoth hs h with ⟨e, a, c, d', b, he, e61, a1, a2, a3, a4, a5, a6, b1, e64⟩ | ⟨kd, v, txt, j', hkd, hj1, hj2, e61, e64⟩
      · rw [e61, e64, Option.bind_some, Option.bind_some]
        dsimp only
        rw [show (e != 0) = true from bne_iff_ne.2 he, cond_true, cond_true, ask_of rfl, ask_of (by first | trivial | rfl)]
        exact ⟨[], (e, (spAt s j).1, (spAt s j).2.1, (spAt s j).2.2), by simp, ⟨_, rfl, rfl⟩, ⟨_, rfl, rfl⟩⟩
      · rw [e61, e64, Option.bind_some, Option.bind_some]
        dsimp only
        rw [show ((0 : Int) != 0) = false from rfl, cond_false, cond_false, show (kd == 0) = false from beq_eq_false_iff_ne.2 hkd, cond_false]
        have hadd := addOk_K acc (kd, spAt s j, txt, v) (by omega)
        show ∃ (toks : List Tok) (f : Int × Int × Int × Int), toks.length ≤ 67108878 ∧ (∃ o, (ask (addOk (acc.map encK).length (acc.map encK) [encK (kd, spAt s j, txt, v)] 6 56) (ask (([k29, (Tl s).length, ((acc.map encK).length + ([encK (kd, spAt s j, txt, v)] : List D).length)] : List Nat) = [k29, (Tl s).length, (acc.map encK ++ [encK (kd, spAt s j, txt, v)]).length]) (L18_2 m (acc.map encK ++ [encK (kd, spAt s j, txt, v)], v21, v22, v23, v24, s, Tl s, (j' : Int), v28, k29) ()))) = some (o, ()) ∧ of18 o = (toks.map encK, f)) ∧ (∃ o, (ask (addOk (acc.map encK).length (acc.map encK) [encK (kd, spAt s j, txt, v)] 6 56) (ask (([k16, ((acc.map encK).length + ([encK (kd, spAt s j, txt, v)] : List D).length)] : List Nat) = [k16, (acc.map encK ++ [encK (kd, spAt s j, txt, v)]).length]) (L19_0 m (s, acc.map encK ++ [encK (kd, spAt s j, txt, v)], u9, u10, u11, u12, s, El s, (j' : Int), k16) ()))) = some (o, ()) ∧ of19 o = (toks.map encK, f))
        rw [ask_of hadd, ask_of hadd, ask_of (by simp), ask_of (by simp), map_snoc]
        exact ih m j' (acc ++ [(kd, spAt s j, txt, v)]) (by omega) (by omega) hj2 (by simp; omega)
    · have hge : decide ((j : Int) ≥ (((El s).length : Nat) : Int)) = true := by rw [List.length_map]; exact decide_eq_true (by omega)
      rw [hge, cond_true, next_end hs h (by omega), Option.bind_some, n63_eq hs, Option.bind_some]
      dsimp only
      have hadd := addOk_K acc (0, spAt s j, (⟨#[]⟩ : ByteArray), 0) (by omega)
      rw [show ((0 : Int) != 0) = false from rfl, cond_false, show ((0 : Int) == 0) = true from rfl, cond_true, ← spAt_end h]
      show ∃ (toks : List Tok) (f : Int × Int × Int × Int), toks.length ≤ 67108878 ∧ (∃ o, (ask (addOk (acc.map encK).length (acc.map encK) [encK (0, spAt s j, (⟨#[]⟩ : ByteArray), 0)] 6 56) (ask (([k29, (Tl s).length, ((acc.map encK).length + ([encK (0, spAt s j, (⟨#[]⟩ : ByteArray), 0)] : List D).length)] : List Nat) = [k29, (Tl s).length, (acc.map encK ++ [encK (0, spAt s j, (⟨#[]⟩ : ByteArray), 0)]).length]) (some (O18_2.x1 (acc.map encK ++ [encK (0, spAt s j, (⟨#[]⟩ : ByteArray), 0)]) 0 0 0 0 s (Tl s) (j : Int) v28 k29, ())))) = some (o, ()) ∧ of18 o = (toks.map encK, f)) ∧ (∃ o, (ask (addOk (acc.map encK).length (acc.map encK) [encK (0, spAt s j, (⟨#[]⟩ : ByteArray), 0)] 6 56) (ask (([k16, ((acc.map encK).length + ([encK (0, spAt s j, (⟨#[]⟩ : ByteArray), 0)] : List D).length)] : List Nat) = [k16, (acc.map encK ++ [encK (0, spAt s j, (⟨#[]⟩ : ByteArray), 0)]).length]) (some (O19_0.x0 (acc.map encK ++ [encK (0, spAt s j, (⟨#[]⟩ : ByteArray), 0)]) 0 0 0 0 s (El s) (j : Int) k16, ())))) = some (o, ()) ∧ of19 o = (toks.map encK, f))
      rw [ask_of hadd, ask_of hadd, ask_of (by simp), ask_of (by simp), map_snoc]
      exact ⟨acc ++ [(0, spAt s j, (⟨#[]⟩ : ByteArray), 0)], (0, 0, 0, 0), by simp; omega, ⟨_, rfl, rfl⟩, ⟨_, rfl, rfl⟩⟩
theorem L20_step (v3 v4 : List D) (k : Nat) (n : Nat) : L20_0 (n + 1) (v3, v4, (k : Int)) () = (bif (decide ((k : Int) < ((v3.length : Nat) : Int))) then ((lidx v3 (k : Int)).bind fun d6 => ask (d6.cells.length = 6) ((cellAt 0 d6).bind fun x7 => (asInt .i64 x7).bind fun x8 => ((cellAt 1 d6).bind fun x9 => (asInt .i64 x9).bind fun x10 => ((cellAt 2 d6).bind fun x11 => (asInt .i64 x11).bind fun x12 => ((cellAt 3 d6).bind fun x13 => (asInt .i64 x13).bind fun x14 => ((cellAt 4 d6).bind fun x15 => (asStr x15).bind fun x16 => ((cellAt 5 d6).bind fun x17 => (asInt .i64 x17).bind fun x18 => ((lidx v4 (k : Int)).bind fun d19 => ask (d19.cells.length = 6) ((cellAt 0 d19).bind fun x20 => (asInt .i64 x20).bind fun x21 => ((cellAt 1 d19).bind fun x22 => (asInt .i64 x22).bind fun x23 => ((cellAt 2 d19).bind fun x24 => (asInt .i64 x24).bind fun x25 => ((cellAt 3 d19).bind fun x26 => (asInt .i64 x26).bind fun x27 => ((cellAt 4 d19).bind fun x28 => (asStr x28).bind fun x29 => ((cellAt 5 d19).bind fun x30 => (asInt .i64 x30).bind fun x31 => (bif (!((x8 == x21) && (((x10 == x23) && ((x12 == x25) && ((x14 == x27) && true))) && ((sEq x16 x29) && ((x18 == x31) && true))))) then (some (O20_0.x0 false, ())) else (L20_0 n (v3, v4, (w64 ((k : Int) + 1))) ())))))))))))))))) else (some (O20_0.x1 , ()))) := rfl
theorem W18_step (a : List Sp) (v10 v11 v12 v13 v16 : Int) (k17 : Nat) (p : Sp) (h : a.length ≤ 67108865) : W18_0 (σ := Unit) () [encS p, encC p] (.inl (v10, v11, v12, v13, s, a.map encT, v16, k17), ()) = some (true, (.inl (v10, v11, v12, v13, s, (a ++ [p]).map encT, v16, k17), ())) := by
  show ask (addOk (a.map encT).length (a.map encT) [encT p] 4 32) (ask (([k17, ((a.map encT).length + ([encT p] : List D).length)] : List Nat) = [k17, (a.map encT ++ [encT p]).length]) (some (true, (Sum.inl (v10, v11, v12, v13, s, a.map encT ++ [encT p], v16, k17), ())))) = _
  rw [ask_of (addOk_map encT 4 32 (fun _ => rfl) a p (by unfold maxBytes; omega)), ask_of (by simp), map_snoc]
theorem run18 (v10 v11 v12 v13 v16 : Int) (k17 : Nat) : ∀ (l a : List Sp), a.length + l.length ≤ 67108865 → runY (W18_0 (σ := Unit) ()) l (.inl (v10, v11, v12, v13, s, a.map encT, v16, k17), ()) = some (true, (.inl (v10, v11, v12, v13, s, (a ++ l).map encT, v16, k17), ()))
  | [], a, _ => by simp [runY]
  | p :: l, a, h => by
    simp only [List.length_cons] at h
    rw [runY, W18_step a v10 v11 v12 v13 v16 k17 p (by omega), Option.bind_some, cond_true, run18 v10 v11 v12 v13 v16 k17 l (a ++ [p]) (by simp; omega), List.append_assoc]
    rfl
theorem scan_same (hs : s.size ≤ 67108864) : ∃ (toks : List Tok) (f : Int × Int × Int × Int), n18 s = some (toks.map encK, f) ∧ n19 s = some (toks.map encK, f) ∧ toks.length ≤ 67108888 := by
  have hN := N_le hs
  have hl := spots_le s
  obtain ⟨toks, f, hlen, ⟨o, h1, h2⟩, ⟨o', h3, h4⟩⟩ := scanBoth hs 0 0 0 0 0 0 0 0 s 0 0 67108868 1000000000000 0 [] (by omega) (by omega) (by omega) (by simp)
  refine ⟨toks, f, ?_, ?_, by omega⟩
  · have hr := run18 (s := s) 0 0 0 0 0 0 (spots s) [] (by simp; omega)
    rw [show (([] : List Sp).map encT) = [] from rfl, List.nil_append] at hr
    show (ask (([0, 0] : List Nat) = [0, ([] : List D).length]) ((n83 (W18_0 ()) s (Sum.inl (0, 0, 0, 0, s, ([] : List D), 0, 0), ())).bind fun p18 => match p18.2.1 with | .inl z19 => (ask (([(z19.2.2.2.2.2.2.2), (z19.2.2.2.2.2.1).length, 0] : List Nat) = [(z19.2.2.2.2.2.2.2), (z19.2.2.2.2.2.1).length, ([] : List D).length]) ((L18_2 1000000000000 (([] : List D), (z19.1), (z19.2.1), (z19.2.2.1), (z19.2.2.2.1), (z19.2.2.2.2.1), (z19.2.2.2.2.2.1), (z19.2.2.2.2.2.2.1), p18.1, (z19.2.2.2.2.2.2.2)) p18.2.2).bind fun p53 => match p53.1 with | .x0 z54 z55 z56 z57 z58 z59 z60 z61 z62 z63 z64 => (some (z54, z55, z56, z57, z58)) | .x1 z65 z66 z67 z68 z69 z70 z71 z72 z73 z74 => (some (z65, z66, z67, z68, z69)))) | .inr o75 => nomatch o75)) = _
    rw [ask_of (show ([0, 0] : List Nat) = [0, ([] : List D).length] from rfl), n83_eq _ hs, hr]
    show (ask (([0, (Tl s).length, 0] : List Nat) = [0, (Tl s).length, ([] : List D).length]) ((L18_2 1000000000000 (([] : List Tok).map encK, 0, 0, 0, 0, s, Tl s, ((0 : Nat) : Int), s, 0) ()).bind fun p53 => match p53.1 with | .x0 z54 z55 z56 z57 z58 z59 z60 z61 z62 z63 z64 => (some (z54, z55, z56, z57, z58)) | .x1 z65 z66 z67 z68 z69 z70 z71 z72 z73 z74 => (some (z65, z66, z67, z68, z69)))) = _
    rw [ask_of (show ([0, (Tl s).length, 0] : List Nat) = [0, (Tl s).length, ([] : List D).length] from rfl), h1]
    cases o <;> (simp only [of18] at h2; rw [← h2]; rfl)
  · show ((n29 s).bind fun y6 => (ask (([0, 0] : List Nat) = [0, ([] : List D).length]) ((L19_0 1000000000000 (s, ([] : List Tok).map encK, 0, 0, 0, 0, s, y6, ((0 : Nat) : Int), 0) ()).bind fun p44 => match p44.1 with | .x0 z45 z46 z47 z48 z49 z50 z51 z52 z53 => (some (z45, z46, z47, z48, z49)) | .x1 z54 z55 z56 z57 z58 z59 z60 z61 z62 z63 => (some (z54, z55, z56, z57, z58))))) = _
    rw [n29_eq hs, Option.bind_some, ask_of (show ([0, 0] : List Nat) = [0, ([] : List D).length] from rfl), h3]
    cases o' <;> (simp only [of19] at h4; rw [← h4]; rfl)
theorem cellK0 (t : Tok) : cellAt 0 (encK t) = some (.val (.int .i64 t.1)) := rfl
theorem cellK1 (t : Tok) : cellAt 1 (encK t) = some (.val (.int .i64 t.2.1.1)) := rfl
theorem cellK2 (t : Tok) : cellAt 2 (encK t) = some (.val (.int .i64 t.2.1.2.1)) := rfl
theorem cellK3 (t : Tok) : cellAt 3 (encK t) = some (.val (.int .i64 t.2.1.2.2)) := rfl
theorem cellK4 (t : Tok) : cellAt 4 (encK t) = some (.val (.string t.2.2.1)) := rfl
theorem cellK5 (t : Tok) : cellAt 5 (encK t) = some (.val (.int .i64 t.2.2.2)) := rfl
theorem lenK (t : Tok) : (encK t).cells.length = 6 := rfl
theorem L20 (l : List Tok) (hl : l.length ≤ 67108888) : ∀ (d n k : Nat), l.length - k ≤ d → d < n → k ≤ l.length → L20_0 n (l.map encK, l.map encK, (k : Int)) () = some (O20_0.x1, ()) := by
  intro d
  induction d with
  | zero =>
    intro n k hd hn hk
    obtain ⟨m, rfl⟩ : ∃ m, n = m + 1 := ⟨n - 1, by omega⟩
    rw [L20_step, List.length_map, decide_eq_false (by omega), cond_false]
  | succ d ih =>
    intro n k hd hn hk
    obtain ⟨m, rfl⟩ : ∃ m, n = m + 1 := ⟨n - 1, by omega⟩
    by_cases h : k < l.length
    · rw [L20_step, List.length_map, decide_eq_true (by omega), cond_true, lidx_map, List.getElem?_eq_getElem h, w1k (show k ≤ 300000000 by omega)]
      simp only [Option.map_some, Option.bind_some, ask_of (lenK _), cellK0, cellK1, cellK2, cellK3, cellK4, cellK5, asI64, asS, beq_self_eq_true, (sEq_iff _ _).2 rfl, Bool.and_self, Bool.not_true, cond_false]
      exact ih m (k + 1) (by omega) (by omega) (by omega)
    · rw [L20_step, List.length_map, decide_eq_false (by omega), cond_false]
theorem n20_same (l : List Tok) (hl : l.length ≤ 67108888) : n20 (l.map encK, l.map encK) = some true := by
  have := L20 l hl l.length 1000000000000 0 (by omega) (by omega) (by omega)
  show (bif ((((l.map encK).length : Nat) : Int) != (((l.map encK).length : Nat) : Int)) then (some false) else ((L20_0 1000000000000 (l.map encK, l.map encK, ((0 : Nat) : Int)) ()).bind fun p33 => match p33.1 with | .x0 z34 => (some z34) | .x1  => (some true))) = _
  rw [bne_self_eq_false, cond_false, this]
  rfl
theorem heads_true : n21 () = some true := by kernel_rfl
end Ev
