/- Plain laws: what the told functions answer, in plain Lean. -/
import Derived.Test.YtedbcbncdfjocaaDoorLt14
import Derived.Lib.DecodeNEq
import Derived.Lib.TrimU
import Derived.Lib.QuoteLoop
import Derived.Lib.ParseIntBTie
import Derived.Lib.ParseIntBCases
import Derived.Lib.RuneCountTail
import Derived.Lib.MapLaws
set_option linter.unusedSimpArgs false
set_option linter.unusedVariables false
/- Plain laws of layer 2's natives (printed by wip/lift with c14.txt as Lt14). -/
namespace Ev
open Go
theorem cond_some {α : Type} (c : Bool) (a b : α) : (bif c then some a else some b) = some (bif c then a else b) := by cases c <;> rfl
theorem cond_iff (c a b : Bool) : (bif c then a else b) = true ↔ (c = true ∧ a = true) ∨ (¬ c = true ∧ b = true) := by cases c <;> simp
/-- The program's Letter is the reference's. -/
theorem letter_eq (r : Int) : n37 r = n38 r := by
  simp only [n37, n38, n71, Option.bind_some, cond_some, Option.some.injEq]
  rw [Bool.eq_iff_iff]
  simp only [cond_iff, decide_eq_true_eq, beq_iff_eq, bne_iff_ne, ne_eq, and_true, Bool.false_eq_true, and_false, or_false]
  omega
end Ev

/- Plain laws: decimals. -/
namespace Ev
open Go
theorem wu64_id {n : Int} (h0 : 0 ≤ n) (h1 : n < 18446744073709551616) : wu64 n = n := by
  simp only [wu64, IntKind.wrap, IntKind.signed, IntKind.bits]
  simp
  omega
theorem wu8_id {n : Int} (h0 : 0 ≤ n) (h1 : n < 256) : wu8 n = n := by
  simp only [wu8, IntKind.wrap, IntKind.signed, IntKind.bits]
  simp
  omega
theorem catOk_of {a b : ByteArray} (h : a.size + b.size ≤ 9223372036854775807) : catOk a b := Nat.ble_eq_true_of_le h
theorem ask_of {p : Prop} [Decidable p] {β : Type} {x : Option β} (h : p) : ask p x = x := if_pos h
theorem nDigits_le : ∀ (k u : Nat), 1 ≤ k → u < 10 ^ k → Lib.nDigits u ≤ k
  | 0, u, h, _ => by omega
  | k + 1, u, _, h => by
    rw [Lib.nDigits]
    split
    · omega
    · have hk : 1 ≤ k := by
        rcases Nat.eq_zero_or_pos k with rfl | hk
        · simp at h; omega
        · exact hk
      have := nDigits_le k (u / 10) hk (by rw [Nat.pow_succ] at h; omega)
      omega
/-- The reference's digits of a number. -/
theorem digits_eq : ∀ (k u : Nat), 1 ≤ k → k ≤ 64 → u < 10 ^ k → u < 18446744073709551616 → n75 k (u : Int) = some ⟨(Lib.decDigits u).toArray⟩
  | 0, u, h, _, _, _ => by omega
  | k + 1, u, _, hk64, h, h64 => by
    rw [n75]
    by_cases hu : u < 10
    · rw [decide_eq_true (by omega : (u : Int) < 10), cond_true]
      have e1 : wu8 (wu64 (48 + (u : Int))) = 48 + u := by rw [wu64_id (by omega) (by omega), wu8_id (by omega) (by omega)]
      rw [e1, ask_of (by unfold byteOk; omega), Lib.decDigits_one hu]
      congr 1
    · rw [decide_eq_false (by omega : ¬ (u : Int) < 10), cond_false]
      have hk : 1 ≤ k := by
        rcases Nat.eq_zero_or_pos k with rfl | hk
        · simp at h; omega
        · exact hk
      have hpow : 10 ≤ 10 ^ k := by
        obtain ⟨m, rfl⟩ : ∃ m, k = m + 1 := ⟨k - 1, by omega⟩
        rw [Nat.pow_succ]
        have := Nat.pow_pos (n := m) (show 0 < 10 by omega)
        omega
      have h10 : u / 10 < 10 ^ k := by rw [Nat.pow_succ] at h; omega
      have e1 : wu64 ((u : Int).tdiv 10) = ((u / 10 : Nat) : Int) := by
        have : (u : Int).tdiv 10 = ((u / 10 : Nat) : Int) := by rw [Int.tdiv_eq_ediv_of_nonneg (by omega)]; omega
        rw [this, wu64_id (by omega) (by omega)]
      have e2 : (u : Int).tmod 10 = ((u % 10 : Nat) : Int) := by rw [Int.tmod_eq_emod_of_nonneg (by omega)]; omega
      rw [e1, e2, digits_eq k (u / 10) hk (by omega) h10 (by omega), Option.bind_some, digits_eq k (u % 10) hk (by omega) (by omega) (by omega), Option.bind_some]
      have s1 := Lib.decDigits_length (u / 10)
      have s2 := nDigits_le k (u / 10) hk h10
      have s3 := Lib.decDigits_length (u % 10)
      have s4 := nDigits_le k (u % 10) hk (by omega)
      rw [ask_of (catOk_of (by simp only [ByteArray.size, List.size_toArray]; omega))]
      conv => rhs; rw [Lib.decDigits, dif_neg hu]
      rw [Lib.decDigits_one (show u % 10 < 10 by omega)]
      congr 1
      try (apply ByteArray.ext; simp)
theorem w64_id {n : Int} (h0 : -9223372036854775808 ≤ n) (h1 : n ≤ 9223372036854775807) : w64 n = n := by
  simp only [w64, IntKind.wrap, IntKind.signed, IntKind.bits]
  simp
  omega
theorem digits64 {u : Nat} (h : u < 18446744073709551616) : n75 64 (u : Int) = some ⟨(Lib.decDigits u).toArray⟩ :=
  digits_eq 64 u (by omega) (Nat.le_refl _) (Nat.lt_of_lt_of_le h (by decide)) h
/-- The program's Decimal of a number, and the reference's. -/
theorem decimal_prog {n : Int} (h0 : -9223372036854775808 ≤ n) (h1 : n ≤ 9223372036854775807) : n44 n = some ⟨(Lib.itoa n).toArray⟩ := by
  have : (10 : Int) = 10 ∧ i64Ok n := ⟨rfl, Nat.ble_eq_true_of_le (by omega), Nat.ble_eq_true_of_le (by omega)⟩
  show (ask ((10 : Int) = 10 ∧ i64Ok n) (some (⟨(Lib.itoa n).toArray⟩ : ByteArray))).bind (fun y => some y) = _
  rw [ask_of this, Option.bind_some]
theorem decimal_ref {n : Int} (h0 : -9223372036854775808 ≤ n) (h1 : n ≤ 9223372036854775807) : n45 n = some ⟨(Lib.itoa n).toArray⟩ := by
  simp only [n45]
  by_cases hn : n < 0
  · rw [decide_eq_true hn, cond_true, w64_id (n := n + 1) (by omega) (by omega), w64_id (n := 0 - (n + 1)) (by omega) (by omega), wu64_id (n := 0 - (n + 1)) (by omega) (by omega), wu64_id (by omega) (by omega)]
    have e : 0 - (n + 1) + 1 = ((n.natAbs : Nat) : Int) := by omega
    have hb : n.natAbs < 18446744073709551616 := by omega
    rw [e, digits64 hb, Option.bind_some]
    have s1 := Lib.decDigits_length n.natAbs
    have s2 := nDigits_le 20 n.natAbs (by omega) (by omega)
    rw [ask_of (catOk_of (by simp only [ByteArray.size, List.size_toArray]; simp; omega))]
    unfold Lib.itoa
    rw [if_pos hn]
    congr 1
    try (apply ByteArray.ext; simp)
  · rw [decide_eq_false hn, cond_false, wu64_id (by omega) (by omega)]
    have e : n = ((n.toNat : Nat) : Int) := by omega
    rw [e, digits64 (by omega), Option.bind_some, ← e]
    unfold Lib.itoa
    rw [if_neg hn]
end Ev

/- Plain laws: blanks; the reference's bytes behind a lead. -/
namespace Ev
open Go
theorem blank_eq (r : Int) : n69 r = n70 r := by
  simp only [n69, n70, cond_some, Option.some.injEq]
theorem sidx_nat (s : ByteArray) (i : Nat) : sidx s (i : Int) = s[i]? := by
  unfold sidx
  rw [if_pos (by omega), Int.toNat_natCast]
theorem cont_eq (s : ByteArray) (i : Nat) (lo hi : Int) : n98 (s, (i : Int), lo, hi) = some (match s[i]? with | some c => decide (lo ≤ (c.toNat : Int)) && decide ((c.toNat : Int) ≤ hi) | none => false) := by
  simp only [n98, sidx_nat]
  cases hc : s[i]? with
  | none =>
    have : ¬ i < s.size := fun h => by rw [getElem?_pos s i h] at hc; cases hc
    rw [decide_eq_false (by omega : ¬ (i : Int) < (s.size : Int)), cond_false]
  | some c =>
    have : i < s.size := by
      rcases Nat.lt_or_ge i s.size with h | h
      · exact h
      · rw [getElem?_neg s i (by omega)] at hc; cases hc
    rw [decide_eq_true (by omega : (i : Int) < (s.size : Int)), cond_true, Option.bind_some, Option.bind_some]
    by_cases h : lo ≤ (c.toNat : Int)
    · simp [h]
    · simp [h]
end Ev

/- Plain laws: the reference's rune at a place is Go's. -/
set_option linter.unusedSimpArgs false
set_option linter.unusedVariables false
namespace Ev
open Go

theorem and_facts : ∀ n : Nat, n < 256 → bAnd .u8 n 31 = ((n % 32 : Nat) : Int) ∧ bAnd .u8 n 15 = ((n % 16 : Nat) : Int) ∧ bAnd .u8 n 7 = ((n % 8 : Nat) : Int) ∧ bAnd .u8 n 63 = ((n % 64 : Nat) : Int) := by decide +kernel
theorem bOr_add {k a b : Nat} (hb : b < 2 ^ k) (h : 2 ^ k * a + b < 9223372036854775808) : bOr .i64 ((2 ^ k * a : Nat) : Int) (b : Int) = ((2 ^ k * a + b : Nat) : Int) := by
  have h1 : (BitVec.ofInt 64 ((2 ^ k * a : Nat) : Int)) = BitVec.ofNat 64 (2 ^ k * a) := BitVec.ofInt_natCast ..
  have h2 : (BitVec.ofInt 64 (b : Int)) = BitVec.ofNat 64 b := BitVec.ofInt_natCast ..
  show w64 (((BitVec.ofInt 64 ((2 ^ k * a : Nat) : Int)) ||| (BitVec.ofInt 64 (b : Int))).toNat : Int) = _
  rw [h1, h2, BitVec.toNat_or, BitVec.toNat_ofNat, BitVec.toNat_ofNat, Nat.mod_eq_of_lt (by omega), Nat.mod_eq_of_lt (by omega), ← Nat.two_pow_add_eq_or_of_lt hb, w64_id (by omega) (by omega)]

/-- A rune, -1 where it is broken; how many bytes it has. -/
def rn (s : ByteArray) (i : Nat) : Int := if Utf8.decode s i = (65533, 1) then -1 else ((Utf8.decode s i).1 : Int)
def wd (s : ByteArray) (i : Nat) : Nat := (Utf8.decode s i).2

section
variable {s : ByteArray} {i : Nat}
abbrev bt (s : ByteArray) (k : Nat) : Nat := (s.get! k).toNat
theorem get_bang {k : Nat} (h : k < s.size) : s[k]? = some (s.get! k) := by
  rw [getElem?_pos s k h]
  congr 1
  simp [ByteArray.get!, h]
  rfl
theorem bt_lt (k : Nat) : bt s k < 256 := UInt8.toNat_lt _
theorem cont_at (k : Nat) (lo hi : Int) : n98 (s, ((i + k : Nat) : Int), lo, hi) = some (decide (k < s.size - i ∧ lo ≤ (bt s (i + k) : Int) ∧ (bt s (i + k) : Int) ≤ hi)) := by
  rw [cont_eq]
  by_cases h : i + k < s.size
  · rw [get_bang h]
    congr 1
    have : k < s.size - i := by omega
    simp [this]
  · rw [getElem?_neg s (i + k) (by omega)]
    congr 1
    have : ¬ k < s.size - i := by omega
    simp [this]
theorem sidx_at {k : Nat} (h : k < s.size - i) : sidx s ((i + k : Nat) : Int) = some (s.get! (i + k)) := by
  rw [sidx_nat, get_bang (by omega)]

theorem w_and31 (k : Nat) : w64 (bAnd .u8 (((s.get! k).toNat : Nat) : Int) 31) = ((bt s k % 32 : Nat) : Int) := by
  rw [(and_facts _ (bt_lt k)).1, w64_id (by omega) (by omega)]
theorem w_and15 (k : Nat) : w64 (bAnd .u8 (((s.get! k).toNat : Nat) : Int) 15) = ((bt s k % 16 : Nat) : Int) := by
  rw [(and_facts _ (bt_lt k)).2.1, w64_id (by omega) (by omega)]
theorem w_and7 (k : Nat) : w64 (bAnd .u8 (((s.get! k).toNat : Nat) : Int) 7) = ((bt s k % 8 : Nat) : Int) := by
  rw [(and_facts _ (bt_lt k)).2.2.1, w64_id (by omega) (by omega)]
theorem w_and63 (k : Nat) : w64 (bAnd .u8 (((s.get! k).toNat : Nat) : Int) 63) = ((bt s k % 64 : Nat) : Int) := by
  rw [(and_facts _ (bt_lt k)).2.2.2, w64_id (by omega) (by omega)]
theorem w_mul {a m : Nat} (h : a * m < 9223372036854775808) : w64 ((a : Int) * (m : Int)) = ((a * m : Nat) : Int) := by
  rw [w64_id (by omega) (by omega)]; omega
/-- Two bytes put together, three, four. -/
theorem put2 (j k : Nat) : bOr .i64 (w64 ((w64 (bAnd .u8 ((s.get! j).toNat : Int) 31)) * 2 ^ (min (Int.toNat 6) 64))) (w64 (bAnd .u8 ((s.get! k).toNat : Int) 63)) = ((bt s j % 32 * 64 + bt s k % 64 : Nat) : Int) := by
  rw [w_and31, w_and63, show ((2 : Int) ^ (min (Int.toNat 6) 64)) = ((64 : Nat) : Int) from rfl, w_mul (by omega)]
  have := bOr_add (k := 6) (a := bt s j % 32) (b := bt s k % 64) (by omega) (by omega)
  rw [show bt s j % 32 * 64 = 2 ^ 6 * (bt s j % 32) by omega, this]
theorem put3 (j k l : Nat) : bOr .i64 (bOr .i64 (w64 ((w64 (bAnd .u8 ((s.get! j).toNat : Int) 15)) * 2 ^ (min (Int.toNat 12) 64))) (w64 ((w64 (bAnd .u8 ((s.get! k).toNat : Int) 63)) * 2 ^ (min (Int.toNat 6) 64)))) (w64 (bAnd .u8 ((s.get! l).toNat : Int) 63)) = ((bt s j % 16 * 4096 + bt s k % 64 * 64 + bt s l % 64 : Nat) : Int) := by
  rw [w_and15, w_and63, w_and63, show ((2 : Int) ^ (min (Int.toNat 12) 64)) = ((4096 : Nat) : Int) from rfl, show ((2 : Int) ^ (min (Int.toNat 6) 64)) = ((64 : Nat) : Int) from rfl, w_mul (by omega), w_mul (by omega)]
  have h1 := bOr_add (k := 12) (a := bt s j % 16) (b := bt s k % 64 * 64) (by omega) (by omega)
  rw [show bt s j % 16 * 4096 = 2 ^ 12 * (bt s j % 16) by omega, h1]
  have h2 := bOr_add (k := 6) (a := bt s j % 16 * 64 + bt s k % 64) (b := bt s l % 64) (by omega) (by omega)
  rw [show 2 ^ 12 * (bt s j % 16) + bt s k % 64 * 64 = 2 ^ 6 * (bt s j % 16 * 64 + bt s k % 64) by omega, h2]
theorem put4 (j k l m : Nat) : bOr .i64 (bOr .i64 (bOr .i64 (w64 ((w64 (bAnd .u8 ((s.get! j).toNat : Int) 7)) * 2 ^ (min (Int.toNat 18) 64))) (w64 ((w64 (bAnd .u8 ((s.get! k).toNat : Int) 63)) * 2 ^ (min (Int.toNat 12) 64)))) (w64 ((w64 (bAnd .u8 ((s.get! l).toNat : Int) 63)) * 2 ^ (min (Int.toNat 6) 64)))) (w64 (bAnd .u8 ((s.get! m).toNat : Int) 63)) = ((bt s j % 8 * 262144 + bt s k % 64 * 4096 + bt s l % 64 * 64 + bt s m % 64 : Nat) : Int) := by
  rw [w_and7, w_and63, w_and63, w_and63, show ((2 : Int) ^ (min (Int.toNat 18) 64)) = ((262144 : Nat) : Int) from rfl, show ((2 : Int) ^ (min (Int.toNat 12) 64)) = ((4096 : Nat) : Int) from rfl, show ((2 : Int) ^ (min (Int.toNat 6) 64)) = ((64 : Nat) : Int) from rfl, w_mul (by omega), w_mul (by omega), w_mul (by omega)]
  have h1 := bOr_add (k := 18) (a := bt s j % 8) (b := bt s k % 64 * 4096) (by omega) (by omega)
  rw [show bt s j % 8 * 262144 = 2 ^ 18 * (bt s j % 8) by omega, h1]
  have h2 := bOr_add (k := 12) (a := bt s j % 8 * 64 + bt s k % 64) (b := bt s l % 64 * 64) (by omega) (by omega)
  rw [show 2 ^ 18 * (bt s j % 8) + bt s k % 64 * 4096 = 2 ^ 12 * (bt s j % 8 * 64 + bt s k % 64) by omega, h2]
  have h3 := bOr_add (k := 6) (a := bt s j % 8 * 4096 + bt s k % 64 * 64 + bt s l % 64) (b := bt s m % 64) (by omega) (by omega)
  rw [show 2 ^ 12 * (bt s j % 8 * 64 + bt s k % 64) + bt s l % 64 * 64 = 2 ^ 6 * (bt s j % 8 * 4096 + bt s k % 64 * 64 + bt s l % 64) by omega, h3]
/-- The tail of the table: what is asked of the bytes behind, and what comes of them. -/
def tail2 (s : ByteArray) (i : Nat) (lo hi : Int) : Option (Int × Int × Int) := (n98 (s, (w64 ((i : Int) + 1)), lo, hi)).bind fun y6 => (bif y6 then ((sidx s (w64 ((i : Int) + 1))).bind fun c7 => (some ((bOr .i64 (w64 ((w64 (bAnd .u8 ((s.get! i).toNat : Int) 31)) * 2 ^ (min (Int.toNat 6) 64))) (w64 (bAnd .u8 (c7.toNat : Int) 63))), (i : Int), 2))) else (some ((-1), (i : Int), 1)))
def tail3 (s : ByteArray) (i : Nat) (lo hi : Int) : Option (Int × Int × Int) := (n98 (s, (w64 ((i : Int) + 1)), lo, hi)).bind fun y8 => (bif y8 then ((n98 (s, (w64 ((i : Int) + 2)), 128, 191)).bind fun y9 => (bif y9 then ((sidx s (w64 ((i : Int) + 1))).bind fun c10 => ((sidx s (w64 ((i : Int) + 2))).bind fun c11 => (some ((bOr .i64 (bOr .i64 (w64 ((w64 (bAnd .u8 ((s.get! i).toNat : Int) 15)) * 2 ^ (min (Int.toNat 12) 64))) (w64 ((w64 (bAnd .u8 (c10.toNat : Int) 63)) * 2 ^ (min (Int.toNat 6) 64)))) (w64 (bAnd .u8 (c11.toNat : Int) 63))), (i : Int), 3)))) else (some ((-1), (i : Int), 1)))) else (some ((-1), (i : Int), 1)))
def tail4 (s : ByteArray) (i : Nat) (lo hi : Int) : Option (Int × Int × Int) := (n98 (s, (w64 ((i : Int) + 1)), lo, hi)).bind fun y24 => (bif y24 then ((n98 (s, (w64 ((i : Int) + 2)), 128, 191)).bind fun y25 => (bif y25 then ((n98 (s, (w64 ((i : Int) + 3)), 128, 191)).bind fun y26 => (bif y26 then ((sidx s (w64 ((i : Int) + 1))).bind fun c27 => ((sidx s (w64 ((i : Int) + 2))).bind fun c28 => ((sidx s (w64 ((i : Int) + 3))).bind fun c29 => (some ((bOr .i64 (bOr .i64 (bOr .i64 (w64 ((w64 (bAnd .u8 ((s.get! i).toNat : Int) 7)) * 2 ^ (min (Int.toNat 18) 64))) (w64 ((w64 (bAnd .u8 (c27.toNat : Int) 63)) * 2 ^ (min (Int.toNat 12) 64)))) (w64 ((w64 (bAnd .u8 (c28.toNat : Int) 63)) * 2 ^ (min (Int.toNat 6) 64)))) (w64 (bAnd .u8 (c29.toNat : Int) 63))), (i : Int), 4))))) else (some ((-1), (i : Int), 1)))) else (some ((-1), (i : Int), 1)))) else (some ((-1), (i : Int), 1)))
/-- What Go's decoding gives, put as the reference does. -/
def asRef (p : Nat × Nat) (i : Nat) : Int × Int × Int := (if p = (65533, 1) then -1 else (p.1 : Int), (i : Int), (p.2 : Int))
variable (hs : s.size ≤ 1048576) (hi : i < s.size)
include hs hi
theorem next1 : w64 ((i : Int) + 1) = ((i + 1 : Nat) : Int) := by rw [w64_id (by omega) (by omega)]; omega
theorem next2 : w64 ((i : Int) + 2) = ((i + 2 : Nat) : Int) := by rw [w64_id (by omega) (by omega)]; omega
theorem next3 : w64 ((i : Int) + 3) = ((i + 3 : Nat) : Int) := by rw [w64_id (by omega) (by omega)]; omega
theorem tail2_eq (lo hi' : Nat) : tail2 s i lo hi' = some (asRef (Lib.slowN (s.size - i) (bt s i) (bt s (i + 1)) (bt s (i + 2)) (bt s (i + 3)) 2 lo hi') i) := by
  unfold tail2
  rw [next1 hs hi, cont_at, Option.bind_some]
  by_cases h : 1 < s.size - i ∧ (lo : Int) ≤ (bt s (i + 1) : Int) ∧ (bt s (i + 1) : Int) ≤ (hi' : Int)
  · rw [decide_eq_true h, cond_true, sidx_at h.1, Option.bind_some, put2]
    have e : Lib.slowN (s.size - i) (bt s i) (bt s (i + 1)) (bt s (i + 2)) (bt s (i + 3)) 2 lo hi' = (bt s i % 32 * 64 + bt s (i + 1) % 64, 2) := by
      unfold Lib.slowN; rw [if_neg (by omega), if_neg (by omega), if_pos (by omega)]
    rw [e, asRef, if_neg (by simp)]
    rfl
  · rw [decide_eq_false h, cond_false]
    have e : Lib.slowN (s.size - i) (bt s i) (bt s (i + 1)) (bt s (i + 2)) (bt s (i + 3)) 2 lo hi' = (65533, 1) := by
      unfold Lib.slowN
      by_cases h1 : s.size - i < 2
      · rw [if_pos h1]
      · rw [if_neg h1, if_pos (by omega)]
    rw [e]; rfl
theorem tail3_eq (lo hi' : Nat) : tail3 s i lo hi' = some (asRef (Lib.slowN (s.size - i) (bt s i) (bt s (i + 1)) (bt s (i + 2)) (bt s (i + 3)) 3 lo hi') i) := by
  unfold tail3
  rw [next1 hs hi, next2 hs hi, cont_at, cont_at, Option.bind_some]
  by_cases h : 1 < s.size - i ∧ (lo : Int) ≤ (bt s (i + 1) : Int) ∧ (bt s (i + 1) : Int) ≤ (hi' : Int)
  · rw [decide_eq_true h, cond_true, Option.bind_some]
    by_cases h2 : 2 < s.size - i ∧ (128 : Int) ≤ (bt s (i + 2) : Int) ∧ (bt s (i + 2) : Int) ≤ 191
    · rw [decide_eq_true h2, cond_true, sidx_at h.1, Option.bind_some, sidx_at h2.1, Option.bind_some, put3]
      have e : Lib.slowN (s.size - i) (bt s i) (bt s (i + 1)) (bt s (i + 2)) (bt s (i + 3)) 3 lo hi' = (bt s i % 16 * 4096 + bt s (i + 1) % 64 * 64 + bt s (i + 2) % 64, 3) := by
        unfold Lib.slowN; rw [if_neg (by omega), if_neg (by omega), if_neg (by omega), if_neg (by omega), if_pos (by omega)]
      rw [e, asRef, if_neg (by simp)]
      rfl
    · rw [decide_eq_false h2, cond_false]
      have e : Lib.slowN (s.size - i) (bt s i) (bt s (i + 1)) (bt s (i + 2)) (bt s (i + 3)) 3 lo hi' = (65533, 1) := by
        unfold Lib.slowN
        by_cases h1 : s.size - i < 3
        · rw [if_pos h1]
        · rw [if_neg h1, if_neg (by omega), if_neg (by omega), if_pos (by omega)]
      rw [e]; rfl
  · rw [decide_eq_false h, cond_false]
    have e : Lib.slowN (s.size - i) (bt s i) (bt s (i + 1)) (bt s (i + 2)) (bt s (i + 3)) 3 lo hi' = (65533, 1) := by
      unfold Lib.slowN
      by_cases h1 : s.size - i < 3
      · rw [if_pos h1]
      · rw [if_neg h1, if_pos (by omega)]
    rw [e]; rfl
theorem tail4_eq (lo hi' : Nat) : tail4 s i lo hi' = some (asRef (Lib.slowN (s.size - i) (bt s i) (bt s (i + 1)) (bt s (i + 2)) (bt s (i + 3)) 4 lo hi') i) := by
  unfold tail4
  rw [next1 hs hi, next2 hs hi, next3 hs hi, cont_at, cont_at, cont_at, Option.bind_some]
  by_cases h : 1 < s.size - i ∧ (lo : Int) ≤ (bt s (i + 1) : Int) ∧ (bt s (i + 1) : Int) ≤ (hi' : Int)
  · rw [decide_eq_true h, cond_true, Option.bind_some]
    by_cases h2 : 2 < s.size - i ∧ (128 : Int) ≤ (bt s (i + 2) : Int) ∧ (bt s (i + 2) : Int) ≤ 191
    · rw [decide_eq_true h2, cond_true, Option.bind_some]
      by_cases h3 : 3 < s.size - i ∧ (128 : Int) ≤ (bt s (i + 3) : Int) ∧ (bt s (i + 3) : Int) ≤ 191
      · rw [decide_eq_true h3, cond_true, sidx_at h.1, Option.bind_some, sidx_at h2.1, Option.bind_some, sidx_at h3.1, Option.bind_some, put4]
        have e : Lib.slowN (s.size - i) (bt s i) (bt s (i + 1)) (bt s (i + 2)) (bt s (i + 3)) 4 lo hi' = (bt s i % 8 * 262144 + bt s (i + 1) % 64 * 4096 + bt s (i + 2) % 64 * 64 + bt s (i + 3) % 64, 4) := by
          unfold Lib.slowN; rw [if_neg (by omega), if_neg (by omega), if_neg (by omega), if_neg (by omega), if_neg (by omega), if_neg (by omega)]
        rw [e, asRef, if_neg (by simp)]
        rfl
      · rw [decide_eq_false h3, cond_false]
        have e : Lib.slowN (s.size - i) (bt s i) (bt s (i + 1)) (bt s (i + 2)) (bt s (i + 3)) 4 lo hi' = (65533, 1) := by
          unfold Lib.slowN
          by_cases h1 : s.size - i < 4
          · rw [if_pos h1]
          · rw [if_neg h1, if_neg (by omega), if_neg (by omega), if_neg (by omega), if_neg (by omega), if_pos (by omega)]
        rw [e]; rfl
    · rw [decide_eq_false h2, cond_false]
      have e : Lib.slowN (s.size - i) (bt s i) (bt s (i + 1)) (bt s (i + 2)) (bt s (i + 3)) 4 lo hi' = (65533, 1) := by
        unfold Lib.slowN
        by_cases h1 : s.size - i < 4
        · rw [if_pos h1]
        · rw [if_neg h1, if_neg (by omega), if_neg (by omega), if_pos (by omega)]
      rw [e]; rfl
  · rw [decide_eq_false h, cond_false]
    have e : Lib.slowN (s.size - i) (bt s i) (bt s (i + 1)) (bt s (i + 2)) (bt s (i + 3)) 4 lo hi' = (65533, 1) := by
      unfold Lib.slowN
      by_cases h1 : s.size - i < 4
      · rw [if_pos h1]
      · rw [if_neg h1, if_pos (by omega)]
    rw [e]; rfl

omit hs hi in
theorem n67_eq (c5 : UInt8) (hc : sidx s (i : Int) = some c5) (hg : s.get! i = c5) : n67 (s, (i : Int)) = (bif (decide ((c5.toNat : Int) < 128)) then (some ((w64 (c5.toNat : Int)), (i : Int), 1)) else (bif (bif (decide ((c5.toNat : Int) ≥ 194)) then (decide ((c5.toNat : Int) ≤ 223)) else false) then tail2 s i 128 191 else (bif (bif (decide ((c5.toNat : Int) ≥ 224)) then (decide ((c5.toNat : Int) ≤ 239)) else false) then (bif ((c5.toNat : Int) == 224) then (bif ((c5.toNat : Int) == 237) then tail3 s i 160 159 else tail3 s i 160 191) else (bif ((c5.toNat : Int) == 237) then tail3 s i 128 159 else tail3 s i 128 191)) else (bif (bif (decide ((c5.toNat : Int) ≥ 240)) then (decide ((c5.toNat : Int) ≤ 244)) else false) then (bif ((c5.toNat : Int) == 240) then (bif ((c5.toNat : Int) == 244) then tail4 s i 144 143 else tail4 s i 144 191) else (bif ((c5.toNat : Int) == 244) then tail4 s i 128 143 else tail4 s i 128 191)) else (some ((-1), (i : Int), 1)))))) := by
  subst hg
  simp only [n67, hc, Option.bind_some]
  rfl
/-- ████ The reference's rune at a place is Go's. -/
theorem one_eq : n67 (s, (i : Int)) = some (asRef (Utf8.decode s i) i) := by
  have hg := get_bang (s := s) hi
  have hsx : sidx s (i : Int) = some (s.get! i) := by rw [sidx_nat, hg]
  rw [n67_eq _ hsx rfl, Lib.decode_at]
  have hb := bt_lt (s := s) i
  have h1 := bt_lt (s := s) (i + 1)
  have h2 := bt_lt (s := s) (i + 2)
  have h3 := bt_lt (s := s) (i + 3)
  have hn : 1 ≤ s.size - i := by omega
  have t2 := tail2_eq hs hi 128 191
  have t3a := tail3_eq hs hi 160 191
  have t3b := tail3_eq hs hi 128 159
  have t3c := tail3_eq hs hi 128 191
  have t4a := tail4_eq hs hi 144 191
  have t4b := tail4_eq hs hi 128 143
  have t4c := tail4_eq hs hi 128 191
  rw [show (((128 : Nat) : Int)) = 128 from rfl, show (((191 : Nat) : Int)) = 191 from rfl] at t2 t3c t4c
  rw [show (((160 : Nat) : Int)) = 160 from rfl, show (((191 : Nat) : Int)) = 191 from rfl] at t3a
  rw [show (((128 : Nat) : Int)) = 128 from rfl, show (((159 : Nat) : Int)) = 159 from rfl] at t3b
  rw [show (((144 : Nat) : Int)) = 144 from rfl, show (((191 : Nat) : Int)) = 191 from rfl] at t4a
  rw [show (((128 : Nat) : Int)) = 128 from rfl, show (((143 : Nat) : Int)) = 143 from rfl] at t4b
  have F : ∀ {p : Prop} [Decidable p], ¬ p → decide p = false := fun h => decide_eq_false h
  have T : ∀ {p : Prop} [Decidable p], p → decide p = true := fun h => decide_eq_true h
  have E0 : ∀ {z : Int}, ((bt s i : Nat) : Int) ≠ z → (((bt s i : Nat) : Int) == z) = false := fun h => beq_eq_false_iff_ne.2 h
  have E1 : ∀ {z : Int}, ((bt s i : Nat) : Int) = z → (((bt s i : Nat) : Int) == z) = true := fun h => beq_iff_eq.2 h
  by_cases c0 : bt s i < 128
  · rw [T (show ((bt s i : Nat) : Int) < 128 by omega), cond_true, Lib.ascii_eq _ _ _ _ _ (by unfold Lib.firstT; rw [if_pos c0])]
    have h0 : bt s i ≠ 65533 := by omega
    have hw : w64 (((s.get! i).toNat : Nat) : Int) = ((bt s i : Nat) : Int) := w64_id (n := ((bt s i : Nat) : Int)) (by omega) (by omega)
    rw [asRef, if_neg (fun h => h0 (congrArg Prod.fst h)), hw]
    rfl
  rw [F (show ¬ ((bt s i : Nat) : Int) < 128 by omega), cond_false]
  by_cases c1 : bt s i < 194
  · rw [F (show ¬ ((bt s i : Nat) : Int) ≥ 194 by omega), cond_false, cond_false, F (show ¬ ((bt s i : Nat) : Int) ≥ 224 by omega), cond_false, cond_false, F (show ¬ ((bt s i : Nat) : Int) ≥ 240 by omega), cond_false, cond_false,
      Lib.bad_eq _ _ _ _ _ hb (by unfold Lib.firstT; rw [if_neg c0, if_pos c1])]
    rfl
  rw [T (show ((bt s i : Nat) : Int) ≥ 194 by omega), cond_true]
  by_cases c2 : bt s i < 224
  · rw [T (show ((bt s i : Nat) : Int) ≤ 223 by omega), cond_true, t2, Lib.slow_C2 _ _ _ _ _ hn h1 h2 h3 ⟨by omega, c2⟩]
  rw [F (show ¬ ((bt s i : Nat) : Int) ≤ 223 by omega), cond_false, T (show ((bt s i : Nat) : Int) ≥ 224 by omega), cond_true]
  by_cases c3 : bt s i < 240
  · rw [T (show ((bt s i : Nat) : Int) ≤ 239 by omega), cond_true]
    by_cases d1 : bt s i = 224
    · rw [E1 (show ((bt s i : Nat) : Int) = 224 by omega), cond_true, E0 (show ((bt s i : Nat) : Int) ≠ 237 by omega), cond_false, t3a, Lib.slow_E0 _ _ _ _ _ hn h1 h2 h3 d1]
    · rw [E0 (show ((bt s i : Nat) : Int) ≠ 224 by omega), cond_false]
      by_cases d2 : bt s i = 237
      · rw [E1 (show ((bt s i : Nat) : Int) = 237 by omega), cond_true, t3b, Lib.slow_ED _ _ _ _ _ hn h1 h2 h3 d2]
      · rw [E0 (show ((bt s i : Nat) : Int) ≠ 237 by omega), cond_false, t3c, Lib.slow_E1 _ _ _ _ _ hn h1 h2 h3 (by omega)]
  rw [F (show ¬ ((bt s i : Nat) : Int) ≤ 239 by omega), cond_false, T (show ((bt s i : Nat) : Int) ≥ 240 by omega), cond_true]
  by_cases c4 : bt s i < 245
  · rw [T (show ((bt s i : Nat) : Int) ≤ 244 by omega), cond_true]
    by_cases d1 : bt s i = 240
    · rw [E1 (show ((bt s i : Nat) : Int) = 240 by omega), cond_true, E0 (show ((bt s i : Nat) : Int) ≠ 244 by omega), cond_false, t4a, Lib.slow_F0 _ _ _ _ _ hn h1 h2 h3 d1]
    · rw [E0 (show ((bt s i : Nat) : Int) ≠ 240 by omega), cond_false]
      by_cases d2 : bt s i = 244
      · rw [E1 (show ((bt s i : Nat) : Int) = 244 by omega), cond_true, t4b, Lib.slow_F4 _ _ _ _ _ hn h1 h2 h3 d2]
      · rw [E0 (show ((bt s i : Nat) : Int) ≠ 244 by omega), cond_false, t4c, Lib.slow_F1 _ _ _ _ _ hn h1 h2 h3 (by omega)]
  · rw [F (show ¬ ((bt s i : Nat) : Int) ≤ 244 by omega), cond_false, Lib.bad_eq _ _ _ _ _ hb (by unfold Lib.firstT; rw [if_neg c0, if_neg c1, if_neg c2, if_neg (by omega), if_neg (by omega), if_neg (by omega), if_neg c3, if_neg (by omega), if_neg (by omega), if_neg (by omega)])]
    rfl
end
end Ev

/- Plain laws: a text's runes as a list; both tell it. -/
set_option linter.unusedSimpArgs false
set_option linter.unusedVariables false
namespace Ev
open Go

theorem wd_pos (s : ByteArray) (i : Nat) : 1 ≤ wd s i := Lib.width_pos s i
theorem wd_le {s : ByteArray} {i : Nat} (h : i < s.size) : i + wd s i ≤ s.size := by
  unfold wd
  rw [Lib.decode_at]
  have := Lib.decodeN_width_le (s.size - i) (s.get! i).toNat (s.get! (i + 1)).toNat (s.get! (i + 2)).toNat (s.get! (i + 3)).toNat (by omega)
  omega
theorem rn_range (s : ByteArray) (i : Nat) : -1 ≤ rn s i ∧ rn s i ≤ 1114111 := by
  have := Lib.rune_le s i
  unfold rn
  split <;> omega
/-- A text's runes from a place on: the rune, where it begins, how many bytes it has. -/
abbrev Ru := Int × Nat × Nat
def runesF (s : ByteArray) : Nat → Nat → List Ru
  | 0, _ => []
  | f + 1, i => if i < s.size then (rn s i, i, wd s i) :: runesF s f (i + wd s i) else []
theorem runesF_ge (s : ByteArray) : ∀ (f i : Nat), s.size ≤ i → runesF s f i = []
  | 0, _, _ => rfl
  | f + 1, i, h => by rw [runesF, if_neg (by omega)]
theorem runesF_any (s : ByteArray) : ∀ (f g i : Nat), s.size - i ≤ f → s.size - i ≤ g → runesF s f i = runesF s g i
  | 0, g, i, hf, _ => by rw [runesF_ge s g i (by omega), runesF]
  | f + 1, 0, i, _, hg => by rw [runesF_ge s (f + 1) i (by omega), runesF]
  | f + 1, g + 1, i, hf, hg => by
    rw [runesF, runesF]
    by_cases h : i < s.size
    · have := wd_pos s i
      rw [if_pos h, if_pos h, runesF_any s f g _ (by omega) (by omega)]
    · rw [if_neg h, if_neg h]
def runesL (s : ByteArray) (i : Nat) : List Ru := runesF s (s.size - i) i
theorem runesL_nil {s : ByteArray} {i : Nat} (h : s.size ≤ i) : runesL s i = [] := runesF_ge s _ i h
theorem runesL_cons {s : ByteArray} {i : Nat} (h : i < s.size) : runesL s i = (rn s i, i, wd s i) :: runesL s (i + wd s i) := by
  unfold runesL
  obtain ⟨f, hf⟩ : ∃ f, s.size - i = f + 1 := ⟨s.size - i - 1, by omega⟩
  have := wd_pos s i
  rw [hf, runesF, if_pos h, runesF_any s f (s.size - (i + wd s i)) _ (by omega) (by omega)]
theorem runesL_length {s : ByteArray} : ∀ (d i : Nat), s.size - i ≤ d → (runesL s i).length ≤ s.size - i := by
  intro d
  induction d with
  | zero => intro i h; rw [runesL_nil (by omega)]; simp
  | succ d ih =>
    intro i h
    by_cases hi : i < s.size
    · have := wd_pos s i
      have h2 := wd_le hi
      rw [runesL_cons hi, List.length_cons]
      have := ih (i + wd s i) (by omega)
      omega
    · rw [runesL_nil (by omega)]; simp
theorem asRef_eq (s : ByteArray) (i : Nat) : asRef (Utf8.decode s i) i = (rn s i, (i : Int), (wd s i : Int)) := rfl
theorem one_at {s : ByteArray} (hs : s.size ≤ 1048576) {i : Nat} (hi : i < s.size) : n67 (s, (i : Int)) = some (rn s i, (i : Int), (wd s i : Int)) := by rw [one_eq hs hi, asRef_eq]

def encR (r : Ru) : D := .agg [.val (.int .i64 r.1), .val (.int .i64 r.2.1), .val (.int .i64 r.2.2)]
theorem hasSize_map {α : Type} (f : α → D) (z : Nat) (hf : ∀ a, (f a).cells.length = z) : ∀ l : List α, hasSize z (l.map f) = true
  | [] => rfl
  | a :: l => by show ((f a).cells.length == z) = true; rw [hf a]; exact beq_iff_eq.2 rfl
theorem addOk_map {α : Type} (f : α → D) (z w : Nat) (hf : ∀ a, (f a).cells.length = z) (acc : List α) (a : α) (h : (acc.length + 1) * w ≤ maxBytes) : addOk (acc.map f).length (acc.map f) [f a] z w :=
  ⟨rfl, hasSize_map f z hf [a], hasSize_map f z hf acc, by simpa using h⟩
theorem toks_one {α : Type} (f : α → D) (acc : List α) (a : α) (k : Nat) : ([k, (acc.map f).length + ([f a] : List D).length] : List Nat) = [k, (acc.map f ++ [f a]).length] := by simp
theorem map_snoc {α : Type} (f : α → D) (acc : List α) (a : α) : acc.map f ++ [f a] = (acc ++ [a]).map f := by simp

theorem L29_step (s : ByteArray) (v3 : List D) (i k : Nat) (n : Nat) : L29_0 (n + 1) (s, v3, (i : Int), k) () = (bif (decide ((i : Int) < (s.size : Int))) then ((n67 (s, (i : Int))).bind fun y6 => (ask (addOk v3.length v3 ([.agg [.val (.int .i64 y6.1), .val (.int .i64 y6.2.1), .val (.int .i64 y6.2.2)]] : List D) 3 24) (ask (([k, (v3.length + ([.agg [.val (.int .i64 y6.1), .val (.int .i64 y6.2.1), .val (.int .i64 y6.2.2)]] : List D).length)] : List Nat) = [k, (v3 ++ ([.agg [.val (.int .i64 y6.1), .val (.int .i64 y6.2.1), .val (.int .i64 y6.2.2)]] : List D)).length]) (L29_0 n (s, (v3 ++ ([.agg [.val (.int .i64 y6.1), .val (.int .i64 y6.2.1), .val (.int .i64 y6.2.2)]] : List D)), (w64 ((i : Int) + y6.2.2)), k) ())))) else (ask (([k, v3.length] : List Nat) = [k, v3.length]) (some (O29_0.x0 v3 k, ())))) := rfl
theorem L29 {s : ByteArray} (hs : s.size ≤ 1048576) (k : Nat) : ∀ (d n i : Nat) (acc : List Ru), s.size - i ≤ d → d < n → acc.length ≤ i → i ≤ s.size → L29_0 n (s, acc.map encR, (i : Int), k) () = some (O29_0.x0 ((acc ++ runesL s i).map encR) k, ()) := by
  intro d
  induction d with
  | zero =>
    intro n i acc hd hn ha hi
    obtain ⟨m, rfl⟩ : ∃ m, n = m + 1 := ⟨n - 1, by omega⟩
    rw [L29_step, decide_eq_false (by omega), cond_false, ask_of rfl, runesL_nil (by omega), List.append_nil]
  | succ d ih =>
    intro n i acc hd hn ha hi
    obtain ⟨m, rfl⟩ : ∃ m, n = m + 1 := ⟨n - 1, by omega⟩
    by_cases h : i < s.size
    · have w1 := wd_pos s i
      have w2 := wd_le h
      have hadd := addOk_map encR 3 24 (fun _ => rfl) acc (rn s i, i, wd s i) (by unfold maxBytes; omega)
      have e5 : w64 ((i : Int) + (wd s i : Int)) = ((i + wd s i : Nat) : Int) := by rw [w64_id (by omega) (by omega)]; omega
      rw [L29_step, decide_eq_true (by omega), cond_true, one_at hs h, Option.bind_some]
      show ask (addOk (acc.map encR).length (acc.map encR) [encR (rn s i, i, wd s i)] 3 24) (ask (([k, (acc.map encR).length + ([encR (rn s i, i, wd s i)] : List D).length] : List Nat) = [k, (acc.map encR ++ [encR (rn s i, i, wd s i)]).length]) (L29_0 m (s, acc.map encR ++ [encR (rn s i, i, wd s i)], w64 ((i : Int) + (wd s i : Int)), k) ())) = _
      rw [ask_of hadd, ask_of (toks_one encR acc (rn s i, i, wd s i) k), e5]
      show L29_0 m (s, acc.map encR ++ [encR (rn s i, i, wd s i)], ((i + wd s i : Nat) : Int), k) () = _
      rw [map_snoc, ih m (i + wd s i) (acc ++ [(rn s i, i, wd s i)]) (by omega) (by omega) (by simp; omega) w2, runesL_cons h, List.append_assoc]
      rfl
    · rw [L29_step, decide_eq_false (by omega), cond_false, ask_of rfl, runesL_nil (by omega), List.append_nil]
/-- The reference's Runes. -/
theorem n29_eq {s : ByteArray} (hs : s.size ≤ 1048576) : n29 s = some ((runesL s 0).map encR) := by
  show (ask (([0, 0] : List Nat) = [0, ([] : List D).length]) ((L29_0 1000000000000 (s, ([] : List D), 0, 0) ()).bind fun p9 => match p9.1 with | .x0 z10 z11 => (some z10))) = _
  rw [ask_of (show ([0, 0] : List Nat) = [0, ([] : List D).length] from rfl)]
  have := L29 hs 0 s.size 1000000000000 0 [] (by omega) (by omega) (by simp) (by omega)
  rw [show ((0 : Nat) : Int) = 0 from rfl] at this
  show (L29_0 1000000000000 (s, ([] : List Ru).map encR, 0, 0) ()).bind _ = _
  rw [this]
  rfl
/-- Its Width; the program's. -/
theorem n55_eq {s : ByteArray} (hs : s.size ≤ 1048576) : n55 s = some (((runesL s 0).length : Nat) : Int) := by
  simp only [n55, n29_eq hs, Option.bind_some, List.length_map]
theorem L52_step (s : ByteArray) (v : Int) (i n : Nat) : L52_0 (n + 1) (v, s, i) () = (bif decide (i < s.size) then (L52_0 n ((w64 (v + 1)), s, (i + (Utf8.decode s i).2)) ()) else (some (O52_0.x0 v s i, ()))) := rfl
theorem L52 {s : ByteArray} (hs : s.size ≤ 2097152) : ∀ (d n i c : Nat), s.size - i ≤ d → d < n → c ≤ i → i ≤ s.size → ∃ j, L52_0 n ((c : Int), s, i) () = some (O52_0.x0 ((c + (runesL s i).length : Nat) : Int) s j, ()) := by
  intro d
  induction d with
  | zero =>
    intro n i c hd hn hc hi
    obtain ⟨m, rfl⟩ : ∃ m, n = m + 1 := ⟨n - 1, by omega⟩
    rw [L52_step, decide_eq_false (by omega), cond_false, runesL_nil (by omega)]
    exact ⟨i, rfl⟩
  | succ d ih =>
    intro n i c hd hn hc hi
    obtain ⟨m, rfl⟩ : ∃ m, n = m + 1 := ⟨n - 1, by omega⟩
    by_cases h : i < s.size
    · have w1 := wd_pos s i
      have w2 := wd_le h
      have e5 : w64 ((c : Int) + 1) = ((c + 1 : Nat) : Int) := by rw [w64_id (by omega) (by omega)]; omega
      rw [L52_step, decide_eq_true h, cond_true, e5]
      obtain ⟨j, hj⟩ := ih m (i + wd s i) (c + 1) (by omega) (by omega) (by omega) w2
      refine ⟨j, ?_⟩
      rw [show i + (Utf8.decode s i).2 = i + wd s i from rfl, hj, runesL_cons h, List.length_cons]
      congr 4; omega
    · rw [L52_step, decide_eq_false h, cond_false, runesL_nil (by omega)]
      exact ⟨i, rfl⟩
theorem n52_eq {s : ByteArray} (hs : s.size ≤ 1048576) : n52 s = some (((runesL s 0).length : Nat) : Int) := by
  obtain ⟨j, hj⟩ := L52 (s := s) (by omega) s.size 1000000000000 0 0 (by omega) (by omega) (by omega) (by omega)
  show ((L52_0 1000000000000 (0, s, 0) ()).bind fun p8 => match p8.1 with | .x0 z9 z10 z11 => (some z9)) = _
  rw [show (0 : Int) = ((0 : Nat) : Int) from rfl, hj, Option.bind_some, Nat.zero_add]
end Ev

/- Plain law: TextDecimals. -/
set_option linter.unusedSimpArgs false
set_option linter.unusedVariables false
namespace Ev
open Go
theorem alive_true : n32 () = some true := by kernel_rfl

abbrev isDig (c : UInt8) : Prop := 48 ≤ c.toNat ∧ c.toNat ≤ 57
def dv (c : UInt8) : Nat := c.toNat - 48
theorem dv_eq (c : UInt8) : dv c = c.toNat - 48 := by unfold dv; rfl
def stD (a : Nat) (c : UInt8) : Nat := a * 10 + dv c
def valD (acc : Nat) (l : List UInt8) : Nat := l.foldl stD acc
theorem valD_nil (acc : Nat) : valD acc [] = acc := rfl
theorem valD_cons (acc : Nat) (c : UInt8) (r : List UInt8) : valD acc (c :: r) = valD (acc * 10 + (c.toNat - 48)) r := by
  rw [← dv_eq]
  show List.foldl stD acc (c :: r) = List.foldl stD (stD acc c) r
  exact List.foldl_cons ..
theorem valD_append (l r : List UInt8) (acc : Nat) : valD acc (l ++ r) = valD (valD acc l) r := List.foldl_append
theorem ofn {n : Nat} (h : n < 256) : (UInt8.ofNat n).toNat = n := by rw [UInt8.toNat_ofNat']; omega
theorem valD_ge : ∀ (l : List UInt8) (acc : Nat), acc ≤ valD acc l := by
  intro l
  induction l with
  | nil => intro acc; exact Nat.le_refl _
  | cons c r ih =>
    intro acc
    have := ih (acc * 10 + (c.toNat - 48))
    rw [valD_cons]; omega
theorem dec_digs (u : Nat) : ∀ c ∈ Lib.decDigits u, isDig c := by
  induction u using Nat.strongRecOn with
  | _ u ih =>
    intro c hc
    by_cases hu : u < 10
    · rw [Lib.decDigits_one hu] at hc
      rw [List.mem_singleton] at hc
      subst hc
      have : (UInt8.ofNat (48 + u)).toNat = 48 + u := ofn (by omega)
      omega
    · rw [Lib.decDigits, dif_neg hu] at hc
      rcases List.mem_append.1 hc with h | h
      · exact ih (u / 10) (by omega) c h
      · rw [List.mem_singleton] at h
        subst h
        have : (UInt8.ofNat (48 + u % 10)).toNat = 48 + u % 10 := ofn (by omega)
        omega
theorem dec_val (u : Nat) : valD 0 (Lib.decDigits u) = u := by
  induction u using Nat.strongRecOn with
  | _ u ih =>
    by_cases hu : u < 10
    · rw [Lib.decDigits_one hu]
      have : (UInt8.ofNat (48 + u)).toNat = 48 + u := ofn (by omega)
      rw [valD_cons, valD_nil, this]; omega
    · rw [Lib.decDigits, dif_neg hu, valD_append, ih (u / 10) (by omega)]
      have : (UInt8.ofNat (48 + u % 10)).toNat = 48 + u % 10 := ofn (by omega)
      rw [valD_cons, valD_nil, this]; omega
theorem dec_ne (u : Nat) : Lib.decDigits u ≠ [] := by
  intro h
  have := congrArg List.length h
  rw [Lib.decDigits_length] at this
  unfold Lib.nDigits at this
  split at this <;> simp at this
theorem parseM : ∀ (l : List UInt8) (acc : Nat), (∀ c ∈ l, isDig c) → valD acc l ≤ 18446744073709551615 → Lib.parseUintM (2 ^ 64 - 1) acc l = .ok (valD acc l)
  | [], acc, _, _ => rfl
  | c :: r, acc, hd, hv => by
    have h0 := hd c (by simp)
    rw [valD_cons] at hv ⊢
    have hv' := hv
    have h1 := valD_ge r (acc * 10 + (c.toNat - 48))
    rw [Lib.parseUintM, if_pos h0, if_neg (by omega), if_neg (by omega), parseM r _ (fun x hx => hd x (by simp [hx])) hv']
theorem parse_itoa {v : Int} (h0 : -9223372036854775808 ≤ v) (h1 : v ≤ 9223372036854775807) : Lib.parseIntB 64 (Lib.itoa v) = .ok v := by
  unfold Lib.itoa
  by_cases hv : v < 0
  · rw [if_pos hv]
    have hp := parseM (Lib.decDigits v.natAbs) 0 (dec_digs _) (by rw [dec_val]; omega)
    rw [dec_val] at hp
    have h45 : (45 : UInt8).toNat = 45 := rfl
    simp only [Lib.parseIntB, h45, Lib.parseUintB, if_neg (dec_ne v.natAbs), hp, or_true, if_true, not_true_eq_false, false_and, if_false, true_and]
    rw [if_neg (by omega)]
    congr 1; omega
  · rw [if_neg hv]
    have hp := parseM (Lib.decDigits v.toNat) 0 (dec_digs _) (by rw [dec_val]; omega)
    rw [dec_val] at hp
    cases hl : Lib.decDigits v.toNat with
    | nil => exact (dec_ne _ hl).elim
    | cons c r =>
      have hc : isDig c := dec_digs v.toNat c (by rw [hl]; simp)
      rw [hl] at hp
      rw [Lib.parseIntB_plain 64 c r (by omega) (by omega)]
      simp only [Lib.parseUintB, reduceCtorEq, if_false, hp, Lib.signlessC]
      rw [if_neg (by omega)]
      congr 1; omega

theorem sEq_iff (a b : ByteArray) : sEq a b = true ↔ a = b := by
  unfold sEq
  rw [beq_iff_eq]
  constructor
  · intro h
    have : a.data.toList = b.data.toList := by
      have e : ∀ x : ByteArray, x.toList = x.data.toList := fun x => by simp [ByteArray.toList_eq]
      rw [e, e] at h
      exact h
    exact ByteArray.ext (Array.toList_inj.1 this)
  · intro h; rw [h]

theorem w64_range (x : Int) : -9223372036854775808 ≤ w64 x ∧ w64 x ≤ 9223372036854775807 := by
  simp only [w64, IntKind.wrap, IntKind.signed, IntKind.bits]
  simp
  omega
abbrev i64 (v : Int) : Prop := -9223372036854775808 ≤ v ∧ v ≤ 9223372036854775807
/-- A text that is a number's. -/
abbrev IsNum (s : ByteArray) (v : Int) : Prop := i64 v ∧ s = ⟨(Lib.itoa v).toArray⟩
theorem toList_mk (l : List UInt8) : (⟨l.toArray⟩ : ByteArray).data.toList = l := by simp
theorem size_mk (l : List UInt8) : (⟨l.toArray⟩ : ByteArray).size = l.length := rfl
theorem drop_get {l : List UInt8} {k : Nat} {c : UInt8} {r : List UInt8} (h : l.drop k = c :: r) : l[k]? = some c ∧ l.drop (k + 1) = r := by
  have h1 : (l.drop k)[0]? = some c := by rw [h]; rfl
  have h2 : (l.drop k).drop 1 = r := by rw [h]; rfl
  rw [List.getElem?_drop] at h1
  rw [List.drop_drop] at h2
  exact ⟨h1, h2⟩
theorem get_list (s : ByteArray) (k : Nat) : s[k]? = s.data.toList[k]? := by
  rw [Array.getElem?_toList]
  by_cases h : k < s.size
  · rw [getElem?_pos s k h, Array.getElem?_eq_getElem h]; rfl
  · rw [getElem?_neg s k h, Array.getElem?_eq_none (by simpa using h)]
theorem size_list (s : ByteArray) : s.size = s.data.toList.length := by simp
theorem L43_step (s : ByteArray) (f acc : Int) (k n : Nat) : L43_0 (n + 1) (s, f, acc, (k : Int)) () = (bif (decide ((k : Int) < (s.size : Int))) then ((sidx s k).bind fun c8 => (bif (decide ((c8.toNat : Int) < 48)) then (some (O43_0.x0 0 22, ())) else ((sidx s k).bind fun c11 => (bif (decide ((c11.toNat : Int) > 57)) then (some (O43_0.x0 0 22, ())) else ((sidx s k).bind fun c12 => (L43_0 n (s, f, (wu64 ((wu64 (10 * acc)) + (wu64 (wu8 ((c12.toNat : Int) - 48))))), (w64 ((k : Int) + 1))) ())))))) else (some (O43_0.x1 s f acc, ()))) := rfl
theorem L43 (s : ByteArray) (f : Int) (hs : s.size ≤ 1048576) : ∀ (rest : List UInt8) (n k acc : Nat), s.data.toList.drop k = rest → rest.length < n → (∀ c ∈ rest, isDig c) → valD acc rest < 18446744073709551616 → L43_0 n (s, f, (acc : Int), (k : Int)) () = some (O43_0.x1 s f ((valD acc rest : Nat) : Int), ()) := by
  intro rest
  induction rest with
  | nil =>
    intro n k acc hd hn _ _
    obtain ⟨m, rfl⟩ : ∃ m, n = m + 1 := ⟨n - 1, by simp at hn; omega⟩
    have hk : s.size ≤ k := by rw [size_list]; exact List.drop_eq_nil_iff.1 hd
    rw [L43_step, decide_eq_false (by omega), cond_false, valD_nil]
  | cons c r ih =>
    intro n k acc hd hn hdig hv
    obtain ⟨m, rfl⟩ : ∃ m, n = m + 1 := ⟨n - 1, by simp at hn; omega⟩
    obtain ⟨h1, h2⟩ := drop_get hd
    have hk : k < s.size := by rw [size_list]; exact (List.getElem?_eq_some_iff.1 h1).1
    have hc := hdig c (by simp)
    have hsx : sidx s (k : Int) = some c := by rw [sidx_nat, get_list, h1]
    rw [valD_cons] at hv ⊢
    have hge := valD_ge r (acc * 10 + (c.toNat - 48))
    have e1 : wu8 ((c.toNat : Int) - 48) = ((c.toNat - 48 : Nat) : Int) := by rw [wu8_id (by omega) (by omega)]; omega
    have e2 : wu64 (10 * (acc : Int)) = ((acc * 10 : Nat) : Int) := by rw [wu64_id (by omega) (by omega)]; omega
    have e3 : wu64 (((c.toNat - 48 : Nat) : Int)) = ((c.toNat - 48 : Nat) : Int) := wu64_id (by omega) (by omega)
    have e4 : wu64 (((acc * 10 : Nat) : Int) + ((c.toNat - 48 : Nat) : Int)) = ((acc * 10 + (c.toNat - 48) : Nat) : Int) := by rw [wu64_id (by omega) (by omega)]; omega
    have e5 : w64 ((k : Int) + 1) = ((k + 1 : Nat) : Int) := by rw [w64_id (by omega) (by omega)]; omega
    rw [L43_step, decide_eq_true (by omega), cond_true, hsx, Option.bind_some, decide_eq_false (by omega), cond_false, Option.bind_some, decide_eq_false (by omega), cond_false, Option.bind_some, e1, e2, e3, e4, e5]
    exact ih m (k + 1) _ h2 (by simp at hn; omega) (fun x hx => hdig x (by simp [hx])) hv
theorem L43tot (s : ByteArray) (f : Int) (hs : s.size ≤ 1048576) : ∀ (d n k : Nat) (acc : Int), s.size - k = d → d < n → ∃ o, L43_0 n (s, f, acc, (k : Int)) () = some (o, ()) ∧ (o = O43_0.x0 0 22 ∨ ∃ z, o = O43_0.x1 s f z) := by
  intro d
  induction d with
  | zero =>
    intro n k acc hd hn
    obtain ⟨m, rfl⟩ : ∃ m, n = m + 1 := ⟨n - 1, by omega⟩
    rw [L43_step, decide_eq_false (by omega), cond_false]
    exact ⟨_, rfl, .inr ⟨_, rfl⟩⟩
  | succ d ih =>
    intro n k acc hd hn
    obtain ⟨m, rfl⟩ : ∃ m, n = m + 1 := ⟨n - 1, by omega⟩
    obtain ⟨c, hc⟩ : ∃ c, s[k]? = some c := ⟨s[k]'(by omega), getElem?_pos s k (by omega)⟩
    have hsx : sidx s (k : Int) = some c := by rw [sidx_nat, hc]
    have e5 : w64 ((k : Int) + 1) = ((k + 1 : Nat) : Int) := by rw [w64_id (by omega) (by omega)]; omega
    rw [L43_step, decide_eq_true (by omega), cond_true, hsx, Option.bind_some, Option.bind_some, Option.bind_some, e5]
    cases decide ((c.toNat : Int) < 48) with
    | true => exact ⟨_, rfl, .inl rfl⟩
    | false =>
      cases decide ((c.toNat : Int) > 57) with
      | true => exact ⟨_, rfl, .inl rfl⟩
      | false => exact ih m (k + 1) _ (by omega) (by omega)

/-- What is made of the loop's number. -/
def fin43 (f z : Int) (s : ByteArray) : Option (Int × Int) := bif (f == 1) then ((n45 (w64 (0 - (w64 z)))).bind fun y => (bif (!(sEq y s)) then (some (0, 22)) else (some ((w64 (0 - (w64 z))), 0)))) else ((n45 (w64 z)).bind fun y => (bif (!(sEq y s)) then (some (0, 22)) else (some ((w64 z), 0))))
def run43 (s : ByteArray) (f k : Int) : Option (Int × Int) := (L43_0 1000000000000 (s, f, 0, k) ()).bind fun p => match p.1 with | .x0 a b => some (a, b) | .x1 z1 z2 z3 => fin43 z2 z3 z1
theorem n43_eq (s : ByteArray) : n43 s = bif (decide ((s.size : Int) > 0)) then ((sidx s 0).bind fun c3 => (bif ((c3.toNat : Int) == 45) then (bif (bif ((s.size : Int) == 1) then true else (decide ((s.size : Int) > 20))) then (some (0, 22)) else run43 s 1 1) else (bif (bif ((s.size : Int) == 0) then true else (decide ((s.size : Int) > 19))) then (some (0, 22)) else run43 s 0 0))) else (bif (bif ((s.size : Int) == 0) then true else (decide ((s.size : Int) > 19))) then (some (0, 22)) else run43 s 0 0) := rfl
theorem fin43_or (f z : Int) (s : ByteArray) : fin43 f z s = some (0, 22) ∨ ∃ v, IsNum s v ∧ fin43 f z s = some (v, 0) := by
  have key : ∀ v, i64 v → ((n45 v).bind fun y => (bif (!(sEq y s)) then (some (0, 22) : Option (Int × Int)) else (some (v, 0)))) = some (0, 22) ∨ ∃ u, IsNum s u ∧ ((n45 v).bind fun y => (bif (!(sEq y s)) then (some (0, 22) : Option (Int × Int)) else (some (v, 0)))) = some (u, 0) := by
    intro v hv
    rw [decimal_ref hv.1 hv.2, Option.bind_some]
    cases he : sEq ⟨(Lib.itoa v).toArray⟩ s with
    | false => left; rfl
    | true => exact .inr ⟨v, ⟨hv, ((sEq_iff _ _).1 he).symm⟩, rfl⟩
  unfold fin43
  cases (f == 1) with
  | true => exact key (w64 (0 - w64 z)) (w64_range _)
  | false => exact key (w64 z) (w64_range _)
theorem run43_or (s : ByteArray) (hs : s.size ≤ 1048576) (f : Int) (k : Nat) : run43 s f k = some (0, 22) ∨ ∃ v, IsNum s v ∧ run43 s f k = some (v, 0) := by
  obtain ⟨o, h1, h2⟩ := L43tot s f hs (s.size - k) 1000000000000 k 0 rfl (by omega)
  unfold run43
  rw [h1, Option.bind_some]
  rcases h2 with rfl | ⟨z, rfl⟩
  · left; rfl
  · exact fin43_or f z s
theorem n43_or (s : ByteArray) (hs : s.size ≤ 1048576) : n43 s = some (0, 22) ∨ ∃ v, IsNum s v ∧ n43 s = some (v, 0) := by
  rw [n43_eq]
  have k0 := run43_or s hs 0 0
  have k1 := run43_or s hs 1 1
  have key : ∀ (b : Bool) (x : Option (Int × Int)), (x = some (0, 22) ∨ ∃ v, IsNum s v ∧ x = some (v, 0)) → ((bif b then some (0, 22) else x) = some (0, 22) ∨ ∃ v, IsNum s v ∧ (bif b then some (0, 22) else x) = some (v, 0)) := by
    intro b x h
    cases b with
    | true => left; rfl
    | false => exact h
  cases hd : decide ((s.size : Int) > 0) with
  | false => exact key _ _ k0
  | true =>
    have hp : 0 < s.size := by have := of_decide_eq_true hd; omega
    obtain ⟨c, hc⟩ : ∃ c, s[0]? = some c := ⟨s[0], getElem?_pos s 0 hp⟩
    have hsx : sidx s 0 = some c := by have := sidx_nat s 0; rw [hc] at this; exact this
    rw [cond_true, hsx, Option.bind_some]
    cases ((c.toNat : Int) == 45) with
    | true => exact key _ _ k1
    | false => exact key _ _ k0
theorem dec_len {u : Nat} (h : u ≤ 9223372036854775808) : (Lib.decDigits u).length ≤ 19 := by
  rw [Lib.decDigits_length]; exact nDigits_le 19 u (by omega) (by omega)
/-- The reference's Number of a number's text. -/
theorem n43_num {v : Int} (hv : i64 v) : n43 ⟨(Lib.itoa v).toArray⟩ = some (v, 0) := by
  rw [n43_eq]
  have h45 := decimal_ref hv.1 hv.2
  by_cases hn : v < 0
  · have hi : Lib.itoa v = 45 :: Lib.decDigits v.natAbs := by unfold Lib.itoa; rw [if_pos hn]
    have hlen := dec_len (u := v.natAbs) (by omega)
    have hpos : 0 < (Lib.decDigits v.natAbs).length := List.length_pos_iff.2 (dec_ne _)
    have hsz : (⟨(Lib.itoa v).toArray⟩ : ByteArray).size = (Lib.decDigits v.natAbs).length + 1 := by rw [size_mk, hi]; rfl
    have hsx : sidx ⟨(Lib.itoa v).toArray⟩ 0 = some 45 := by
      have := sidx_nat ⟨(Lib.itoa v).toArray⟩ 0
      rw [get_list, toList_mk] at this
      exact this.trans (by rw [hi]; rfl)
    have hr : run43 ⟨(Lib.itoa v).toArray⟩ 1 1 = some (v, 0) := by
      unfold run43
      have := L43 ⟨(Lib.itoa v).toArray⟩ 1 (by rw [hsz]; omega) (Lib.decDigits v.natAbs) 1000000000000 1 0 (by rw [toList_mk, hi]; rfl) (by omega) (dec_digs _) (by rw [dec_val]; omega)
      rw [dec_val] at this
      rw [show ((0 : Nat) : Int) = 0 from rfl, show ((1 : Nat) : Int) = 1 from rfl] at this
      rw [this, Option.bind_some]
      have e : w64 (0 - w64 ((v.natAbs : Nat) : Int)) = v := by
        by_cases hm : v.natAbs = 9223372036854775808
        · have : v = -9223372036854775808 := by omega
          subst this; decide +kernel
        · rw [w64_id (n := ((v.natAbs : Nat) : Int)) (by omega) (by omega), w64_id (by omega) (by omega)]; omega
      show fin43 1 _ _ = _
      unfold fin43
      rw [show ((1 : Int) == 1) = true from rfl, cond_true, e, h45, Option.bind_some, (sEq_iff _ _).2 rfl]
      rfl
    rw [hsz, decide_eq_true (by omega), cond_true, hsx, Option.bind_some, show (((45 : UInt8).toNat : Int) == 45) = true from rfl, cond_true]
    have b1 : (((((Lib.decDigits v.natAbs).length + 1 : Nat) : Int)) == 1) = false := by rw [beq_eq_false_iff_ne]; omega
    rw [b1, cond_false, decide_eq_false (by omega), cond_false, hr]
  · have hi : Lib.itoa v = Lib.decDigits v.toNat := by unfold Lib.itoa; rw [if_neg hn]
    have hlen := dec_len (u := v.toNat) (by omega)
    have hpos : 0 < (Lib.decDigits v.toNat).length := List.length_pos_iff.2 (dec_ne _)
    have hsz : (⟨(Lib.itoa v).toArray⟩ : ByteArray).size = (Lib.decDigits v.toNat).length := by rw [size_mk, hi]
    have hr : run43 ⟨(Lib.itoa v).toArray⟩ 0 0 = some (v, 0) := by
      unfold run43
      have := L43 ⟨(Lib.itoa v).toArray⟩ 0 (by rw [hsz]; omega) (Lib.decDigits v.toNat) 1000000000000 0 0 (by rw [toList_mk, hi]; rfl) (by omega) (dec_digs _) (by rw [dec_val]; omega)
      rw [dec_val] at this
      rw [show ((0 : Nat) : Int) = 0 from rfl] at this
      rw [this, Option.bind_some]
      have e : w64 ((v.toNat : Nat) : Int) = v := by rw [w64_id (by omega) (by omega)]; omega
      show fin43 0 _ _ = _
      unfold fin43
      rw [show ((0 : Int) == 1) = false from rfl, cond_false, e, h45, Option.bind_some, (sEq_iff _ _).2 rfl]
      rfl
    obtain ⟨c, r, hl⟩ : ∃ c r, Lib.decDigits v.toNat = c :: r := by
      cases h : Lib.decDigits v.toNat with
      | nil => exact (dec_ne _ h).elim
      | cons c r => exact ⟨c, r, rfl⟩
    have hsx : sidx ⟨(Lib.itoa v).toArray⟩ 0 = some c := by
      have := sidx_nat ⟨(Lib.itoa v).toArray⟩ 0
      rw [get_list, toList_mk] at this
      exact this.trans (by rw [hi, hl]; rfl)
    have hc := dec_digs v.toNat c (by rw [hl]; simp)
    have b0 : ((c.toNat : Int) == 45) = false := by rw [beq_eq_false_iff_ne]; omega
    have b1 : ((((Lib.decDigits v.toNat).length : Nat) : Int) == 0) = false := by rw [beq_eq_false_iff_ne]; omega
    rw [hsz, decide_eq_true (by omega), cond_true, hsx, Option.bind_some, b0, cond_false, b1, cond_false, decide_eq_false (by omega), cond_false, hr]

theorem n42_num {v : Int} (hv : i64 v) : n42 ⟨(Lib.itoa v).toArray⟩ = some (v, 0) := by
  have hsz : (⟨(Lib.itoa v).toArray⟩ : ByteArray).size ≤ 281474976710656 := by
    rw [size_mk]
    unfold Lib.itoa
    split
    · have := dec_len (u := v.natAbs) (by omega)
      simp; omega
    · have := dec_len (u := v.toNat) (by omega)
      omega
  show ((ask ((10 : Int) = 10 ∧ (64 : Int) = 64 ∧ parOk ⟨(Lib.itoa v).toArray⟩) (some (parse64 ⟨(Lib.itoa v).toArray⟩))).bind fun y3 => (bif y3.2 then (some (0, 22)) else ((n44 y3.1).bind fun y4 => (bif (!(sEq y4 ⟨(Lib.itoa v).toArray⟩)) then (some (0, 22)) else (some (y3.1, 0)))))) = _
  rw [ask_of ⟨rfl, rfl, Nat.ble_eq_true_of_le hsz⟩, Option.bind_some]
  have e : parse64 ⟨(Lib.itoa v).toArray⟩ = (v, false) := by
    unfold parse64
    rw [toList_mk, parse_itoa hv.1 hv.2]
  rw [e]
  show (n44 v).bind _ = _
  rw [decimal_prog hv.1 hv.2, Option.bind_some, (sEq_iff _ _).2 rfl]
  rfl
theorem n42_or (s : ByteArray) (hs : s.size ≤ 1048576) : n42 s = some (0, 22) ∨ ∃ v, IsNum s v ∧ n42 s = some (v, 0) := by
  show ((ask ((10 : Int) = 10 ∧ (64 : Int) = 64 ∧ parOk s) (some (parse64 s))).bind fun y3 => (bif y3.2 then (some (0, 22)) else ((n44 y3.1).bind fun y4 => (bif (!(sEq y4 s)) then (some (0, 22)) else (some (y3.1, 0)))))) = _ ∨ _
  have h42 : n42 s = ((ask ((10 : Int) = 10 ∧ (64 : Int) = 64 ∧ parOk s) (some (parse64 s))).bind fun y3 => (bif y3.2 then (some (0, 22)) else ((n44 y3.1).bind fun y4 => (bif (!(sEq y4 s)) then (some (0, 22)) else (some (y3.1, 0)))))) := rfl
  rw [h42, ask_of ⟨rfl, rfl, Nat.ble_eq_true_of_le (by omega)⟩, Option.bind_some]
  unfold parse64
  rcases hp : Lib.parseIntB 64 s.data.toList with v | _ | _
  ·
    have hb := Lib.parseIntB_bounds hp
    have hv : i64 v := ⟨by have := hb.1; simpa using this, by have := hb.2; simp at this; omega⟩
    show (n44 v).bind _ = _ ∨ ∃ u, _ ∧ (n44 v).bind _ = _
    rw [decimal_prog hv.1 hv.2, Option.bind_some]
    cases he : sEq ⟨(Lib.itoa v).toArray⟩ s with
    | false => left; rfl
    | true => exact .inr ⟨v, ⟨hv, ((sEq_iff _ _).1 he).symm⟩, rfl⟩
  · left; rfl
  · left; rfl
/-- Both read the same numbers. -/
theorem number_eq (s : ByteArray) (hs : s.size ≤ 1048576) : ∃ v e, n42 s = some (v, e) ∧ n43 s = some (v, e) := by
  rcases n42_or s hs with h | ⟨v, ⟨hv, rfl⟩, _⟩
  · rcases n43_or s hs with k | ⟨v, ⟨hv, rfl⟩, _⟩
    · exact ⟨0, 22, h, k⟩
    · exact ⟨v, 0, n42_num hv, n43_num hv⟩
  · exact ⟨v, 0, n42_num hv, n43_num hv⟩
theorem wf_i64 {a : Int} (w : (Lit.int .i64 a).wf = true) : i64 a := by
  simp [Lit.wf, IntKind.min, IntKind.max, IntKind.signed, IntKind.bits] at w
  omega
theorem plain12 (a0 : Int) (a1 : ByteArray) (h : a1.size ≤ 1048576) (w : (Lit.int .i64 a0).wf = true) : n12 (a0, a1) = some true := by
  have hv := wf_i64 w
  obtain ⟨v, e, h1, h2⟩ := number_eq a1 h
  have b : ∀ x : Int, (x == x) = true := fun x => beq_iff_eq.2 rfl
  simp only [n12, h1, h2, Option.bind_some, decimal_prog hv.1 hv.2, decimal_ref hv.1 hv.2, n42_num hv, b, cond_true, n39, (sEq_iff _ _).2 rfl, alive_true, beq_self_eq_true]
end Ev

/- Plain law: TextNames. -/
set_option linter.unusedSimpArgs false
set_option linter.unusedVariables false
namespace Ev
open Go

def letB (a0 : Int) : Bool := bif (bif (decide (a0 ≥ 97)) then (decide (a0 ≤ 122)) else false) then true else (bif (bif (decide (a0 ≥ 65)) then (decide (a0 ≤ 90)) else false) then true else (bif (a0 == 95) then true else (bif (bif (decide (a0 ≥ 192)) then (decide (a0 ≤ 591)) else false) then (bif (a0 != 215) then (a0 != 247) else false) else (bif (bif (decide (a0 ≥ 913)) then (decide (a0 ≤ 969)) else false) then (a0 != 930) else false))))
theorem n38_eq (r : Int) : n38 r = some (letB r) := by
  simp only [n38, letB, cond_some]
theorem n37_eq (r : Int) : n37 r = some (letB r) := by rw [letter_eq, n38_eq]
def restB (r : Int) : Bool := bif letB r then true else (bif (decide (r ≥ 48)) then (bif (decide (r ≤ 57)) then true else (r == 39)) else (r == 39))
theorem n72_eq (r : Int) : n72 r = some (restB r) := by
  show (n38 r).bind _ = _
  rw [n38_eq, Option.bind_some]
  simp only [restB, cond_some]
theorem letB_neg : letB (-1) = false := by decide +kernel
theorem letB_bad : letB 65533 = false := by decide +kernel
theorem restB_neg : restB (-1) = false := by decide +kernel
theorem restB_bad : restB 65533 = false := by decide +kernel
/-- A broken rune is no letter, whichever way it is told. -/
theorem raw_let (s : ByteArray) (i : Nat) : letB ((Utf8.decode s i).1 : Int) = letB (rn s i) := by
  unfold rn
  split
  · rename_i h
    rw [h, letB_neg]; exact letB_bad
  · rfl
theorem raw_rest (s : ByteArray) (i : Nat) : restB ((Utf8.decode s i).1 : Int) = restB (rn s i) := by
  unfold rn
  split
  · rename_i h
    rw [h, restB_neg]; exact restB_bad
  · rfl
/-- Names, rune by rune. -/
def okFrom : Bool → List Ru → Bool
  | _, [] => true
  | true, r :: l => letB r.1 && okFrom false l
  | false, r :: l => restB r.1 && okFrom false l
theorem L40_step (s : ByteArray) (v : Int) (i n : Nat) : L40_0 (n + 1) (v, s, i) () = (bif decide (i < s.size) then ((n37 ((Utf8.decode s i).1 : Int)).bind fun y5 => (bif (!y5) then (bif ((w64 (v + 1)) == 1) then (some (O40_0.x0 21 s (i + (Utf8.decode s i).2), ())) else (bif (((Utf8.decode s i).1 : Int) != 39) then (bif (decide (((Utf8.decode s i).1 : Int) < 48)) then (some (O40_0.x0 21 s (i + (Utf8.decode s i).2), ())) else (bif (decide (((Utf8.decode s i).1 : Int) > 57)) then (some (O40_0.x0 21 s (i + (Utf8.decode s i).2), ())) else (L40_0 n ((w64 (v + 1)), s, (i + (Utf8.decode s i).2)) ()))) else (L40_0 n ((w64 (v + 1)), s, (i + (Utf8.decode s i).2)) ()))) else (L40_0 n ((w64 (v + 1)), s, (i + (Utf8.decode s i).2)) ()))) else (some (O40_0.x1 v s i, ()))) := rfl
theorem L40 {s : ByteArray} (hs : s.size ≤ 1048576) : ∀ (d n i c : Nat), s.size - i ≤ d → d < n → c ≤ i → i ≤ s.size →
    ∃ j, L40_0 n ((c : Int), s, i) () = some (if okFrom (decide (c = 0)) (runesL s i) = true then O40_0.x1 ((c + (runesL s i).length : Nat) : Int) s j else O40_0.x0 21 s j, ()) := by
  intro d
  induction d with
  | zero =>
    intro n i c hd hn hc hi
    obtain ⟨m, rfl⟩ : ∃ m, n = m + 1 := ⟨n - 1, by omega⟩
    rw [L40_step, decide_eq_false (by omega), cond_false, runesL_nil (by omega)]
    exact ⟨i, by rw [if_pos (by simp [okFrom])]; rfl⟩
  | succ d ih =>
    intro n i c hd hn hc hi
    obtain ⟨m, rfl⟩ : ∃ m, n = m + 1 := ⟨n - 1, by omega⟩
    by_cases h : i < s.size
    · have w1 := wd_pos s i
      have w2 := wd_le h
      have e5 : w64 ((c : Int) + 1) = ((c + 1 : Nat) : Int) := by rw [w64_id (by omega) (by omega)]; omega
      obtain ⟨j, hj⟩ := ih m (i + wd s i) (c + 1) (by omega) (by omega) (by omega) w2
      have hj' : L40_0 m (((c + 1 : Nat) : Int), s, i + (Utf8.decode s i).2) () = _ := hj
      rw [show decide (c + 1 = 0) = false by simp] at hj'
      rw [L40_step, decide_eq_true h, cond_true, e5, n37_eq, Option.bind_some, raw_let, runesL_cons h]
      have hlen : c + (runesL s (i + wd s i)).length + 1 = c + 1 + (runesL s (i + wd s i)).length := by omega
      cases hl : letB (rn s i) with
      | true =>
        refine ⟨j, ?_⟩
        have hr : restB (rn s i) = true := by simp [restB, hl]
        have ho : okFrom (decide (c = 0)) ((rn s i, i, wd s i) :: runesL s (i + wd s i)) = okFrom false (runesL s (i + wd s i)) := by
          cases decide (c = 0) with
          | true => simp [okFrom, hl]
          | false => simp [okFrom, hr]
        rw [ho, List.length_cons]
        show L40_0 m (((c + 1 : Nat) : Int), s, i + (Utf8.decode s i).2) () = _
        rw [hj', show c + ((runesL s (i + wd s i)).length + 1) = c + 1 + (runesL s (i + wd s i)).length by omega]
      | false =>
        by_cases hc0 : c = 0
        · subst hc0
          refine ⟨i + (Utf8.decode s i).2, ?_⟩
          have ho : okFrom (decide ((0 : Nat) = 0)) ((rn s i, i, wd s i) :: runesL s (i + wd s i)) = false := by simp [okFrom, hl]
          rw [ho, if_neg (by simp)]
          rfl
        · have b1 : ((((c + 1 : Nat)) : Int) == 1) = false := by rw [beq_eq_false_iff_ne]; omega
          have hrr := raw_rest s i
          have hlr := raw_let s i
          rw [hl] at hlr
          have ho : okFrom (decide (c = 0)) ((rn s i, i, wd s i) :: runesL s (i + wd s i)) = (restB (rn s i) && okFrom false (runesL s (i + wd s i))) := by
            rw [decide_eq_false hc0]; rfl
          rw [ho, ← hrr, List.length_cons]
          simp only [restB, hlr, cond_false, Bool.not_false, cond_true, b1]
          generalize hR : ((Utf8.decode s i).1 : Int) = R
          have done : (some (O40_0.x0 21 s (i + (Utf8.decode s i).2), ()) : Option (O40_0 × Unit)) = some (if (false && okFrom false (runesL s (i + wd s i))) = true then O40_0.x1 ((c + ((runesL s (i + wd s i)).length + 1) : Nat) : Int) s (i + (Utf8.decode s i).2) else O40_0.x0 21 s (i + (Utf8.decode s i).2), ()) := by
            rw [Bool.false_and, if_neg (by simp)]
          have next : L40_0 m (((c + 1 : Nat) : Int), s, i + (Utf8.decode s i).2) () = some (if (true && okFrom false (runesL s (i + wd s i))) = true then O40_0.x1 ((c + ((runesL s (i + wd s i)).length + 1) : Nat) : Int) s j else O40_0.x0 21 s j, ()) := by
            rw [Bool.true_and, hj', show c + ((runesL s (i + wd s i)).length + 1) = c + 1 + (runesL s (i + wd s i)).length by omega]
          by_cases h39 : R = 39
          · have a1 : (R != 39) = false := by rw [h39]; rfl
            have a2 : (R == 39) = true := by rw [h39]; rfl
            have a3 : decide (R ≥ 48) = false := by rw [h39]; rfl
            refine ⟨j, ?_⟩
            rw [a1, a2, a3, cond_false, cond_false]
            exact next
          · have a1 : (R != 39) = true := by rw [bne_iff_ne]; exact h39
            have a2 : (R == 39) = false := by rw [beq_eq_false_iff_ne]; exact h39
            rw [a1, a2, cond_true]
            by_cases h48 : R < 48
            · refine ⟨i + (Utf8.decode s i).2, ?_⟩
              rw [decide_eq_true h48, cond_true, decide_eq_false (by omega : ¬ R ≥ 48), cond_false]
              exact done
            · by_cases h57 : R > 57
              · refine ⟨i + (Utf8.decode s i).2, ?_⟩
                rw [decide_eq_false h48, cond_false, decide_eq_true h57, cond_true, decide_eq_true (by omega : R ≥ 48), cond_true, decide_eq_false (by omega : ¬ R ≤ 57), cond_false]
                exact done
              · refine ⟨j, ?_⟩
                rw [decide_eq_false h48, cond_false, decide_eq_false h57, cond_false, decide_eq_true (by omega : R ≥ 48), cond_true, decide_eq_true (by omega : R ≤ 57), cond_true]
                exact next
    · rw [L40_step, decide_eq_false h, cond_false, runesL_nil (by omega)]
      exact ⟨i, by rw [if_pos (by simp [okFrom])]; rfl⟩
/-- Is it a name? -/
def isName (s : ByteArray) : Bool := decide (1 ≤ (runesL s 0).length ∧ (runesL s 0).length ≤ 32) && okFrom true (runesL s 0)
theorem n40_eq {s : ByteArray} (hs : s.size ≤ 1048576) : n40 s = some (bif isName s then 0 else 21) := by
  obtain ⟨j, hj⟩ := L40 hs s.size 1000000000000 0 0 (by omega) (by omega) (by omega) (by omega)
  show (((L40_0 1000000000000 (0, s, 0) ()).bind fun p12 => match p12.1 with | .x0 z13 z14 z15 => (some z13) | .x1 z16 z17 z18 => (bif (bif (z16 == 0) then true else (decide (z16 > 32))) then (some 21) else (some 0))) : Option Int) = _
  rw [show (0 : Int) = ((0 : Nat) : Int) from rfl, hj, Option.bind_some, show decide ((0 : Nat) = 0) = true from rfl, Nat.zero_add]
  unfold isName
  cases okFrom true (runesL s 0) with
  | false => rw [Bool.and_false, if_neg (by simp)]; rfl
  | true =>
    rw [Bool.and_true, if_pos rfl]
    simp only
    by_cases h0 : (runesL s 0).length = 0
    · rw [h0]; rfl
    · have b0 : ((((runesL s 0).length : Nat) : Int) == ((0 : Nat) : Int)) = false := by rw [beq_eq_false_iff_ne]; omega
      rw [b0, cond_false]
      by_cases h32 : (runesL s 0).length ≤ 32
      · rw [decide_eq_false (by omega), cond_false, decide_eq_true (by omega)]; rfl
      · rw [decide_eq_true (by omega), cond_true, decide_eq_false (by omega)]; rfl
theorem lidx_map {α : Type} (f : α → D) (l : List α) (k : Nat) : lidx (l.map f) (k : Int) = (l[k]?).map f := by
  unfold lidx
  rw [if_pos (by omega), Int.toNat_natCast, List.getElem?_map]
theorem L41_step (v : List D) (k n : Nat) : L41_0 (n + 1) (v, (k : Int)) () = (bif (decide ((k : Int) < ((v.length : Nat) : Int))) then ((lidx v (k : Int)).bind fun d9 => ask (d9.cells.length = 3) ((cellAt 0 d9).bind fun x10 => (asInt .i64 x10).bind fun x11 => ((n72 x11).bind fun y12 => (bif (!y12) then (some (O41_0.x0 false, ())) else (L41_0 n (v, (w64 ((k : Int) + 1))) ()))))) else (some (O41_0.x1 , ()))) := rfl
theorem L41 {l : List Ru} (hl : l.length ≤ 1048576) : ∀ (d n k : Nat), l.length - k ≤ d → d < n → k ≤ l.length → L41_0 n (l.map encR, (k : Int)) () = some (if okFrom false (l.drop k) = true then O41_0.x1 else O41_0.x0 false, ()) := by
  intro d
  induction d with
  | zero =>
    intro n k hd hn hk
    obtain ⟨m, rfl⟩ : ∃ m, n = m + 1 := ⟨n - 1, by omega⟩
    rw [L41_step, List.length_map, decide_eq_false (by omega), cond_false, List.drop_eq_nil_of_le (by omega)]
    rfl
  | succ d ih =>
    intro n k hd hn hk
    obtain ⟨m, rfl⟩ : ∃ m, n = m + 1 := ⟨n - 1, by omega⟩
    by_cases h : k < l.length
    · have e5 : w64 ((k : Int) + 1) = ((k + 1 : Nat) : Int) := by rw [w64_id (by omega) (by omega)]; omega
      rw [L41_step, List.length_map, decide_eq_true (by omega), cond_true, lidx_map, List.getElem?_eq_getElem h, Option.map_some, Option.bind_some, ask_of (show (encR l[k]).cells.length = 3 from rfl)]
      show (n72 (l[k]).1).bind _ = _
      rw [n72_eq, Option.bind_some, e5, List.drop_eq_getElem_cons h]
      cases hr : restB (l[k]).1 with
      | false =>
        rw [if_neg (by simp [okFrom, hr])]; rfl
      | true =>
        rw [Bool.not_true, cond_false, ih m (k + 1) (by omega) (by omega) (by omega)]
        simp [okFrom, hr]
    · rw [L41_step, List.length_map, decide_eq_false (by omega), cond_false, List.drop_eq_nil_of_le (by omega)]
      rfl
theorem n41_eq {s : ByteArray} (hs : s.size ≤ 1048576) : n41 s = some (isName s) := by
  have hle := runesL_length (s := s) s.size 0 (by omega)
  show ((n29 s).bind fun y2 => (bif (bif (decide (((y2.length : Nat) : Int) < 1)) then true else (decide (((y2.length : Nat) : Int) > 32))) then (some false) else ((lidx y2 0).bind fun d3 => ask (d3.cells.length = 3) ((cellAt 0 d3).bind fun x4 => (asInt .i64 x4).bind fun x5 => ((n38 x5).bind fun y6 => (bif (!y6) then (some false) else ((L41_0 1000000000000 (y2, 1) ()).bind fun p14 => match p14.1 with | .x0 z15 => (some z15) | .x1  => (some true)))))))) = _
  rw [n29_eq hs, Option.bind_some, List.length_map]
  unfold isName
  by_cases h0 : (runesL s 0).length < 1
  · rw [decide_eq_true (by omega), cond_true, cond_true, decide_eq_false (by omega), Bool.false_and]
  · rw [decide_eq_false (by omega), cond_false]
    by_cases h32 : (runesL s 0).length > 32
    · rw [decide_eq_true (by omega), cond_true, decide_eq_false (by omega), Bool.false_and]
    · have hl := L41 (l := runesL s 0) (by omega) (runesL s 0).length 1000000000000 1 (by omega) (by omega) (by omega)
      rw [decide_eq_false (by omega), cond_false, decide_eq_true (by omega), Bool.true_and, show (0 : Int) = ((0 : Nat) : Int) from rfl, lidx_map, List.getElem?_eq_getElem (by omega), Option.map_some, Option.bind_some, ask_of (show (encR (runesL s 0)[0]).cells.length = 3 from rfl)]
      show (n38 ((runesL s 0)[0]).1).bind _ = _
      rw [n38_eq, Option.bind_some]
      have hc : okFrom true (runesL s 0) = (letB ((runesL s 0)[0]).1 && okFrom false ((runesL s 0).drop 1)) := by
        have : runesL s 0 = (runesL s 0)[0] :: (runesL s 0).drop 1 := by
          conv => lhs; rw [← List.drop_zero (l := runesL s 0), List.drop_eq_getElem_cons (by omega)]
        conv => lhs; rw [this]
        rfl
      rw [hc]
      cases letB ((runesL s 0)[0]).1 with
      | false => rfl
      | true =>
        rw [Bool.not_true, cond_false, Bool.true_and, show (1 : Int) = ((1 : Nat) : Int) from rfl, hl, Option.bind_some]
        cases okFrom false ((runesL s 0).drop 1) <;> rfl
theorem wf_i32 {a : Int} (w : (Lit.int .i32 a).wf = true) : i64 a := by
  simp [Lit.wf, IntKind.min, IntKind.max, IntKind.signed, IntKind.bits] at w
  omega
theorem plain11 (a0 : Int) (a1 : ByteArray) (h : a1.size ≤ 1048576) (w : (Lit.int .i32 a0).wf = true) : n11 (a0, a1) = some true := by
  have hv := wf_i32 w
  simp only [n11, n37_eq, n38_eq, n40_eq h, n41_eq h, n39, w64_id hv.1 hv.2, Option.bind_some, beq_self_eq_true, cond_true, alive_true]
  cases isName a1 <;> rfl
end Ev

/- Plain laws: the program's iterator over runes. -/
set_option linter.unusedSimpArgs false
set_option linter.unusedVariables false
namespace Ev
open Go

/-- The rune, where it begins, its line, its column. -/
abbrev Sp := Int × Nat × Nat × Nat
def spotsOf : Nat → Nat → List Ru → List Sp
  | _, _, [] => []
  | l, c, r :: t => (r.1, r.2.1, l, c) :: (if r.1 = 10 then spotsOf (l + 1) 1 t else spotsOf l (c + 1) t)
def encS (p : Sp) : D := .agg [.val (.int .i64 p.2.1), .val (.int .i64 p.2.2.1), .val (.int .i64 p.2.2.2)]
def encC (p : Sp) : D := .val (.int .i32 p.1)
def runY {σ : Type} (Y : Yd σ) : List Sp → σ → Option (Bool × σ)
  | [], st => some (true, st)
  | p :: t, st => (Y [encS p, encC p] st).bind fun q => bif q.1 then runY Y t q.2 else some (false, q.2)
theorem n84_eq {s : ByteArray} (hs : s.size ≤ 1048576) {i : Nat} (hi : i < s.size) : n84 (s, (i : Int)) = some (decide (wd s i = 1)) := by
  show (ask (cutOk (i : Int) (s.size : Int) s.size) ((n107 (s.extract (Int.toNat (i : Int)) (Int.toNat (s.size : Int)))).bind fun y3 => (some (y3.2 == 1)))) = _
  rw [ask_of ⟨by omega, by omega, by omega⟩, Int.toNat_natCast, Int.toNat_natCast]
  have e : Lib.decodeGo (s.extract i s.size) = Utf8.decode s i := by
    unfold Lib.decodeGo
    have hsz : (s.extract i s.size).size = s.size - i := by simp
    rw [if_neg (by rw [hsz]; omega)]
    exact Lib.tail_decode s i 0
  show (some ((((Lib.decodeGo (s.extract i s.size)).2 : Nat) : Int) == 1) : Option Bool) = _
  rw [e]
  congr 1
  unfold wd
  rw [Bool.eq_iff_iff, beq_iff_eq, decide_eq_true_iff]
  omega
def ofO83 : O83_0 → ByteArray
  | .x0 z _ _ _ _ _ => z
  | .x1 z _ _ _ _ _ => z
theorem L83_step {σ : Type} (Y : Yd σ) (s : ByteArray) (v2 v3 v4 : Int) (i n : Nat) (st : σ) : L83_0 Y (n + 1) (s, v2, v3, v4, s, i) st = (bif decide (i < s.size) then (bif (((Utf8.decode s i).1 : Int) == 65533) then ((n84 (s, (i : Int))).bind fun y7 => (bif y7 then ((Y [.agg [.val (.int .i64 (i : Int)), .val (.int .i64 v3), .val (.int .i64 v4)], .val (.int .i32 (-1))] st).bind fun q8 => (bif (!q8.1) then (some (O83_0.x0 s (i : Int) v3 v4 s (i + (Utf8.decode s i).2), q8.2)) else (L83_0 Y n (s, (i : Int), v3, (w64 (v4 + 1)), s, (i + (Utf8.decode s i).2)) q8.2))) else ((Y [.agg [.val (.int .i64 (i : Int)), .val (.int .i64 v3), .val (.int .i64 v4)], .val (.int .i32 ((Utf8.decode s i).1 : Int))] st).bind fun q15 => (bif (!q15.1) then (some (O83_0.x0 s (i : Int) v3 v4 s (i + (Utf8.decode s i).2), q15.2)) else (bif (((Utf8.decode s i).1 : Int) == 10) then (L83_0 Y n (s, (i : Int), (w64 (v3 + 1)), 1, s, (i + (Utf8.decode s i).2)) q15.2) else (L83_0 Y n (s, (i : Int), v3, (w64 (v4 + 1)), s, (i + (Utf8.decode s i).2)) q15.2)))))) else ((Y [.agg [.val (.int .i64 (i : Int)), .val (.int .i64 v3), .val (.int .i64 v4)], .val (.int .i32 ((Utf8.decode s i).1 : Int))] st).bind fun q16 => (bif (!q16.1) then (some (O83_0.x0 s (i : Int) v3 v4 s (i + (Utf8.decode s i).2), q16.2)) else (bif (((Utf8.decode s i).1 : Int) == 10) then (L83_0 Y n (s, (i : Int), (w64 (v3 + 1)), 1, s, (i + (Utf8.decode s i).2)) q16.2) else (L83_0 Y n (s, (i : Int), v3, (w64 (v4 + 1)), s, (i + (Utf8.decode s i).2)) q16.2))))) else (some (O83_0.x1 s v2 v3 v4 s i, st))) := rfl
/-- One round, told by the rune as it is handed on. -/
theorem L83_round {σ : Type} (Y : Yd σ) {s : ByteArray} (hs : s.size ≤ 1048576) (v2 : Int) (l c : Nat) (hl : l ≤ 1048577) (hc : c ≤ 1048577) {i : Nat} (hi : i < s.size) (n : Nat) (st : σ) :
    ∃ o, ofO83 o = s ∧ L83_0 Y (n + 1) (s, v2, (l : Int), (c : Int), s, i) st = (Y [encS (rn s i, i, l, c), encC (rn s i, i, l, c)] st).bind fun q => (bif (!q.1) then (some (o, q.2)) else (bif (rn s i == 10) then (L83_0 Y n (s, (i : Int), ((l + 1 : Nat) : Int), ((1 : Nat) : Int), s, i + wd s i) q.2) else (L83_0 Y n (s, (i : Int), (l : Int), ((c + 1 : Nat) : Int), s, i + wd s i) q.2))) := by
  have e1 : w64 ((l : Int) + 1) = ((l + 1 : Nat) : Int) := by rw [w64_id (by omega) (by omega)]; omega
  have e2 : w64 ((c : Int) + 1) = ((c + 1 : Nat) : Int) := by rw [w64_id (by omega) (by omega)]; omega
  refine ⟨O83_0.x0 s (i : Int) l c s (i + (Utf8.decode s i).2), rfl, ?_⟩
  rw [L83_step, decide_eq_true hi, cond_true, e1, e2, n84_eq hs hi, Option.bind_some]
  by_cases hr : (Utf8.decode s i).1 = 65533
  · have b1 : (((Utf8.decode s i).1 : Int) == 65533) = true := by rw [hr]; rfl
    rw [b1, cond_true]
    by_cases hw : wd s i = 1
    · have hrn : rn s i = -1 := by
        unfold rn
        rw [if_pos (Prod.ext hr hw)]
      rw [decide_eq_true hw, cond_true, hrn]
      rfl
    · have hrn : rn s i = ((Utf8.decode s i).1 : Int) := by
        unfold rn
        rw [if_neg (fun h => hw (congrArg Prod.snd h))]
      rw [decide_eq_false hw, cond_false, hrn]
      rfl
  · have b1 : (((Utf8.decode s i).1 : Int) == 65533) = false := by rw [beq_eq_false_iff_ne]; omega
    have hrn : rn s i = ((Utf8.decode s i).1 : Int) := by
      unfold rn
      rw [if_neg (fun h => hr (congrArg Prod.fst h))]
    rw [b1, cond_false, hrn]
    rfl
theorem L83 {σ : Type} (Y : Yd σ) {s : ByteArray} (hs : s.size ≤ 1048576) : ∀ (d n i l c : Nat) (v2 : Int) (st : σ), s.size - i ≤ d → d < n → i ≤ s.size → l ≤ i + 1 → c ≤ i + 1 →
    (L83_0 Y n (s, v2, (l : Int), (c : Int), s, i) st).map (fun p => (ofO83 p.1, p.2)) = (runY Y (spotsOf l c (runesL s i)) st).map (fun q => (s, q.2)) := by
  intro d
  induction d with
  | zero =>
    intro n i l c v2 st hd hn hi hl hc
    obtain ⟨m, rfl⟩ : ∃ m, n = m + 1 := ⟨n - 1, by omega⟩
    rw [L83_step, decide_eq_false (by omega), cond_false, runesL_nil (by omega)]
    rfl
  | succ d ih =>
    intro n i l c v2 st hd hn hi hl hc
    obtain ⟨m, rfl⟩ : ∃ m, n = m + 1 := ⟨n - 1, by omega⟩
    by_cases h : i < s.size
    · have w1 := wd_pos s i
      have w2 := wd_le h
      obtain ⟨o, ho, e⟩ := L83_round Y hs v2 l c (by omega) (by omega) h m st
      rw [e, runesL_cons h, spotsOf, runY]
      cases hq : Y [encS (rn s i, i, l, c), encC (rn s i, i, l, c)] st with
      | none => rfl
      | some q =>
        rw [Option.bind_some, Option.bind_some]
        cases q.1 with
        | false => simp [ho]
        | true =>
          rw [Bool.not_true, cond_false, cond_true]
          by_cases h10 : rn s i = 10
          · rw [show (rn s i == 10) = true from beq_iff_eq.2 h10, cond_true, if_pos h10]
            exact ih m (i + wd s i) (l + 1) 1 _ _ (by omega) (by omega) w2 (by omega) (by omega)
          · rw [show (rn s i == 10) = false from beq_eq_false_iff_ne.2 h10, cond_false, if_neg h10]
            exact ih m (i + wd s i) l (c + 1) _ _ (by omega) (by omega) w2 (by omega) (by omega)
    · rw [L83_step, decide_eq_false h, cond_false, runesL_nil (by omega)]
      rfl
/-- A text's spots. -/
def spots (s : ByteArray) : List Sp := spotsOf 1 1 (runesL s 0)
theorem n83_eq {σ : Type} (Y : Yd σ) {s : ByteArray} (hs : s.size ≤ 1048576) (st : σ) : n83 Y s st = (runY Y (spots s) st).map (fun q => (s, q.2)) := by
  have h := L83 Y hs s.size 1000000000000 0 1 1 0 st (by omega) (by omega) (by omega) (by omega) (by omega)
  show ((L83_0 Y 1000000000000 (s, 0, 1, 1, s, 0) st).bind fun p23 => match p23.1 with | .x0 z24 z25 z26 z27 z28 z29 => (some (z24, p23.2)) | .x1 z30 z31 z32 z33 z34 z35 => (some (z30, p23.2))) = _
  rw [show spotsOf 1 1 (runesL s 0) = spots s from rfl] at h
  rw [← h]
  show _ = Option.map _ (L83_0 Y 1000000000000 (s, 0, 1, 1, s, 0) st)
  cases L83_0 Y 1000000000000 (s, 0, 1, 1, s, 0) st with
  | none => rfl
  | some p =>
    obtain ⟨o, st'⟩ := p
    cases o <;> rfl

/-! runes, as lists -/
theorem encC_len (p : Sp) : (encC p).cells.length = 1 := rfl
theorem W28_step (a b : List Sp) (k9 k10 : Nat) (p : Sp) (h : (a.length + 1) * 24 ≤ maxBytes) (h' : (b.length + 1) * 4 ≤ maxBytes) : W28_0 (σ := Unit) () [encS p, encC p] (.inl (a.map encS, b.map encC, k9, k10), ()) = some (true, (.inl ((a ++ [p]).map encS, (b ++ [p]).map encC, k9, k10), ())) := by
  show ask (addOk (a.map encS).length (a.map encS) [encS p] 3 24) (ask (addOk (b.map encC).length (b.map encC) [encC p] 1 4) (ask (([k9, k10, ((a.map encS).length + ([encS p] : List D).length), ((b.map encC).length + ([encC p] : List D).length)] : List Nat) = [k9, k10, (a.map encS ++ [encS p]).length, (b.map encC ++ [encC p]).length]) (some (true, (Sum.inl (a.map encS ++ [encS p], b.map encC ++ [encC p], k9, k10), ()))))) = _
  rw [ask_of (addOk_map encS 3 24 (fun _ => rfl) a p h), ask_of (addOk_map encC 1 4 (fun _ => rfl) b p h'), ask_of (by simp), map_snoc, map_snoc]
theorem run28 (k9 k10 : Nat) : ∀ (l a b : List Sp), a.length + l.length ≤ 1048577 → b.length + l.length ≤ 1048577 → runY (W28_0 (σ := Unit) ()) l (.inl (a.map encS, b.map encC, k9, k10), ()) = some (true, (.inl ((a ++ l).map encS, (b ++ l).map encC, k9, k10), ()))
  | [], a, b, _, _ => by simp [runY]
  | p :: l, a, b, h, h' => by
    simp only [List.length_cons] at h h'
    rw [runY, W28_step a b k9 k10 p (by unfold maxBytes; omega) (by unfold maxBytes; omega), Option.bind_some, cond_true, run28 k9 k10 l (a ++ [p]) (b ++ [p]) (by simp; omega) (by simp; omega), List.append_assoc, List.append_assoc]
    rfl
theorem spotsOf_length : ∀ (l c : Nat) (t : List Ru), (spotsOf l c t).length = t.length
  | _, _, [] => rfl
  | l, c, r :: t => by
    rw [spotsOf, List.length_cons, List.length_cons]
    split
    · rw [spotsOf_length]
    · rw [spotsOf_length]
theorem spots_length (s : ByteArray) : (spots s).length = (runesL s 0).length := spotsOf_length _ _ _
theorem spots_le (s : ByteArray) : (spots s).length ≤ s.size := by
  have := runesL_length (s := s) s.size 0 (by omega)
  rw [spots_length]; omega
theorem n28_eq {s : ByteArray} (hs : s.size ≤ 1048576) : n28 s = some ((spots s).map encS, (spots s).map encC) := by
  have hl := spots_le s
  show (ask (([0, 0, 0, 0] : List Nat) = [0, 0, ([] : List D).length, ([] : List D).length]) ((n83 (W28_0 ()) s (Sum.inl (([] : List D), ([] : List D), 0, 0), ())).bind fun p11 => match p11.2.1 with | .inl z12 => (some ((z12.1), (z12.2.1))) | .inr o13 => nomatch o13)) = _
  rw [ask_of (show ([0, 0, 0, 0] : List Nat) = [0, 0, ([] : List D).length, ([] : List D).length] from rfl), n83_eq _ hs]
  have := run28 0 0 (spots s) [] [] (by simp; omega) (by simp; omega)
  rw [show (([] : List Sp).map encS) = [] from rfl, show (([] : List Sp).map encC) = [] from rfl] at this
  rw [this]
  rfl
end Ev

/- Plain law: TextRunes. -/
set_option linter.unusedSimpArgs false
set_option linter.unusedVariables false
namespace Ev
open Go

theorem L30_step (v2 v3 : List D) (k : Nat) (v5 v6 v7 : Int) (k8 n : Nat) : L30_0 (n + 1) (v2, v3, (k : Int), v5, v6, v7, k8) () = (bif (decide ((k : Int) < ((v2.length : Nat) : Int))) then ((lidx v2 (k : Int)).bind fun d9 => ask (d9.cells.length = 3) ((cellAt 1 d9).bind fun x10 => (asInt .i64 x10).bind fun x11 => (ask (addOk v3.length v3 ([.agg [.val (.int .i64 x11), .val (.int .i64 v6), .val (.int .i64 v7)]] : List D) 3 24) ((lidx v2 (k : Int)).bind fun d12 => ask (d12.cells.length = 3) ((cellAt 0 d12).bind fun x13 => (asInt .i64 x13).bind fun x14 => (bif (x14 == 10) then (ask (([k8, (v3.length + ([.agg [.val (.int .i64 x11), .val (.int .i64 v6), .val (.int .i64 v7)]] : List D).length)] : List Nat) = [k8, (v3 ++ ([.agg [.val (.int .i64 x11), .val (.int .i64 v6), .val (.int .i64 v7)]] : List D)).length]) (L30_0 n (v2, (v3 ++ ([.agg [.val (.int .i64 x11), .val (.int .i64 v6), .val (.int .i64 v7)]] : List D)), (w64 ((k : Int) + 1)), x11, (w64 (v6 + 1)), 1, k8) ())) else (ask (([k8, (v3.length + ([.agg [.val (.int .i64 x11), .val (.int .i64 v6), .val (.int .i64 v7)]] : List D).length)] : List Nat) = [k8, (v3 ++ ([.agg [.val (.int .i64 x11), .val (.int .i64 v6), .val (.int .i64 v7)]] : List D)).length]) (L30_0 n (v2, (v3 ++ ([.agg [.val (.int .i64 x11), .val (.int .i64 v6), .val (.int .i64 v7)]] : List D)), (w64 ((k : Int) + 1)), x11, v6, (w64 (v7 + 1)), k8) ())))))))) else (ask (([k8, v3.length] : List Nat) = [k8, v3.length]) (some (O30_0.x0 v3 v5 v6 v7 k8, ())))) := rfl
theorem L30_round {l : List Ru} (hl : l.length ≤ 1048576) (acc : List Sp) (ha : acc.length ≤ 1048576) {k : Nat} (hk : k < l.length) (v5 : Int) (ln c : Nat) (h1 : ln ≤ 1048577) (h2 : c ≤ 1048577) (k8 n : Nat) :
    L30_0 (n + 1) (l.map encR, acc.map encS, (k : Int), v5, (ln : Int), (c : Int), k8) () = (bif ((l[k]).1 == 10) then (L30_0 n (l.map encR, (acc ++ [((l[k]).1, (l[k]).2.1, ln, c)]).map encS, ((k + 1 : Nat) : Int), ((l[k]).2.1 : Int), ((ln + 1 : Nat) : Int), ((1 : Nat) : Int), k8) ()) else (L30_0 n (l.map encR, (acc ++ [((l[k]).1, (l[k]).2.1, ln, c)]).map encS, ((k + 1 : Nat) : Int), ((l[k]).2.1 : Int), (ln : Int), ((c + 1 : Nat) : Int), k8) ())) := by
  have e0 : w64 ((k : Int) + 1) = ((k + 1 : Nat) : Int) := by rw [w64_id (by omega) (by omega)]; omega
  have e1 : w64 ((ln : Int) + 1) = ((ln + 1 : Nat) : Int) := by rw [w64_id (by omega) (by omega)]; omega
  have e2 : w64 ((c : Int) + 1) = ((c + 1 : Nat) : Int) := by rw [w64_id (by omega) (by omega)]; omega
  rw [L30_step, List.length_map, decide_eq_true (by omega), cond_true, lidx_map, List.getElem?_eq_getElem hk, Option.map_some, Option.bind_some, ask_of (show (encR l[k]).cells.length = 3 from rfl), e0, e1, e2]
  show ask (addOk (acc.map encS).length (acc.map encS) [encS ((l[k]).1, (l[k]).2.1, ln, c)] 3 24) (bif ((l[k]).1 == 10) then (ask (([k8, (acc.map encS).length + ([encS ((l[k]).1, (l[k]).2.1, ln, c)] : List D).length] : List Nat) = [k8, (acc.map encS ++ [encS ((l[k]).1, (l[k]).2.1, ln, c)]).length]) (L30_0 n (l.map encR, acc.map encS ++ [encS ((l[k]).1, (l[k]).2.1, ln, c)], ((k + 1 : Nat) : Int), ((l[k]).2.1 : Int), ((ln + 1 : Nat) : Int), ((1 : Nat) : Int), k8) ())) else (ask (([k8, (acc.map encS).length + ([encS ((l[k]).1, (l[k]).2.1, ln, c)] : List D).length] : List Nat) = [k8, (acc.map encS ++ [encS ((l[k]).1, (l[k]).2.1, ln, c)]).length]) (L30_0 n (l.map encR, acc.map encS ++ [encS ((l[k]).1, (l[k]).2.1, ln, c)], ((k + 1 : Nat) : Int), ((l[k]).2.1 : Int), (ln : Int), ((c + 1 : Nat) : Int), k8) ()))) = _
  rw [ask_of (addOk_map encS 3 24 (fun _ => rfl) acc _ (by unfold maxBytes; omega)), ask_of (toks_one encS acc _ k8), ask_of (toks_one encS acc _ k8), map_snoc]
theorem L30 {l : List Ru} (hl : l.length ≤ 1048576) : ∀ (d n k : Nat) (acc : List Sp) (v5 : Int) (ln c k8 : Nat), l.length - k ≤ d → d < n → k ≤ l.length → acc.length ≤ k → ln ≤ k + 1 → c ≤ k + 1 →
    ∃ x y z, L30_0 n (l.map encR, acc.map encS, (k : Int), v5, (ln : Int), (c : Int), k8) () = some (O30_0.x0 ((acc ++ spotsOf ln c (l.drop k)).map encS) x y z k8, ()) := by
  intro d
  induction d with
  | zero =>
    intro n k acc v5 ln c k8 hd hn hk ha h1 h2
    obtain ⟨m, rfl⟩ : ∃ m, n = m + 1 := ⟨n - 1, by omega⟩
    rw [L30_step, List.length_map, decide_eq_false (by omega), cond_false, ask_of rfl, List.drop_eq_nil_of_le (by omega), spotsOf, List.append_nil]
    exact ⟨_, _, _, rfl⟩
  | succ d ih =>
    intro n k acc v5 ln c k8 hd hn hk ha h1 h2
    obtain ⟨m, rfl⟩ : ∃ m, n = m + 1 := ⟨n - 1, by omega⟩
    by_cases h : k < l.length
    · rw [L30_round hl acc (by omega) h v5 ln c (by omega) (by omega) k8 m, List.drop_eq_getElem_cons h, spotsOf]
      by_cases h10 : (l[k]).1 = 10
      · rw [show ((l[k]).1 == 10) = true from beq_iff_eq.2 h10, cond_true, if_pos h10]
        obtain ⟨x, y, z, e⟩ := ih m (k + 1) (acc ++ [((l[k]).1, (l[k]).2.1, ln, c)]) ((l[k]).2.1 : Int) (ln + 1) 1 k8 (by omega) (by omega) (by omega) (by simp; omega) (by omega) (by omega)
        exact ⟨x, y, z, by rw [e, List.append_assoc]; rfl⟩
      · rw [show ((l[k]).1 == 10) = false from beq_eq_false_iff_ne.2 h10, cond_false, if_neg h10]
        obtain ⟨x, y, z, e⟩ := ih m (k + 1) (acc ++ [((l[k]).1, (l[k]).2.1, ln, c)]) ((l[k]).2.1 : Int) ln (c + 1) k8 (by omega) (by omega) (by omega) (by simp; omega) (by omega) (by omega)
        exact ⟨x, y, z, by rw [e, List.append_assoc]; rfl⟩
    · rw [L30_step, List.length_map, decide_eq_false (by omega), cond_false, ask_of rfl, List.drop_eq_nil_of_le (by omega), spotsOf, List.append_nil]
      exact ⟨_, _, _, rfl⟩
theorem n30_eq {s : ByteArray} (hs : s.size ≤ 1048576) : n30 ((runesL s 0).map encR) = some ((spots s).map encS) := by
  have hle := runesL_length (s := s) s.size 0 (by omega)
  obtain ⟨x, y, z, e⟩ := L30 (l := runesL s 0) (by omega) (runesL s 0).length 1000000000000 0 [] 0 1 1 0 (by omega) (by omega) (by omega) (by simp) (by omega) (by omega)
  show (ask (([0, 0] : List Nat) = [0, ([] : List D).length]) ((L30_0 1000000000000 ((runesL s 0).map encR, ([] : List Sp).map encS, ((0 : Nat) : Int), 0, ((1 : Nat) : Int), ((1 : Nat) : Int), 0) ()).bind fun p20 => match p20.1 with | .x0 z21 z22 z23 z24 z25 => (some z21))) = _
  rw [ask_of (show ([0, 0] : List Nat) = [0, ([] : List D).length] from rfl), e]
  rfl
/-! the law -/
theorem sp_ru : ∀ (l c : Nat) (t : List Ru) (k : Nat) (p : Sp), (spotsOf l c t)[k]? = some p → ∃ r, t[k]? = some r ∧ r.1 = p.1 ∧ r.2.1 = p.2.1
  | _, _, [], k, p, h => by simp [spotsOf] at h
  | l, c, r :: t, 0, p, h => by
    simp only [spotsOf, List.getElem?_cons_zero, Option.some.injEq] at h
    subst h
    exact ⟨r, rfl, rfl, rfl⟩
  | l, c, r :: t, k + 1, p, h => by
    simp only [spotsOf, List.getElem?_cons_succ] at h ⊢
    split at h
    · exact sp_ru _ _ t k p h
    · exact sp_ru _ _ t k p h
theorem L7_step (v5 v6 v7 v8 : List D) (k : Nat) (n : Nat) : L7_0 (n + 1) (v5, v6, v7, v8, (k : Int)) () = (bif (decide ((k : Int) < ((v7.length : Nat) : Int))) then ((lidx v6 (k : Int)).bind fun d10 => ask (d10.cells.length = 1) ((cellAt 0 d10).bind fun x11 => (asInt .i32 x11).bind fun x12 => ((lidx v7 (k : Int)).bind fun d13 => ask (d13.cells.length = 3) ((cellAt 0 d13).bind fun x14 => (asInt .i64 x14).bind fun x15 => (bif ((w64 x12) != x15) then (some (O7_0.x0 false, ())) else ((lidx v5 (k : Int)).bind fun d17 => ask (d17.cells.length = 3) ((cellAt 0 d17).bind fun x18 => (asInt .i64 x18).bind fun x19 => ((cellAt 1 d17).bind fun x20 => (asInt .i64 x20).bind fun x21 => ((cellAt 2 d17).bind fun x22 => (asInt .i64 x22).bind fun x23 => ((lidx v8 (k : Int)).bind fun d24 => ask (d24.cells.length = 3) ((cellAt 0 d24).bind fun x25 => (asInt .i64 x25).bind fun x26 => ((cellAt 1 d24).bind fun x27 => (asInt .i64 x27).bind fun x28 => ((cellAt 2 d24).bind fun x29 => (asInt .i64 x29).bind fun x30 => ((n31 (x19, x21, x23, x26, x28, x30)).bind fun y31 => (bif (!y31) then (some (O7_0.x0 false, ())) else (L7_0 n (v5, v6, v7, v8, (w64 ((k : Int) + 1))) ())))))))))))))))) else (some (O7_0.x1 , ()))) := rfl
theorem cellS0 (p : Sp) : cellAt 0 (encS p) = some (.val (.int .i64 p.2.1)) := rfl
theorem cellS1 (p : Sp) : cellAt 1 (encS p) = some (.val (.int .i64 p.2.2.1)) := rfl
theorem cellS2 (p : Sp) : cellAt 2 (encS p) = some (.val (.int .i64 p.2.2.2)) := rfl
theorem cellC0 (p : Sp) : cellAt 0 (encC p) = some (.val (.int .i32 p.1)) := rfl
theorem cellR0 (r : Ru) : cellAt 0 (encR r) = some (.val (.int .i64 r.1)) := rfl
theorem cellR1 (r : Ru) : cellAt 1 (encR r) = some (.val (.int .i64 r.2.1)) := rfl
theorem cellR2 (r : Ru) : cellAt 2 (encR r) = some (.val (.int .i64 r.2.2)) := rfl
theorem asI64 (n : Int) : asInt .i64 (.val (.int .i64 n)) = some n := rfl
theorem asI32 (n : Int) : asInt .i32 (.val (.int .i32 n)) = some n := rfl
theorem lenS (p : Sp) : (encS p).cells.length = 3 := rfl
theorem lenC (p : Sp) : (encC p).cells.length = 1 := rfl
theorem lenR (r : Ru) : (encR r).cells.length = 3 := rfl
theorem n31_same (a b c : Int) : n31 (a, b, c, a, b, c) = some true := by simp [n31]
theorem rn_mem {s : ByteArray} : ∀ (f i : Nat) (r : Ru), r ∈ runesF s f i → ∃ j, r.1 = rn s j
  | 0, _, r, h => by cases h
  | f + 1, i, r, h => by
    rw [runesF] at h
    split at h
    · rcases List.mem_cons.1 h with rfl | h
      · exact ⟨i, rfl⟩
      · exact rn_mem f _ r h
    · cases h
theorem L7 {s : ByteArray} (hs : s.size ≤ 1048576) : ∀ (d n k : Nat), (spots s).length - k ≤ d → d < n → k ≤ (spots s).length → L7_0 n ((spots s).map encS, (spots s).map encC, (runesL s 0).map encR, (spots s).map encS, (k : Int)) () = some (O7_0.x1, ()) := by
  have hle := spots_le s
  have hlen := spots_length s
  intro d
  induction d with
  | zero =>
    intro n k hd hn hk
    obtain ⟨m, rfl⟩ : ∃ m, n = m + 1 := ⟨n - 1, by omega⟩
    rw [L7_step, List.length_map, decide_eq_false (by omega), cond_false]
  | succ d ih =>
    intro n k hd hn hk
    obtain ⟨m, rfl⟩ : ∃ m, n = m + 1 := ⟨n - 1, by omega⟩
    by_cases h : k < (spots s).length
    · have e0 : w64 ((k : Int) + 1) = ((k + 1 : Nat) : Int) := by rw [w64_id (by omega) (by omega)]; omega
      have hp : (spots s)[k]? = some (spots s)[k] := List.getElem?_eq_getElem h
      obtain ⟨r, hr, h1, h2⟩ := sp_ru 1 1 (runesL s 0) k _ hp
      obtain ⟨j, hj⟩ := rn_mem _ _ r (List.mem_of_getElem? hr)
      have hrange := rn_range s j
      have ew : w64 ((spots s)[k]).1 = r.1 := by rw [← h1, hj, w64_id (by omega) (by omega)]
      rw [L7_step, List.length_map, decide_eq_true (by omega), cond_true, lidx_map, lidx_map, lidx_map, hp, hr, e0]
      simp only [Option.map_some, Option.bind_some, ask_of (lenS _), ask_of (lenC _), ask_of (lenR _), cellS0, cellS1, cellS2, cellC0, cellR0, asI64, asI32, ew, bne_self_eq_false, cond_false, n31_same, Bool.not_true]
      exact ih m (k + 1) (by omega) (by omega) (by omega)
    · rw [L7_step, List.length_map, decide_eq_false (by omega), cond_false]
theorem plain7 (a0 : ByteArray) (h : a0.size ≤ 1048576) : n7 a0 = some true := by
  have hle := spots_le a0
  have hL := L7 h (spots a0).length 1000000000000 0 (by omega) (by omega) (by omega)
  show ((n28 a0).bind fun y2 => ((n29 a0).bind fun y3 => ((n30 y3).bind fun y4 => (bif (((y2.1.length : Nat) : Int) != ((y3.length : Nat) : Int)) then (some false) else ((L7_0 1000000000000 (y2.1, y2.2, y3, y4, 0) ()).bind fun p32 => match p32.1 with | .x0 z33 => (some z33) | .x1  => ((n32 ()).bind fun y34 => (some y34))))))) = _
  rw [n28_eq h, Option.bind_some, n29_eq h, Option.bind_some, n30_eq h, Option.bind_some]
  simp only [List.length_map, spots_length, bne_self_eq_false, cond_false]
  rw [show ((0 : Int)) = ((0 : Nat) : Int) from rfl, hL, Option.bind_some]
  show (n32 ()).bind _ = _
  rw [alive_true]; rfl
end Ev

/- Plain law: TextSpots. -/
set_option linter.unusedSimpArgs false
set_option linter.unusedVariables false
namespace Ev
open Go

/-- Line and column of a place. -/
def atOf (off : Int) : Nat → Nat → List Ru → Nat × Nat
  | l, c, [] => (l, c)
  | l, c, r :: t => if (r.2.1 : Int) < off then (if r.1 = 10 then atOf off (l + 1) 1 t else atOf off l (c + 1) t) else (l, c)
def clamp (s : ByteArray) (a : Int) : Int := if (s.size : Int) < (if 0 > a then 0 else a) then (s.size : Int) else (if 0 > a then 0 else a)
theorem L59_step (v6 : Int) (v7 : List D) (k : Nat) (v9 v10 v11 v12 v13 v14 : Int) (n : Nat) : L59_0 (n + 1) (v6, v7, (k : Int), v9, v10, v11, v12, v13, v14) () = (bif (decide ((k : Int) < ((v7.length : Nat) : Int))) then ((lidx v7 (k : Int)).bind fun d15 => ask (d15.cells.length = 3) ((cellAt 1 d15).bind fun x16 => (asInt .i64 x16).bind fun x17 => (bif (decide (x17 < v6)) then ((lidx v7 (k : Int)).bind fun d18 => ask (d18.cells.length = 3) ((cellAt 0 d18).bind fun x19 => (asInt .i64 x19).bind fun x20 => (bif (x20 == 10) then (L59_0 n (v6, v7, (w64 ((k : Int) + 1)), v9, v10, v11, v12, (w64 (v13 + 1)), 1) ()) else (L59_0 n (v6, v7, (w64 ((k : Int) + 1)), v9, v10, v11, v12, v13, (w64 (v14 + 1))) ())))) else (some (O59_0.x0 v9 v10 v11 v12 v13 v14, ()))))) else (some (O59_0.x0 v9 v10 v11 v12 v13 v14, ()))) := rfl
theorem L59 {l : List Ru} (hl : l.length ≤ 1048576) (off v9 v10 v11 v12 : Int) : ∀ (d n k ln c : Nat), l.length - k ≤ d → d < n → k ≤ l.length → ln ≤ k + 1 → c ≤ k + 1 →
    L59_0 n (off, l.map encR, (k : Int), v9, v10, v11, v12, (ln : Int), (c : Int)) () = some (O59_0.x0 v9 v10 v11 v12 ((atOf off ln c (l.drop k)).1 : Int) ((atOf off ln c (l.drop k)).2 : Int), ()) := by
  intro d
  induction d with
  | zero =>
    intro n k ln c hd hn hk h1 h2
    obtain ⟨m, rfl⟩ : ∃ m, n = m + 1 := ⟨n - 1, by omega⟩
    rw [L59_step, List.length_map, decide_eq_false (by omega), cond_false, List.drop_eq_nil_of_le (by omega), atOf]
  | succ d ih =>
    intro n k ln c hd hn hk h1 h2
    obtain ⟨m, rfl⟩ : ∃ m, n = m + 1 := ⟨n - 1, by omega⟩
    by_cases h : k < l.length
    · have e0 : w64 ((k : Int) + 1) = ((k + 1 : Nat) : Int) := by rw [w64_id (by omega) (by omega)]; omega
      have e1 : w64 ((ln : Int) + 1) = ((ln + 1 : Nat) : Int) := by rw [w64_id (by omega) (by omega)]; omega
      have e2 : w64 ((c : Int) + 1) = ((c + 1 : Nat) : Int) := by rw [w64_id (by omega) (by omega)]; omega
      rw [L59_step, List.length_map, decide_eq_true (by omega), cond_true, lidx_map, List.getElem?_eq_getElem h, e0, e1, e2, List.drop_eq_getElem_cons h, atOf]
      simp only [Option.map_some, Option.bind_some, ask_of (lenR _), cellR0, cellR1, asI64]
      by_cases hlt : ((l[k]).2.1 : Int) < off
      · rw [decide_eq_true hlt, cond_true, if_pos hlt]
        by_cases h10 : (l[k]).1 = 10
        · rw [show ((l[k]).1 == 10) = true from beq_iff_eq.2 h10, cond_true, if_pos h10]
          exact ih m (k + 1) (ln + 1) 1 (by omega) (by omega) (by omega) (by omega) (by omega)
        · rw [show ((l[k]).1 == 10) = false from beq_eq_false_iff_ne.2 h10, cond_false, if_neg h10]
          exact ih m (k + 1) ln (c + 1) (by omega) (by omega) (by omega) (by omega) (by omega)
      · rw [decide_eq_false hlt, cond_false, if_neg hlt]
    · rw [L59_step, List.length_map, decide_eq_false (by omega), cond_false, List.drop_eq_nil_of_le (by omega), atOf]
/-- The spot of a place. -/
def atS (s : ByteArray) (a : Int) : Int × Int × Int := (clamp s a, ((atOf (clamp s a) 1 1 (runesL s 0)).1 : Int), ((atOf (clamp s a) 1 1 (runesL s 0)).2 : Int))
theorem n59_eq {s : ByteArray} (hs : s.size ≤ 1048576) (a : Int) : n59 (s, a) = some (atS s a) := by
  have hle := runesL_length (s := s) s.size 0 (by omega)
  have h := L59 (l := runesL s 0) (by omega) (clamp s a) 0 0 0 (clamp s a) (runesL s 0).length 1000000000000 0 1 1 (by omega) (by omega) (by omega) (by omega) (by omega)
  show ((n29 s).bind fun y5 => ((L59_0 1000000000000 (clamp s a, y5, ((0 : Nat) : Int), 0, 0, 0, clamp s a, ((1 : Nat) : Int), ((1 : Nat) : Int)) ()).bind fun p27 => match p27.1 with | .x0 z28 z29 z30 z31 z32 z33 => (some (z31, z32, z33)))) = _
  rw [n29_eq hs, Option.bind_some, h]
  rfl
theorem run56 (off v10 v11 v12 v13 : Int) : ∀ (t : List Ru) (l c : Nat), t.length + l ≤ 1048580 → t.length + c ≤ 1048580 →
    ∃ b, (runY (W56_0 (σ := Unit) ()) (spotsOf l c t) (.inl (off, v10, v11, v12, v13, (l : Int), (c : Int)), ()) = some (b, (.inl (off, v10, v11, v12, v13, ((atOf off l c t).1 : Int), ((atOf off l c t).2 : Int)), ())) ∨ runY (W56_0 (σ := Unit) ()) (spotsOf l c t) (.inl (off, v10, v11, v12, v13, (l : Int), (c : Int)), ()) = some (b, (.inr (.x0 off v10 v11 v12 v13 ((atOf off l c t).1 : Int) ((atOf off l c t).2 : Int)), ())))
  | [], l, c, _, _ => ⟨true, .inl rfl⟩
  | r :: t, l, c, h1, h2 => by
    simp only [List.length_cons] at h1 h2
    have e1 : w64 ((l : Int) + 1) = ((l + 1 : Nat) : Int) := by rw [w64_id (by omega) (by omega)]; omega
    have e2 : w64 ((c : Int) + 1) = ((c + 1 : Nat) : Int) := by rw [w64_id (by omega) (by omega)]; omega
    have hW : W56_0 (σ := Unit) () [encS (r.1, r.2.1, l, c), encC (r.1, r.2.1, l, c)] (.inl (off, v10, v11, v12, v13, (l : Int), (c : Int)), ()) = (bif (decide ((r.2.1 : Int) ≥ off)) then (some (false, (Sum.inr (O56_0.x0 off v10 v11 v12 v13 (l : Int) (c : Int)), ()))) else (bif (r.1 == 10) then (some (true, (Sum.inl (off, v10, v11, v12, v13, (w64 ((l : Int) + 1)), 1), ()))) else (some (true, (Sum.inl (off, v10, v11, v12, v13, (l : Int), (w64 ((c : Int) + 1))), ()))))) := rfl
    rw [spotsOf, runY, hW, e1, e2, atOf]
    by_cases hlt : (r.2.1 : Int) < off
    · rw [decide_eq_false (by omega : ¬ (r.2.1 : Int) ≥ off), cond_false, if_pos hlt]
      by_cases h10 : r.1 = 10
      · rw [show (r.1 == 10) = true from beq_iff_eq.2 h10, cond_true, if_pos h10, if_pos h10, Option.bind_some, cond_true]
        exact run56 off v10 v11 v12 v13 t (l + 1) 1 (by omega) (by omega)
      · rw [show (r.1 == 10) = false from beq_eq_false_iff_ne.2 h10, cond_false, if_neg h10, if_neg h10, Option.bind_some, cond_true]
        exact run56 off v10 v11 v12 v13 t l (c + 1) (by omega) (by omega)
    · rw [decide_eq_true (by omega : (r.2.1 : Int) ≥ off), cond_true, if_neg hlt, Option.bind_some, cond_false]
      exact ⟨false, .inr rfl⟩
theorem n56_eq {s : ByteArray} (hs : s.size ≤ 1048576) (a : Int) : n56 (s, a) = some (atS s a) := by
  have hle := runesL_length (s := s) s.size 0 (by omega)
  show ((n83 (W56_0 ()) s (Sum.inl (clamp s a, 0, 0, 0, 0, ((1 : Nat) : Int), ((1 : Nat) : Int)), ())).bind fun p23 => match p23.2.1 with | .inl z24 => (some ((z24.1), (z24.2.2.2.2.2.1), (z24.2.2.2.2.2.2))) | .inr o32 => (match o32 with | .x0 z25 z26 z27 z28 z29 z30 z31 => (some (z25, z30, z31)))) = _
  rw [n83_eq _ hs]
  obtain ⟨b, h | h⟩ := run56 (clamp s a) 0 0 0 0 (runesL s 0) 1 1 (by omega) (by omega)
  · show (Option.map _ (runY (W56_0 (σ := Unit) ()) (spotsOf 1 1 (runesL s 0)) _)).bind _ = _
    rw [h]; rfl
  · show (Option.map _ (runY (W56_0 (σ := Unit) ()) (spotsOf 1 1 (runesL s 0)) _)).bind _ = _
    rw [h]; rfl
/-- The spot of a rune's beginning. -/
theorem at_spot {s : ByteArray} : ∀ (d i l c k : Nat) (p : Sp), s.size - i ≤ d → (spotsOf l c (runesL s i))[k]? = some p → i ≤ p.2.1 ∧ p.2.1 < s.size ∧ atOf (p.2.1 : Int) l c (runesL s i) = (p.2.2.1, p.2.2.2) := by
  intro d
  induction d with
  | zero =>
    intro i l c k p hd h
    rw [runesL_nil (by omega)] at h
    simp [spotsOf] at h
  | succ d ih =>
    intro i l c k p hd h
    by_cases hi : i < s.size
    · have w1 := wd_pos s i
      rw [runesL_cons hi, spotsOf] at h
      cases k with
      | zero =>
        simp only [List.getElem?_cons_zero, Option.some.injEq] at h
        subst h
        refine ⟨Nat.le_refl _, hi, ?_⟩
        rw [runesL_cons hi, atOf, if_neg (by simp)]
      | succ k =>
        simp only [List.getElem?_cons_succ] at h
        rw [runesL_cons hi, atOf]
        by_cases h10 : rn s i = 10
        · rw [if_pos h10] at h
          obtain ⟨q1, q2, q3⟩ := ih (i + wd s i) (l + 1) 1 k p (by omega) h
          refine ⟨by omega, q2, ?_⟩
          rw [if_pos (by simp only; omega), if_pos h10, q3]
        · rw [if_neg h10] at h
          obtain ⟨q1, q2, q3⟩ := ih (i + wd s i) l (c + 1) k p (by omega) h
          refine ⟨by omega, q2, ?_⟩
          rw [if_pos (by simp only; omega), if_neg h10, q3]
    · rw [runesL_nil (by omega)] at h
      simp [spotsOf] at h
theorem atS_spot {s : ByteArray} {k : Nat} {p : Sp} (h : (spots s)[k]? = some p) : atS s (p.2.1 : Int) = ((p.2.1 : Int), (p.2.2.1 : Int), (p.2.2.2 : Int)) := by
  obtain ⟨_, q2, q3⟩ := at_spot s.size 0 1 1 k p (by omega) h
  have hc : clamp s (p.2.1 : Int) = (p.2.1 : Int) := by unfold clamp; split <;> split at * <;> omega
  unfold atS
  rw [hc, q3]
/-- The first broken rune. -/
def firstBad : List Sp → Option Sp
  | [] => none
  | p :: t => if p.1 < 0 then some p else firstBad t
def plainS (s : ByteArray) : Int × Int × Int × Bool := match firstBad (spots s) with
  | some p => ((p.2.1 : Int), (p.2.2.1 : Int), (p.2.2.2 : Int), false)
  | none => (0, 0, 0, true)
theorem run57 (a b c : Int) (f : Bool) : ∀ (t : List Sp), ∃ g, runY (W57_0 (σ := Unit) ()) t (.inl (a, b, c, f), ()) = some (g, (match firstBad t with | some p => .inr (.x0 (p.2.1 : Int) (p.2.2.1 : Int) (p.2.2.2 : Int) false) | none => .inl (a, b, c, f)), ())
  | [] => ⟨true, rfl⟩
  | p :: t => by
    have hW : W57_0 (σ := Unit) () [encS p, encC p] (.inl (a, b, c, f), ()) = (bif (decide (p.1 < 0)) then (some (false, (Sum.inr (O57_0.x0 (p.2.1 : Int) (p.2.2.1 : Int) (p.2.2.2 : Int) false), ()))) else (some (true, (Sum.inl (a, b, c, f), ())))) := rfl
    rw [runY, hW, firstBad]
    by_cases h : p.1 < 0
    · rw [decide_eq_true h, cond_true, if_pos h, Option.bind_some, cond_false]
      exact ⟨false, rfl⟩
    · rw [decide_eq_false h, cond_false, if_neg h, Option.bind_some, cond_true]
      exact run57 a b c f t
theorem n57_eq {s : ByteArray} (hs : s.size ≤ 1048576) : n57 s = some (plainS s) := by
  show ((n83 (W57_0 ()) s (Sum.inl (0, 0, 0, false), ())).bind fun p17 => match p17.2.1 with | .inl z18 => (some (0, 0, 0, true)) | .inr o23 => (match o23 with | .x0 z19 z20 z21 z22 => (some (z19, z20, z21, z22)))) = _
  obtain ⟨g, h⟩ := run57 0 0 0 false (spots s)
  rw [n83_eq _ hs, h]
  unfold plainS
  cases firstBad (spots s) <;> rfl
theorem L58_step (v6 : ByteArray) (v7 : List D) (k : Nat) (v9 v10 v11 : Int) (n : Nat) : L58_0 (n + 1) (v6, v7, (k : Int), v9, v10, v11) () = (bif (decide ((k : Int) < ((v7.length : Nat) : Int))) then ((lidx v7 (k : Int)).bind fun d12 => ask (d12.cells.length = 3) ((cellAt 0 d12).bind fun x13 => (asInt .i64 x13).bind fun x14 => (bif (decide (x14 < 0)) then ((lidx v7 (k : Int)).bind fun d15 => ask (d15.cells.length = 3) ((cellAt 1 d15).bind fun x16 => (asInt .i64 x16).bind fun x17 => ((n59 (v6, x17)).bind fun y18 => (some (O58_0.x0 false y18.1 y18.2.1 y18.2.2, ()))))) else (L58_0 n (v6, v7, (w64 ((k : Int) + 1)), v9, v10, v11) ())))) else (some (O58_0.x1 v9 v10 v11, ()))) := rfl
theorem L58 {s : ByteArray} (hs : s.size ≤ 1048576) (v9 v10 v11 : Int) : ∀ (d n k : Nat), (spots s).length - k ≤ d → d < n → k ≤ (spots s).length → L58_0 n (s, (runesL s 0).map encR, (k : Int), v9, v10, v11) () = some (match firstBad ((spots s).drop k) with | some p => O58_0.x0 false (p.2.1 : Int) (p.2.2.1 : Int) (p.2.2.2 : Int) | none => O58_0.x1 v9 v10 v11, ()) := by
  have hle := spots_le s
  have hlen := spots_length s
  intro d
  induction d with
  | zero =>
    intro n k hd hn hk
    obtain ⟨m, rfl⟩ : ∃ m, n = m + 1 := ⟨n - 1, by omega⟩
    rw [L58_step, List.length_map, decide_eq_false (by omega), cond_false, List.drop_eq_nil_of_le (by omega)]
    rfl
  | succ d ih =>
    intro n k hd hn hk
    obtain ⟨m, rfl⟩ : ∃ m, n = m + 1 := ⟨n - 1, by omega⟩
    by_cases h : k < (spots s).length
    · have e0 : w64 ((k : Int) + 1) = ((k + 1 : Nat) : Int) := by rw [w64_id (by omega) (by omega)]; omega
      have hp : (spots s)[k]? = some (spots s)[k] := List.getElem?_eq_getElem h
      obtain ⟨r, hr, h1, h2⟩ := sp_ru 1 1 (runesL s 0) k _ hp
      rw [L58_step, List.length_map, decide_eq_true (by omega), cond_true, lidx_map, hr, e0, List.drop_eq_getElem_cons h, firstBad]
      simp only [Option.map_some, Option.bind_some, ask_of (lenR _), cellR0, cellR1, asI64]
      rw [h1, h2]
      by_cases hb : ((spots s)[k]).1 < 0
      · rw [decide_eq_true hb, cond_true, if_pos hb, n59_eq hs, Option.bind_some, atS_spot hp]
      · rw [decide_eq_false hb, cond_false, if_neg hb]
        exact ih m (k + 1) (by omega) (by omega) (by omega)
    · rw [L58_step, List.length_map, decide_eq_false (by omega), cond_false, List.drop_eq_nil_of_le (by omega)]
      rfl
theorem n58_eq {s : ByteArray} (hs : s.size ≤ 1048576) : n58 s = some (plainS s) := by
  have hle := spots_le s
  have h := L58 hs 0 0 0 (spots s).length 1000000000000 0 (by omega) (by omega) (by omega)
  show ((n29 s).bind fun y5 => ((L58_0 1000000000000 (s, y5, ((0 : Nat) : Int), 0, 0, 0) ()).bind fun p26 => match p26.1 with | .x0 z27 z28 z29 z30 => (some (z28, z29, z30, z27)) | .x1 z31 z32 z33 => (some (0, 0, 0, true)))) = _
  rw [n29_eq hs, Option.bind_some, h]
  unfold plainS
  rw [List.drop_zero]
  cases firstBad (spots s) <;> rfl
theorem plain17 (a0 : ByteArray) (a1 : Int) (h : a0.size ≤ 1048576) (w : (Lit.int .i64 a1).wf = true) : n17 (a0, a1) = some true := by
  simp only [n17, n57_eq h, n58_eq h, n56_eq h, n59_eq h, n52_eq h, n55_eq h, Option.bind_some, n31_same, cond_true, beq_self_eq_true, alive_true]
end Ev

/- Plain law: TextGoes. -/
set_option linter.unusedSimpArgs false
set_option linter.unusedVariables false
namespace Ev
open Go

def encN (c : Nat) : ByteArray := if c < 128 then { data := #[UInt8.ofNat c] } else if c < 2048 then { data := #[UInt8.ofNat (192 + c / 64), UInt8.ofNat (128 + c % 64)] } else if c < 65536 then { data := #[UInt8.ofNat (224 + c / 4096), UInt8.ofNat (128 + c / 64 % 64), UInt8.ofNat (128 + c % 64)] } else { data := #[UInt8.ofNat (240 + c / 262144), UInt8.ofNat (128 + c / 4096 % 64), UInt8.ofNat (128 + c / 64 % 64), UInt8.ofNat (128 + c % 64)] }
theorem encU (r : Int) : Utf8.encode r = encN (if Utf8.valid r = true then r.toNat else Utf8.runeError) := rfl
theorem enc_eq (r : Nat) (h : r ≤ 1114111) (h' : r < 55296 ∨ 57343 < r) : (Utf8.encode (r : Int)).data.toList = Lib.encodeRune (r : Int) := by
  have hv : Utf8.valid (r : Int) = true := by simp only [Utf8.valid]; simp; omega
  unfold Lib.encodeRune Lib.encodeRuneZ
  rw [encU, hv, if_pos rfl, Int.toNat_natCast]
  unfold encN
  have c1 : ∀ {α : Type} (x y : α), ¬ r < 128 → (if 0 ≤ (r : Int) ∧ (r : Int) ≤ 127 then x else y) = y := fun x y h => if_neg (by omega)
  have c2 : ∀ {α : Type} (x y : α), ¬ r < 2048 → (if 128 ≤ (r : Int) ∧ (r : Int) ≤ 2047 then x else y) = y := fun x y h => if_neg (by omega)
  have c3 : ∀ {α : Type} (x y : α), ¬ r < 65536 → (if (2048 ≤ (r : Int) ∧ (r : Int) < 55296) ∨ (57343 < (r : Int) ∧ (r : Int) ≤ 65535) then x else y) = y := fun x y h => if_neg (by omega)
  by_cases h1 : r < 128
  · rw [if_pos h1, if_pos (show 0 ≤ (r : Int) ∧ (r : Int) ≤ 127 by omega)]; simp
  · rw [if_neg h1, c1 _ _ h1]
    by_cases h2 : r < 2048
    · rw [if_pos h2, if_pos (show 128 ≤ (r : Int) ∧ (r : Int) ≤ 2047 by omega)]
      simp only [List.map_cons, List.map_nil]
      simp only [show ((192 : Int) + (r : Int) / 64).toNat = 192 + r / 64 by omega, show ((128 : Int) + (r : Int) % 64).toNat = 128 + r % 64 by omega, Nat.toUInt8, List.toList_toArray]
    · rw [if_neg h2, c2 _ _ h2]
      by_cases h3 : r < 65536
      · rw [if_pos h3, if_pos (show (2048 ≤ (r : Int) ∧ (r : Int) < 55296) ∨ (57343 < (r : Int) ∧ (r : Int) ≤ 65535) by omega)]
        simp only [List.map_cons, List.map_nil]
        simp only [show ((224 : Int) + (r : Int) / 4096).toNat = 224 + r / 4096 by omega, show ((128 : Int) + (r : Int) / 64 % 64).toNat = 128 + r / 64 % 64 by omega, show ((128 : Int) + (r : Int) % 64).toNat = 128 + r % 64 by omega, Nat.toUInt8, List.toList_toArray]
      · rw [if_neg h3, c3 _ _ h3, if_pos (show 65536 ≤ (r : Int) ∧ (r : Int) ≤ 1114111 by omega)]
        simp only [List.map_cons, List.map_nil]
        simp only [show ((240 : Int) + (r : Int) / 262144).toNat = 240 + r / 262144 by omega, show ((128 : Int) + (r : Int) / 4096 % 64).toNat = 128 + r / 4096 % 64 by omega, show ((128 : Int) + (r : Int) / 64 % 64).toNat = 128 + r / 64 % 64 by omega, show ((128 : Int) + (r : Int) % 64).toNat = 128 + r % 64 by omega, Nat.toUInt8, List.toList_toArray]
theorem rn_valid {s : ByteArray} {i : Nat} : (Utf8.decode s i).1 ≤ 1114111 ∧ ((Utf8.decode s i).1 < 55296 ∨ 57343 < (Utf8.decode s i).1) := by
  rw [← Lib.decodeL_drop, Lib.decodeL_N]
  have k0 := ((s.data.toList.drop i).getD 0 0).toNat_lt
  have k1 := ((s.data.toList.drop i).getD 1 0).toNat_lt
  have k2 := ((s.data.toList.drop i).getD 2 0).toNat_lt
  have k3 := ((s.data.toList.drop i).getD 3 0).toNat_lt
  rcases Lib.decodeN_shape (s.data.toList.drop i).length ((s.data.toList.drop i).getD 0 0).toNat ((s.data.toList.drop i).getD 1 0).toNat ((s.data.toList.drop i).getD 2 0).toNat ((s.data.toList.drop i).getD 3 0).toNat with h | h | h | h | h
  · rw [h.2]; exact ⟨by simp only; omega, by simp only; omega⟩
  · obtain ⟨a1, a2, a3, a4, e⟩ := h
    rw [e]; exact ⟨by simp only; omega, by simp only; omega⟩
  · obtain ⟨a1, a2, a3, a4, a5, a6, e⟩ := h
    rw [e]; exact ⟨by simp only; omega, by simp only; omega⟩
  · obtain ⟨a1, a2, a3, a4, a5, a6, a7, e⟩ := h
    rw [e]; exact ⟨by simp only; omega, by simp only; omega⟩
  · rw [h]; exact ⟨by simp, by simp⟩
theorem enc_rn {s : ByteArray} {i : Nat} (hi : i < s.size) (h : 0 ≤ rn s i) : Utf8.encode (rn s i) = s.extract i (i + wd s i) := by
  have hv : ¬ (Utf8.decode s i = (65533, 1)) := by
    intro e
    unfold rn at h
    rw [if_pos e] at h
    omega
  have hr : rn s i = ((Utf8.decode s i).1 : Int) := by
    unfold rn; rw [if_neg hv]
  have hne : s.data.toList.drop i ≠ [] := by
    have : (s.data.toList.drop i).length = s.size - i := by rw [List.length_drop, ← size_list]
    intro e
    rw [e] at this
    simp at this
    omega
  have e := Lib.encode_decode (s.data.toList.drop i) hne (by rw [Lib.decodeL_drop]; exact fun c => hv (Prod.ext c.1 c.2))
  rw [Lib.decodeL_drop] at e
  have hl : (Utf8.encode (rn s i)).data.toList = (s.extract i (i + wd s i)).data.toList := by
    rw [hr, enc_eq _ rn_valid.1 rn_valid.2, e]
    simp [wd]
  apply ByteArray.ext
  exact Array.toList_inj.1 hl
theorem L16_step (v4 : ByteArray) (v5 v6 : List D) (k : Nat) (v8 v9 v10 : Int) (n : Nat) : L16_0 (n + 1) (v4, v5, v6, (k : Int), v8, v9, v10) () = (bif (decide ((k : Int) < ((v5.length : Nat) : Int))) then ((lidx v5 (k : Int)).bind fun d11 => ask (d11.cells.length = 3) ((cellAt 0 d11).bind fun x12 => (asInt .i64 x12).bind fun x13 => ((cellAt 1 d11).bind fun x14 => (asInt .i64 x14).bind fun x15 => ((cellAt 2 d11).bind fun x16 => (asInt .i64 x16).bind fun x17 => (bif (!((x13 == v8) && ((x15 == v9) && ((x17 == v10) && true)))) then (some (O16_0.x0 false v8 v9 v10, ())) else ((lidx v5 (k : Int)).bind fun d22 => ask (d22.cells.length = 3) ((cellAt 0 d22).bind fun x23 => (asInt .i64 x23).bind fun x24 => ((n56 (v4, x24)).bind fun y25 => ((lidx v5 (k : Int)).bind fun d26 => ask (d26.cells.length = 3) ((cellAt 0 d26).bind fun x27 => (asInt .i64 x27).bind fun x28 => ((cellAt 1 d26).bind fun x29 => (asInt .i64 x29).bind fun x30 => ((cellAt 2 d26).bind fun x31 => (asInt .i64 x31).bind fun x32 => (bif (!((y25.1 == x28) && ((y25.2.1 == x30) && ((y25.2.2 == x32) && true)))) then (some (O16_0.x0 false v8 v9 v10, ())) else (bif (decide ((w64 ((k : Int) + 1)) < ((v5.length : Nat) : Int))) then ((lidx v5 (w64 ((k : Int) + 1))).bind fun d33 => ask (d33.cells.length = 3) ((cellAt 0 d33).bind fun x34 => (asInt .i64 x34).bind fun x35 => ((lidx v5 (k : Int)).bind fun d36 => ask (d36.cells.length = 3) ((cellAt 0 d36).bind fun x37 => (asInt .i64 x37).bind fun x38 => (bif (bif (decide (x35 ≤ x38)) then true else (decide (x35 > (v4.size : Int)))) then (some (O16_0.x0 false v8 v9 v10, ())) else ((lidx v5 (k : Int)).bind fun d39 => ask (d39.cells.length = 3) ((cellAt 0 d39).bind fun x40 => (asInt .i64 x40).bind fun x41 => (ask (cutOk x41 x35 v4.size) ((lidx v6 (k : Int)).bind fun d42 => ask (d42.cells.length = 1) ((cellAt 0 d42).bind fun x43 => (asInt .i32 x43).bind fun x44 => (bif (decide (x44 ≥ 0)) then ((lidx v6 (k : Int)).bind fun d45 => ask (d45.cells.length = 1) ((cellAt 0 d45).bind fun x46 => (asInt .i32 x46).bind fun x47 => (bif (!(sEq (Utf8.encode x47) (v4.extract (Int.toNat x41) (Int.toNat x35)))) then (some (O16_0.x0 false v8 v9 v10, ())) else ((lidx v6 (k : Int)).bind fun d48 => ask (d48.cells.length = 1) ((cellAt 0 d48).bind fun x49 => (asInt .i32 x49).bind fun x50 => (bif (decide (x50 < 0)) then (bif (((v4.extract (Int.toNat x41) (Int.toNat x35)).size : Int) != 1) then (some (O16_0.x0 false v8 v9 v10, ())) else ((lidx v6 (k : Int)).bind fun d51 => ask (d51.cells.length = 1) ((cellAt 0 d51).bind fun x52 => (asInt .i32 x52).bind fun x53 => (bif (x53 == 10) then (L16_0 n (v4, v5, v6, (w64 ((k : Int) + 1)), x35, (w64 (v9 + 1)), 1) ()) else (L16_0 n (v4, v5, v6, (w64 ((k : Int) + 1)), x35, v9, (w64 (v10 + 1))) ()))))) else ((lidx v6 (k : Int)).bind fun d54 => ask (d54.cells.length = 1) ((cellAt 0 d54).bind fun x55 => (asInt .i32 x55).bind fun x56 => (bif (x56 == 10) then (L16_0 n (v4, v5, v6, (w64 ((k : Int) + 1)), x35, (w64 (v9 + 1)), 1) ()) else (L16_0 n (v4, v5, v6, (w64 ((k : Int) + 1)), x35, v9, (w64 (v10 + 1))) ())))))))))) else ((lidx v6 (k : Int)).bind fun d57 => ask (d57.cells.length = 1) ((cellAt 0 d57).bind fun x58 => (asInt .i32 x58).bind fun x59 => (bif (decide (x59 < 0)) then (bif (((v4.extract (Int.toNat x41) (Int.toNat x35)).size : Int) != 1) then (some (O16_0.x0 false v8 v9 v10, ())) else ((lidx v6 (k : Int)).bind fun d60 => ask (d60.cells.length = 1) ((cellAt 0 d60).bind fun x61 => (asInt .i32 x61).bind fun x62 => (bif (x62 == 10) then (L16_0 n (v4, v5, v6, (w64 ((k : Int) + 1)), x35, (w64 (v9 + 1)), 1) ()) else (L16_0 n (v4, v5, v6, (w64 ((k : Int) + 1)), x35, v9, (w64 (v10 + 1))) ()))))) else ((lidx v6 (k : Int)).bind fun d63 => ask (d63.cells.length = 1) ((cellAt 0 d63).bind fun x64 => (asInt .i32 x64).bind fun x65 => (bif (x65 == 10) then (L16_0 n (v4, v5, v6, (w64 ((k : Int) + 1)), x35, (w64 (v9 + 1)), 1) ()) else (L16_0 n (v4, v5, v6, (w64 ((k : Int) + 1)), x35, v9, (w64 (v10 + 1))) ())))))))))))))))))) else ((lidx v5 (k : Int)).bind fun d66 => ask (d66.cells.length = 3) ((cellAt 0 d66).bind fun x67 => (asInt .i64 x67).bind fun x68 => (bif (bif (decide ((v4.size : Int) ≤ x68)) then true else (decide ((v4.size : Int) > (v4.size : Int)))) then (some (O16_0.x0 false v8 v9 v10, ())) else ((lidx v5 (k : Int)).bind fun d69 => ask (d69.cells.length = 3) ((cellAt 0 d69).bind fun x70 => (asInt .i64 x70).bind fun x71 => (ask (cutOk x71 (v4.size : Int) v4.size) ((lidx v6 (k : Int)).bind fun d72 => ask (d72.cells.length = 1) ((cellAt 0 d72).bind fun x73 => (asInt .i32 x73).bind fun x74 => (bif (decide (x74 ≥ 0)) then ((lidx v6 (k : Int)).bind fun d75 => ask (d75.cells.length = 1) ((cellAt 0 d75).bind fun x76 => (asInt .i32 x76).bind fun x77 => (bif (!(sEq (Utf8.encode x77) (v4.extract (Int.toNat x71) (Int.toNat (v4.size : Int))))) then (some (O16_0.x0 false v8 v9 v10, ())) else ((lidx v6 (k : Int)).bind fun d78 => ask (d78.cells.length = 1) ((cellAt 0 d78).bind fun x79 => (asInt .i32 x79).bind fun x80 => (bif (decide (x80 < 0)) then (bif (((v4.extract (Int.toNat x71) (Int.toNat (v4.size : Int))).size : Int) != 1) then (some (O16_0.x0 false v8 v9 v10, ())) else ((lidx v6 (k : Int)).bind fun d81 => ask (d81.cells.length = 1) ((cellAt 0 d81).bind fun x82 => (asInt .i32 x82).bind fun x83 => (bif (x83 == 10) then (L16_0 n (v4, v5, v6, (w64 ((k : Int) + 1)), (v4.size : Int), (w64 (v9 + 1)), 1) ()) else (L16_0 n (v4, v5, v6, (w64 ((k : Int) + 1)), (v4.size : Int), v9, (w64 (v10 + 1))) ()))))) else ((lidx v6 (k : Int)).bind fun d84 => ask (d84.cells.length = 1) ((cellAt 0 d84).bind fun x85 => (asInt .i32 x85).bind fun x86 => (bif (x86 == 10) then (L16_0 n (v4, v5, v6, (w64 ((k : Int) + 1)), (v4.size : Int), (w64 (v9 + 1)), 1) ()) else (L16_0 n (v4, v5, v6, (w64 ((k : Int) + 1)), (v4.size : Int), v9, (w64 (v10 + 1))) ())))))))))) else ((lidx v6 (k : Int)).bind fun d87 => ask (d87.cells.length = 1) ((cellAt 0 d87).bind fun x88 => (asInt .i32 x88).bind fun x89 => (bif (decide (x89 < 0)) then (bif (((v4.extract (Int.toNat x71) (Int.toNat (v4.size : Int))).size : Int) != 1) then (some (O16_0.x0 false v8 v9 v10, ())) else ((lidx v6 (k : Int)).bind fun d90 => ask (d90.cells.length = 1) ((cellAt 0 d90).bind fun x91 => (asInt .i32 x91).bind fun x92 => (bif (x92 == 10) then (L16_0 n (v4, v5, v6, (w64 ((k : Int) + 1)), (v4.size : Int), (w64 (v9 + 1)), 1) ()) else (L16_0 n (v4, v5, v6, (w64 ((k : Int) + 1)), (v4.size : Int), v9, (w64 (v10 + 1))) ()))))) else ((lidx v6 (k : Int)).bind fun d93 => ask (d93.cells.length = 1) ((cellAt 0 d93).bind fun x94 => (asInt .i32 x94).bind fun x95 => (bif (x95 == 10) then (L16_0 n (v4, v5, v6, (w64 ((k : Int) + 1)), (v4.size : Int), (w64 (v9 + 1)), 1) ()) else (L16_0 n (v4, v5, v6, (w64 ((k : Int) + 1)), (v4.size : Int), v9, (w64 (v10 + 1))) ())))))))))))))))))))))))))))))) else (some (O16_0.x1 v4 v8 v9 v10, ()))) := rfl
theorem L16 {s : ByteArray} (hs : s.size ≤ 1048576) : ∀ (d n k i l c : Nat), (spots s).length - k ≤ d → d < n → (spots s).drop k = spotsOf l c (runesL s i) → i ≤ s.size → l ≤ k + 1 → c ≤ k + 1 → k ≤ (spots s).length →
    ∃ l' c', L16_0 n (s, (spots s).map encS, (spots s).map encC, (k : Int), (i : Int), (l : Int), (c : Int)) () = some (O16_0.x1 s (s.size : Int) l' c', ()) := by
  have hle := spots_le s
  intro d
  induction d with
  | zero =>
    intro n k i l c hd hn he hi h1 h2 hk
    obtain ⟨m, rfl⟩ : ∃ m, n = m + 1 := ⟨n - 1, by omega⟩
    rw [List.drop_eq_nil_of_le (by omega)] at he
    have hi' : ¬ i < s.size := by
      intro h
      rw [runesL_cons h] at he
      simp [spotsOf] at he
    rw [L16_step, List.length_map, decide_eq_false (by omega), cond_false, show i = s.size by omega]
    exact ⟨_, _, rfl⟩
  | succ d ih =>
    intro n k i l c hd hn he hi h1 h2 hk
    obtain ⟨m, rfl⟩ : ∃ m, n = m + 1 := ⟨n - 1, by omega⟩
    by_cases h : i < s.size
    · have w1 := wd_pos s i
      have w2 := wd_le h
      have hk' : k < (spots s).length := by
        rw [runesL_cons h] at he
        apply Nat.lt_of_not_le
        intro hh
        rw [List.drop_eq_nil_of_le hh] at he
        simp [spotsOf] at he
      rw [runesL_cons h, spotsOf, List.drop_eq_getElem_cons hk'] at he
      have hhd : (spots s)[k] = (rn s i, i, l, c) := (List.cons.inj he).1
      have htl := (List.cons.inj he).2
      have hp : (spots s)[k]? = some (rn s i, i, l, c) := by rw [List.getElem?_eq_getElem hk', hhd]
      have hat := atS_spot hp
      have e0 : w64 ((k : Int) + 1) = ((k + 1 : Nat) : Int) := by rw [w64_id (by omega) (by omega)]; omega
      have e1 : w64 ((l : Int) + 1) = ((l + 1 : Nat) : Int) := by rw [w64_id (by omega) (by omega)]; omega
      have e2 : w64 ((c : Int) + 1) = ((c + 1 : Nat) : Int) := by rw [w64_id (by omega) (by omega)]; omega
      have key : ∀ (x : Int), x = ((i + wd s i : Nat) : Int) → L16_0 (m + 1) (s, (spots s).map encS, (spots s).map encC, (k : Int), (i : Int), (l : Int), (c : Int)) () = (bif (rn s i == 10) then (L16_0 m (s, (spots s).map encS, (spots s).map encC, ((k + 1 : Nat) : Int), x, ((l + 1 : Nat) : Int), 1) ()) else (L16_0 m (s, (spots s).map encS, (spots s).map encC, ((k + 1 : Nat) : Int), x, (l : Int), ((c + 1 : Nat) : Int)) ())) := by
        intro x hx
        have hcut : cutOk (i : Int) x s.size := by subst hx; exact ⟨by omega, by omega, by omega⟩
        have hext : s.extract (Int.toNat (i : Int)) (Int.toNat x) = s.extract i (i + wd s i) := by subst hx; rw [Int.toNat_natCast, Int.toNat_natCast]
        have henc : decide (rn s i ≥ 0) = true → sEq (Utf8.encode (rn s i)) (s.extract i (i + wd s i)) = true := fun hh => (sEq_iff _ _).2 (enc_rn h (by simpa using hh))
        have hbad : decide (rn s i < 0) = true → (((s.extract i (i + wd s i)).size : Int) != 1) = false := by
          intro hh
          have hw : wd s i = 1 := by
            unfold rn at hh
            split at hh
            · rename_i e; exact congrArg Prod.snd e
            · simp at hh; omega
          rw [hw]
          have : (s.extract i (i + 1)).size = 1 := by simp; omega
          rw [this]; rfl
        have hpos : decide (rn s i ≥ 0) = !(decide (rn s i < 0)) := by
          rw [Bool.eq_iff_iff]; simp
        by_cases hj : i + wd s i < s.size
        · have hk2 : k + 1 < (spots s).length := by
            apply Nat.lt_of_not_le
            intro hh
            rw [List.drop_eq_nil_of_le hh, runesL_cons hj] at htl
            split at htl <;> simp [spotsOf] at htl
          obtain ⟨q1, q2, q3, hq⟩ : ∃ q1 q2 q3, (spots s)[k + 1]? = some (q1, i + wd s i, q2, q3) := by
            rw [List.drop_eq_getElem_cons hk2, runesL_cons hj] at htl
            rw [List.getElem?_eq_getElem hk2]
            split at htl
            · rw [spotsOf] at htl
              rw [(List.cons.inj htl).1]; exact ⟨_, _, _, rfl⟩
            · rw [spotsOf] at htl
              rw [(List.cons.inj htl).1]; exact ⟨_, _, _, rfl⟩
          rw [L16_step, List.length_map, decide_eq_true (by omega), cond_true, e0, lidx_map, lidx_map, lidx_map, hp, hq, e1, e2]
          simp only [Option.map_some, Option.bind_some, ask_of (lenS _), ask_of (lenC _), cellS0, cellS1, cellS2, cellC0, asI64, asI32, n56_eq hs, hat, beq_self_eq_true, Bool.and_self, Bool.not_true, cond_false]
          rw [decide_eq_true (show ((k + 1 : Nat) : Int) < (((spots s).length : Nat) : Int) by omega), cond_true, ← hx]
          rw [decide_eq_false (show ¬ (x ≤ (i : Int)) by omega), decide_eq_false (show ¬ (x > (s.size : Int)) by omega), cond_false, cond_false, ask_of hcut, hext, hpos]
          cases hb : decide (rn s i < 0) with
          | true => simp only [Bool.not_true, cond_false, cond_true, hbad hb]
          | false => rw [hb] at hpos; simp only [Bool.not_false, cond_false, cond_true, henc hpos, Bool.not_true]
        · have hk2 : ¬ k + 1 < (spots s).length := by
            intro hh
            rw [List.drop_eq_getElem_cons hh, runesL_nil (by omega)] at htl
            split at htl <;> exact List.cons_ne_nil _ _ htl
          have hxs : x = (s.size : Int) := by omega
          rw [L16_step, List.length_map, decide_eq_true (by omega), cond_true, e0, lidx_map, lidx_map, lidx_map, hp, e1, e2]
          simp only [Option.map_some, Option.bind_some, ask_of (lenS _), ask_of (lenC _), cellS0, cellS1, cellS2, cellC0, asI64, asI32, n56_eq hs, hat, beq_self_eq_true, Bool.and_self, Bool.not_true, cond_false]
          rw [decide_eq_false (show ¬ (((k + 1 : Nat) : Int) < (((spots s).length : Nat) : Int)) by omega), cond_false, ← hxs]
          rw [decide_eq_false (show ¬ (x ≤ (i : Int)) by omega), decide_eq_false (show ¬ (x > x) by omega), cond_false, cond_false, ask_of hcut, hext, hpos]
          cases hb : decide (rn s i < 0) with
          | true => simp only [Bool.not_true, cond_false, cond_true, hbad hb]
          | false => rw [hb] at hpos; simp only [Bool.not_false, cond_false, cond_true, henc hpos, Bool.not_true]
      rw [key _ rfl]
      by_cases h10 : rn s i = 10
      · rw [if_pos h10] at htl
        rw [show (rn s i == 10) = true from beq_iff_eq.2 h10, cond_true]
        exact ih m (k + 1) (i + wd s i) (l + 1) 1 (by omega) (by omega) htl w2 (by omega) (by omega) (by omega)
      · rw [if_neg h10] at htl
        rw [show (rn s i == 10) = false from beq_eq_false_iff_ne.2 h10, cond_false]
        exact ih m (k + 1) (i + wd s i) l (c + 1) (by omega) (by omega) htl w2 (by omega) (by omega) (by omega)
    · have hk' : ¬ k < (spots s).length := by
        intro hh
        rw [List.drop_eq_getElem_cons hh, runesL_nil (by omega)] at he
        exact List.cons_ne_nil _ _ he
      rw [L16_step, List.length_map, decide_eq_false (by omega), cond_false, show i = s.size by omega]
      exact ⟨_, _, rfl⟩
theorem plain16 (a0 : ByteArray) (h : a0.size ≤ 1048576) : n16 a0 = some true := by
  obtain ⟨l', c', hL⟩ := L16 h (spots a0).length 1000000000000 0 0 1 1 (by have := spots_le a0; omega) (by have := spots_le a0; omega) rfl (by omega) (by omega) (by omega) (by omega)
  show ((n28 a0).bind fun y2 => ((n52 a0).bind fun y3 => (bif (((y2.1.length : Nat) : Int) != y3) then (some false) else (bif (decide ((a0.size : Int) > 0)) then (bif (((y2.1.length : Nat) : Int) == 0) then (some false) else ((L16_0 1000000000000 (a0, y2.1, y2.2, 0, 0, 1, 1) ()).bind fun p100 => match p100.1 with | .x0 z101 z102 z103 z104 => (some z101) | .x1 z105 z106 z107 z108 => (bif (z106 == (z105.size : Int)) then ((n32 ()).bind fun y109 => (some y109)) else (some false)))) else ((L16_0 1000000000000 (a0, y2.1, y2.2, 0, 0, 1, 1) ()).bind fun p206 => match p206.1 with | .x0 z207 z208 z209 z210 => (some z207) | .x1 z211 z212 z213 z214 => (bif (z212 == (z211.size : Int)) then ((n32 ()).bind fun y215 => (some y215)) else (some false))))))) = _
  rw [n28_eq h, Option.bind_some, n52_eq h, Option.bind_some]
  simp only [List.length_map, spots_length, bne_self_eq_false, cond_false]
  rw [show ((0 : Int)) = ((0 : Nat) : Int) from rfl, show ((1 : Int)) = ((1 : Nat) : Int) from rfl, hL, Option.bind_some]
  simp only [beq_self_eq_true, cond_true, alive_true, Option.bind_some]
  by_cases hz : 0 < a0.size
  · have : (runesL a0 0).length ≠ 0 := by rw [runesL_cons hz]; simp
    rw [show ((((runesL a0 0).length : Nat) : Int) == ((0 : Nat) : Int)) = false from beq_eq_false_iff_ne.2 (by omega), cond_false]
    cases decide ((a0.size : Int) > ((0 : Nat) : Int)) <;> rfl
  · rw [decide_eq_false (by omega), cond_false]
end Ev

/- Plain law: TextLines. -/
set_option linter.unusedSimpArgs false
set_option linter.unusedVariables false
namespace Ev
open Go

/-- A text's lines, each without its end. -/
def linesF (cur : List UInt8) : List UInt8 → List (List UInt8)
  | [] => if cur = [] then [] else [cur]
  | c :: t => if c = 10 then cur :: linesF [] t else linesF (cur ++ [c]) t
def encB (l : List UInt8) : D := .val (.string ⟨l.toArray⟩)
def encN64 (k : Nat) : D := .val (.int .i64 (k : Int))
theorem cut_nil : Lib.cut [] [10] = ([], [], false) := rfl
theorem cut_hit (t : List UInt8) : Lib.cut (10 :: t) [10] = ([], t, true) := by
  have : Lib.index (10 :: t) [10] = 0 := by rw [Lib.index]; rfl
  unfold Lib.cut; rw [this]; rfl
theorem cut_miss {c : UInt8} (h : c ≠ 10) (t : List UInt8) : (Lib.cut (c :: t) [10]).1 = c :: (Lib.cut t [10]).1 ∧ (Lib.cut (c :: t) [10]).2.1 = (Lib.cut t [10]).2.1 := by
  have hge := Lib.index_ge t [10]
  have e : Lib.index (c :: t) [10] = if Lib.index t [10] == -1 then -1 else Lib.index t [10] + 1 := by
    have : ([10] : List UInt8).isPrefixOf (c :: t) = false := by
      rw [List.isPrefixOf, beq_eq_false_iff_ne.2 (fun h' => h h'.symm), Bool.false_and]
    rw [Lib.index, this]; rfl
  unfold Lib.cut
  by_cases hm : Lib.index t [10] = -1
  · have e' : Lib.index (c :: t) [10] = -1 := by rw [e, hm]; rfl
    rw [e', hm]; exact ⟨rfl, rfl⟩
  · have e' : Lib.index (c :: t) [10] = Lib.index t [10] + 1 := by rw [e, show (Lib.index t [10] == -1) = false from beq_eq_false_iff_ne.2 hm]; rfl
    have h0 : 0 ≤ Lib.index t [10] := by omega
    have h1 : 0 ≤ Lib.index (c :: t) [10] := by omega
    rw [if_pos h1, if_pos h0, e', show (Lib.index t [10] + 1).toNat = (Lib.index t [10]).toNat + 1 by omega]
    refine ⟨rfl, ?_⟩
    simp only [List.length_cons, List.length_nil]
    rw [show (Lib.index t [10]).toNat + 1 + (0 + 1) = ((Lib.index t [10]).toNat + (0 + 1)) + 1 by omega, List.drop_succ_cons]
theorem lines_cut : ∀ (l cur : List UInt8), cur ≠ [] ∨ l ≠ [] → linesF cur l = (cur ++ (Lib.cut l [10]).1) :: linesF [] (Lib.cut l [10]).2.1
  | [], cur, h => by
    have hc : cur ≠ [] := h.resolve_right (fun q => q rfl)
    rw [linesF, if_neg hc, cut_nil]
    simp [linesF]
  | c :: t, cur, _ => by
    by_cases hc : c = 10
    · subst hc
      rw [linesF, if_pos rfl, cut_hit, List.append_nil]
    · rw [linesF, if_neg hc, lines_cut t (cur ++ [c]) (.inl (by simp)), (cut_miss hc t).1, (cut_miss hc t).2, List.append_assoc]
      rfl
theorem cut_len : ∀ (l : List UInt8), (Lib.cut l [10]).1.length ≤ l.length ∧ (l ≠ [] → (Lib.cut l [10]).2.1.length < l.length)
  | [] => ⟨Nat.le_refl _, fun h => absurd rfl h⟩
  | c :: t => by
    by_cases hc : c = 10
    · subst hc
      rw [cut_hit]; exact ⟨Nat.zero_le _, fun _ => Nat.lt_succ_self _⟩
    · rw [(cut_miss hc t).1, (cut_miss hc t).2]
      have ih := cut_len t
      refine ⟨by simp only [List.length_cons]; omega, fun _ => ?_⟩
      by_cases ht : t = []
      · subst ht; rw [cut_nil]; simp
      · have := ih.2 ht; simp only [List.length_cons]; omega
theorem lines_len : ∀ (l cur : List UInt8), (linesF cur l).length ≤ cur.length + l.length
  | [], cur => by
    rw [linesF]; split
    · simp
    · rename_i h
      have := List.length_pos_iff.2 h
      simp only [List.length_cons, List.length_nil]; omega
  | c :: t, cur => by
    rw [linesF]; split
    · have := lines_len t []
      simp only [List.length_cons, List.length_nil] at this ⊢; omega
    · have := lines_len t (cur ++ [c])
      simp only [List.length_append, List.length_cons, List.length_nil] at this ⊢; omega
def ofO85 : O85_0 → ByteArray
  | .x0 z => z
  | .x1 z => z
theorem addOk_mapB (acc : List (List UInt8)) (x : List UInt8) (h : (acc.length + 1) * 16 ≤ maxBytes) : addOk (acc.map encB).length (acc.map encB) [encB x] 1 16 := addOk_map encB 1 16 (fun _ => rfl) acc x h
theorem addOk_mapN (acc : List Nat) (x : Nat) (h : (acc.length + 1) * 8 ≤ maxBytes) : addOk (acc.map encN64).length (acc.map encN64) [encN64 x] 1 8 := addOk_map encN64 1 8 (fun _ => rfl) acc x h
theorem W33_step (a : List Nat) (b : List (List UInt8)) (k7 k8 v : Nat) (l : List UInt8) (ha : a.length ≤ 1048576) (hb : b.length ≤ 1048576) : W33_0 (σ := Unit) () [encN64 v, encB l] (.inl (a.map encN64, b.map encB, k7, k8), ()) = some (true, (.inl ((a ++ [v]).map encN64, (b ++ [l]).map encB, k7, k8), ())) := by
  show ask (addOk (a.map encN64).length (a.map encN64) [encN64 v] 1 8) (ask (addOk (b.map encB).length (b.map encB) [encB l] 1 16) (ask (([k7, k8, ((a.map encN64).length + ([encN64 v] : List D).length), ((b.map encB).length + ([encB l] : List D).length)] : List Nat) = [k7, k8, (a.map encN64 ++ [encN64 v]).length, (b.map encB ++ [encB l]).length]) (some (true, (Sum.inl (a.map encN64 ++ [encN64 v], b.map encB ++ [encB l], k7, k8), ()))))) = _
  rw [ask_of (addOk_mapN a v (by unfold maxBytes; omega)), ask_of (addOk_mapB b l (by unfold maxBytes; omega)), ask_of (by simp), map_snoc, map_snoc]
theorem L85_step {σ : Type} (Y : Yd σ) (v1 : ByteArray) (v2 : Int) (v3 : ByteArray) (n : Nat) (st : σ) : L85_0 Y (n + 1) (v1, v2, v3) st = (bif (!(sEq v1 (⟨#[]⟩ : ByteArray))) then ((n86 (v1, (⟨#[10]⟩ : ByteArray))).bind fun y4 => ((Y [.val (.int .i64 v2), .val (.string y4.1)] st).bind fun q5 => (bif (!q5.1) then (some (O85_0.x0 v3, q5.2)) else (L85_0 Y n (y4.2.1, (w64 (v2 + 1)), v3) q5.2)))) else (some (O85_0.x1 v3, st))) := rfl
theorem n86_cut {l : List UInt8} (h : l.length ≤ 1048576) : n86 ((⟨l.toArray⟩ : ByteArray), (⟨#[10]⟩ : ByteArray)) = some ((⟨(Lib.cut l [10]).1.toArray⟩ : ByteArray), (⟨(Lib.cut l [10]).2.1.toArray⟩ : ByteArray), (Lib.cut l [10]).2.2) := by
  show ask ((⟨l.toArray⟩ : ByteArray).size < 4294967281) (some ((⟨(Lib.cut (⟨l.toArray⟩ : ByteArray).data.toList [10]).1.toArray⟩ : ByteArray), (⟨(Lib.cut (⟨l.toArray⟩ : ByteArray).data.toList [10]).2.1.toArray⟩ : ByteArray), (Lib.cut (⟨l.toArray⟩ : ByteArray).data.toList [10]).2.2)) = _
  rw [toList_mk, ask_of (by rw [size_mk]; omega)]
theorem L85 (s : ByteArray) (k7 k8 : Nat) : ∀ (d n v : Nat) (l : List UInt8) (a : List Nat) (b : List (List UInt8)), l.length ≤ d → d < n → a.length + l.length ≤ 1048576 → b.length + l.length ≤ 1048576 → v + l.length ≤ 1048577 →
    ∃ o, ofO85 o = s ∧ L85_0 (W33_0 (σ := Unit) ()) n (⟨l.toArray⟩, (v : Int), s) (.inl (a.map encN64, b.map encB, k7, k8), ()) = some (o, (.inl ((a ++ List.range' v (linesF [] l).length).map encN64, (b ++ linesF [] l).map encB, k7, k8), ())) := by
  intro d
  induction d with
  | zero =>
    intro n v l a b hd hn ha hb hv
    obtain ⟨m, rfl⟩ : ∃ m, n = m + 1 := ⟨n - 1, by omega⟩
    obtain rfl := List.length_eq_zero_iff.1 (Nat.le_zero.1 hd)
    rw [L85_step, show sEq (⟨([] : List UInt8).toArray⟩ : ByteArray) (⟨#[]⟩ : ByteArray) = true from (sEq_iff _ _).2 rfl, Bool.not_true, cond_false]
    refine ⟨O85_0.x1 s, rfl, ?_⟩
    simp [linesF]
  | succ d ih =>
    intro n v l a b hd hn ha hb hv
    obtain ⟨m, rfl⟩ : ∃ m, n = m + 1 := ⟨n - 1, by omega⟩
    by_cases h : l = []
    · subst h
      rw [L85_step, show sEq (⟨([] : List UInt8).toArray⟩ : ByteArray) (⟨#[]⟩ : ByteArray) = true from (sEq_iff _ _).2 rfl, Bool.not_true, cond_false]
      refine ⟨O85_0.x1 s, rfl, ?_⟩
      simp [linesF]
    · have hne : sEq (⟨l.toArray⟩ : ByteArray) (⟨#[]⟩ : ByteArray) = false := by
        rw [Bool.eq_false_iff]
        intro hh
        have := congrArg ByteArray.size ((sEq_iff _ _).1 hh)
        rw [size_mk] at this
        exact h (List.length_eq_zero_iff.1 this)
      have hpos := List.length_pos_iff.2 h
      have hc := cut_len l
      have hc2 := hc.2 h
      have e1 : w64 ((v : Int) + 1) = ((v + 1 : Nat) : Int) := by rw [w64_id (by omega) (by omega)]; omega
      rw [L85_step, hne, Bool.not_false, cond_true, n86_cut (by omega), Option.bind_some]
      have hW := W33_step a b k7 k8 v (Lib.cut l [10]).1 (by omega) (by omega)
      show ∃ o, ofO85 o = s ∧ ((W33_0 (σ := Unit) () [encN64 v, encB (Lib.cut l [10]).1] (.inl (a.map encN64, b.map encB, k7, k8), ())).bind fun q5 => (bif (!q5.1) then (some (O85_0.x0 s, q5.2)) else (L85_0 (W33_0 ()) m (⟨(Lib.cut l [10]).2.1.toArray⟩, (w64 ((v : Int) + 1)), s) q5.2))) = _
      rw [hW, Option.bind_some, e1]
      obtain ⟨o, ho, e⟩ := ih m (v + 1) (Lib.cut l [10]).2.1 (a ++ [v]) (b ++ [(Lib.cut l [10]).1]) (by omega) (by omega) (by simp; omega) (by simp; omega) (by omega)
      refine ⟨o, ho, ?_⟩
      rw [lines_cut l [] (.inr h)]
      show L85_0 (W33_0 ()) m (⟨(Lib.cut l [10]).2.1.toArray⟩, ((v + 1 : Nat) : Int), s) (.inl ((a ++ [v]).map encN64, (b ++ [(Lib.cut l [10]).1]).map encB, k7, k8), ()) = _
      rw [e, List.length_cons, List.range'_succ, List.append_assoc, List.append_assoc]
      rfl
abbrev bl (s : ByteArray) : List UInt8 := s.data.toList
theorem ba_mk (s : ByteArray) : (⟨(bl s).toArray⟩ : ByteArray) = s := by
  apply ByteArray.ext; simp
theorem n33_eq {s : ByteArray} (hs : s.size ≤ 1048576) : n33 s = some ((List.range' 1 (linesF [] (bl s)).length).map encN64, (linesF [] (bl s)).map encB) := by
  have hsz : s.size = (bl s).length := size_list s
  obtain ⟨o, ho, e⟩ := L85 s 0 0 s.size 1000000000000 1 (bl s) [] [] (by omega) (by omega) (by simp; omega) (by simp; omega) (by omega)
  rw [ba_mk] at e
  show (ask (([0, 0, 0, 0] : List Nat) = [0, 0, ([] : List D).length, ([] : List D).length]) (((((L85_0 (W33_0 ()) 1000000000000 (s, ((1 : Nat) : Int), s) (.inl (([] : List Nat).map encN64, ([] : List (List UInt8)).map encB, 0, 0), ())).bind fun p8 => match p8.1 with | .x0 z9 => (some (z9, p8.2)) | .x1 z10 => (some (z10, p8.2))))).bind fun p9 => match p9.2.1 with | .inl z10 => (some ((z10.1), (z10.2.1))) | .inr o11 => nomatch o11)) = _
  rw [ask_of (show ([0, 0, 0, 0] : List Nat) = [0, 0, ([] : List D).length, ([] : List D).length] from rfl), e]
  cases o <;> rfl
theorem L34_step (v2 : ByteArray) (v3 : List D) (v4 : Int) (k : Nat) (k6 : Nat) (n : Nat) : L34_0 (n + 1) (v2, v3, v4, (k : Int), k6) () = (bif (decide ((k : Int) < (v2.size : Int))) then ((sidx v2 (k : Int)).bind fun c7 => (bif ((c7.toNat : Int) == 10) then (ask (cutOk v4 (k : Int) v2.size) (ask (addOk v3.length v3 ([.val (.string (v2.extract (Int.toNat v4) (Int.toNat (k : Int))))] : List D) 1 16) (ask (([k6, (v3.length + ([.val (.string (v2.extract (Int.toNat v4) (Int.toNat (k : Int))))] : List D).length)] : List Nat) = [k6, (v3 ++ ([.val (.string (v2.extract (Int.toNat v4) (Int.toNat (k : Int))))] : List D)).length]) (L34_0 n (v2, (v3 ++ ([.val (.string (v2.extract (Int.toNat v4) (Int.toNat (k : Int))))] : List D)), (w64 ((k : Int) + 1)), (w64 ((k : Int) + 1)), k6) ())))) else (ask (([k6, v3.length] : List Nat) = [k6, v3.length]) (L34_0 n (v2, v3, v4, (w64 ((k : Int) + 1)), k6) ())))) else (ask (([k6, v3.length] : List Nat) = [k6, v3.length]) (some (O34_0.x0 v2 v3 v4 k6, ())))) := rfl
theorem L8_step (v4 : ByteArray) (v5 v6 v7 : List D) (v8 : ByteArray) (k : Nat) (n : Nat) : L8_0 (n + 1) (v4, v5, v6, v7, v8, (k : Int)) () = (bif (decide ((k : Int) < ((v6.length : Nat) : Int))) then ((lidx v5 (k : Int)).bind fun d10 => ask (d10.cells.length = 1) ((cellAt 0 d10).bind fun x11 => (asInt .i64 x11).bind fun x12 => (bif (x12 != (w64 ((k : Int) + 1))) then (some (O8_0.x0 false, ())) else ((lidx v6 (k : Int)).bind fun d14 => ask (d14.cells.length = 1) ((cellAt 0 d14).bind fun x15 => (asStr x15).bind fun x16 => ((lidx v7 (k : Int)).bind fun d17 => ask (d17.cells.length = 1) ((cellAt 0 d17).bind fun x18 => (asStr x18).bind fun x19 => (bif (!(sEq x16 x19)) then (some (O8_0.x0 false, ())) else ((lidx v6 (k : Int)).bind fun d20 => ask (d20.cells.length = 1) ((cellAt 0 d20).bind fun x21 => (asStr x21).bind fun x22 => (ask (catOk v8 x22) (ask (catOk (v8 ++ x22) (⟨#[10]⟩ : ByteArray)) (L8_0 n (v4, v5, v6, v7, ((v8 ++ x22) ++ (⟨#[10]⟩ : ByteArray)), (w64 ((k : Int) + 1))) ()))))))))))))) else (some (O8_0.x1 v4 v8, ()))) := rfl

theorem ext_list (s : ByteArray) (a b : Nat) : s.extract a b = (⟨(((bl s).take b).drop a).toArray⟩ : ByteArray) := by
  apply ByteArray.ext
  apply Array.toList_inj.1
  simp [List.drop_take]
theorem sidx_bl {s : ByteArray} {i : Nat} {c : UInt8} (h : (bl s)[i]? = some c) : sidx s (i : Int) = some c := by
  rw [sidx_nat, get_list]; exact h
theorem L34 {s : ByteArray} (hs : s.size ≤ 1048576) (k6 : Nat) : ∀ (d n i st : Nat) (acc : List (List UInt8)), s.size - i ≤ d → d < n → st ≤ i → i ≤ s.size → acc.length ≤ i →
    ∃ (acc' : List (List UInt8)) (st' : Nat), L34_0 n (s, acc.map encB, (st : Int), (i : Int), k6) () = some (O34_0.x0 s (acc'.map encB) (st' : Int) k6, ()) ∧ acc'.length ≤ s.size ∧ (if st' < s.size then acc' ++ [((bl s).take s.size).drop st'] else acc') = acc ++ linesF (((bl s).take i).drop st) ((bl s).drop i) := by
  have hsz : s.size = (bl s).length := size_list s
  have done : ∀ (m i st : Nat) (acc : List (List UInt8)), st ≤ i → i = s.size → acc.length ≤ i → ∃ (acc' : List (List UInt8)) (st' : Nat), L34_0 (m + 1) (s, acc.map encB, (st : Int), (i : Int), k6) () = some (O34_0.x0 s (acc'.map encB) (st' : Int) k6, ()) ∧ acc'.length ≤ s.size ∧ (if st' < s.size then acc' ++ [((bl s).take s.size).drop st'] else acc') = acc ++ linesF (((bl s).take i).drop st) ((bl s).drop i) := by
    intro m i st acc h1 h2 h3
    refine ⟨acc, st, ?_, by omega, ?_⟩
    · rw [L34_step, decide_eq_false (by omega), cond_false, ask_of rfl]
    · rw [List.drop_eq_nil_of_le (show (bl s).length ≤ i by omega), linesF, h2]
      by_cases hh : st < s.size
      · rw [if_pos hh, if_neg]
        intro e
        have := congrArg List.length e
        simp at this
        omega
      · rw [if_neg hh, if_pos, List.append_nil]
        exact List.drop_eq_nil_of_le (by simp; omega)
  intro d
  induction d with
  | zero =>
    intro n i st acc hd hn h1 h2 h3
    obtain ⟨m, rfl⟩ : ∃ m, n = m + 1 := ⟨n - 1, by omega⟩
    exact done m i st acc h1 (by omega) h3
  | succ d ih =>
    intro n i st acc hd hn h1 h2 h3
    obtain ⟨m, rfl⟩ : ∃ m, n = m + 1 := ⟨n - 1, by omega⟩
    by_cases h : i < s.size
    · have hi : i < (bl s).length := by omega
      have e0 : w64 ((i : Int) + 1) = ((i + 1 : Nat) : Int) := by rw [w64_id (by omega) (by omega)]; omega
      rw [L34_step, decide_eq_true (by omega), cond_true, sidx_bl (List.getElem?_eq_getElem hi), Option.bind_some, e0, List.drop_eq_getElem_cons hi, linesF]
      by_cases h10 : (bl s)[i] = 10
      · rw [show (((bl s)[i].toNat : Int) == 10) = true from beq_iff_eq.2 (by rw [h10]; rfl), cond_true, if_pos h10, ask_of (show cutOk (st : Int) (i : Int) s.size from ⟨by omega, by omega, by omega⟩), Int.toNat_natCast, Int.toNat_natCast, ext_list]
        show ∃ (acc' : List (List UInt8)) (st' : Nat), (ask (addOk (acc.map encB).length (acc.map encB) [encB (((bl s).take i).drop st)] 1 16) (ask (([k6, ((acc.map encB).length + ([encB (((bl s).take i).drop st)] : List D).length)] : List Nat) = [k6, (acc.map encB ++ [encB (((bl s).take i).drop st)]).length]) (L34_0 m (s, acc.map encB ++ [encB (((bl s).take i).drop st)], ((i + 1 : Nat) : Int), ((i + 1 : Nat) : Int), k6) ()))) = _ ∧ _
        rw [ask_of (addOk_mapB acc _ (by unfold maxBytes; omega)), ask_of (toks_one encB acc _ k6), map_snoc]
        obtain ⟨acc', st', q1, q2, q3⟩ := ih m (i + 1) (i + 1) (acc ++ [((bl s).take i).drop st]) (by omega) (by omega) (by omega) (by omega) (by simp; omega)
        refine ⟨acc', st', q1, q2, ?_⟩
        rw [q3, List.append_assoc, List.drop_eq_nil_of_le (show ((bl s).take (i + 1)).length ≤ i + 1 by simp; omega)]
        rfl
      · have hb : (((bl s)[i].toNat : Int) == 10) = false := by
          rw [beq_eq_false_iff_ne]
          intro e
          apply h10
          apply UInt8.toNat_inj.1
          show (bl s)[i].toNat = 10
          omega
        rw [hb, cond_false, if_neg h10, ask_of rfl]
        obtain ⟨acc', st', q1, q2, q3⟩ := ih m (i + 1) st acc (by omega) (by omega) (by omega) (by omega) (by omega)
        refine ⟨acc', st', q1, q2, ?_⟩
        rw [q3, List.take_succ_eq_append_getElem hi, List.drop_append_of_le_length (by simp; omega)]
    · exact done m i st acc h1 (by omega) h3
theorem n34_eq {s : ByteArray} (hs : s.size ≤ 1048576) : n34 s = some ((linesF [] (bl s)).map encB) := by
  obtain ⟨acc', st', q1, q2, q3⟩ := L34 hs 0 s.size 1000000000000 0 0 [] (by omega) (by omega) (by omega) (by omega) (by simp)
  have q3' : (if st' < s.size then acc' ++ [((bl s).take s.size).drop st'] else acc') = linesF [] (bl s) := by rw [q3]; simp
  show (ask (([0, 0] : List Nat) = [0, ([] : List D).length]) ((L34_0 1000000000000 (s, ([] : List (List UInt8)).map encB, ((0 : Nat) : Int), ((0 : Nat) : Int), 0) ()).bind fun p12 => match p12.1 with | .x0 z13 z14 z15 z16 => (bif (decide (z15 < (z13.size : Int))) then (ask (cutOk z15 (z13.size : Int) z13.size) (ask (addOk z14.length z14 ([.val (.string (z13.extract (Int.toNat z15) (Int.toNat (z13.size : Int))))] : List D) 1 16) (some (z14 ++ ([.val (.string (z13.extract (Int.toNat z15) (Int.toNat (z13.size : Int))))] : List D))))) else (some z14)))) = _
  rw [ask_of (show ([0, 0] : List Nat) = [0, ([] : List D).length] from rfl), q1, ← q3']
  by_cases h : st' < s.size
  · rw [if_pos h]
    show (bif (decide ((st' : Int) < (s.size : Int))) then (ask (cutOk (st' : Int) (s.size : Int) s.size) (ask (addOk (acc'.map encB).length (acc'.map encB) ([.val (.string (s.extract (Int.toNat (st' : Int)) (Int.toNat (s.size : Int))))] : List D) 1 16) (some (acc'.map encB ++ ([.val (.string (s.extract (Int.toNat (st' : Int)) (Int.toNat (s.size : Int))))] : List D))))) else (some (acc'.map encB))) = _
    rw [decide_eq_true (by omega), cond_true, ask_of (show cutOk (st' : Int) (s.size : Int) s.size from ⟨by omega, by omega, by omega⟩), Int.toNat_natCast, Int.toNat_natCast, ext_list]
    show (ask (addOk (acc'.map encB).length (acc'.map encB) [encB (((bl s).take s.size).drop st')] 1 16) (some (acc'.map encB ++ [encB (((bl s).take s.size).drop st')]))) = _
    rw [ask_of (addOk_mapB acc' _ (by unfold maxBytes; omega)), map_snoc]
  · rw [if_neg h]
    show (bif (decide ((st' : Int) < (s.size : Int))) then _ else (some (acc'.map encB))) = _
    rw [decide_eq_false (by omega), cond_false]
/-! the law -/
def joinL : List (List UInt8) → List UInt8
  | [] => []
  | x :: t => x ++ [10] ++ joinL t
def finL (l : List UInt8) : List UInt8 := if l = [] ∨ l.getLast? = some 10 then l else l ++ [10]
theorem join_lines : ∀ (l cur : List UInt8), (10 : UInt8) ∉ cur → joinL (linesF cur l) = finL (cur ++ l)
  | [], cur, h => by
    rw [linesF, List.append_nil, finL]
    by_cases hc : cur = []
    · rw [if_pos hc, if_pos (.inl hc), hc]; rfl
    · rw [if_neg hc, if_neg]
      · simp [joinL]
      · rintro (q | q)
        · exact hc q
        · exact h (List.mem_of_getLast? q)
  | c :: t, cur, h => by
    rw [linesF]
    by_cases hc : c = 10
    · subst hc
      rw [if_pos rfl, joinL, join_lines t [] (by simp), List.nil_append, finL, finL]
      by_cases ht : t = []
      · subst ht
        rw [if_pos (.inl rfl), if_pos (.inr (by simp))]; simp
      · have hg : (cur ++ 10 :: t).getLast? = t.getLast? := by
          rw [List.getLast?_append, List.getLast?_cons]
          cases hq : t.getLast? with
          | none => exact absurd (List.getLast?_eq_none_iff.1 hq) ht
          | some x => rfl
        rw [hg]
        by_cases hq : t.getLast? = some 10
        · rw [if_pos (.inr hq), if_pos (.inr hq)]; simp
        · rw [if_neg (by rintro (q | q); exact ht q; exact hq q), if_neg (by rintro (q | q); simp at q; exact hq q)]; simp
    · rw [if_neg hc, join_lines t (cur ++ [c]) (by simp; exact ⟨h, fun e => hc e.symm⟩), List.append_assoc]
      rfl
theorem fin_len (l : List UInt8) : (finL l).length ≤ l.length + 1 := by
  unfold finL; split <;> simp
theorem cellB (x : List UInt8) : cellAt 0 (encB x) = some (.val (.string ⟨x.toArray⟩)) := rfl
theorem cellN (x : Nat) : cellAt 0 (encN64 x) = some (.val (.int .i64 (x : Int))) := rfl
theorem asS (x : ByteArray) : asStr (.val (.string x)) = some x := rfl
theorem lenB (x : List UInt8) : (encB x).cells.length = 1 := rfl
theorem lenN (x : Nat) : (encN64 x).cells.length = 1 := rfl
theorem mk_app (a b : List UInt8) : (⟨a.toArray⟩ : ByteArray) ++ (⟨b.toArray⟩ : ByteArray) = (⟨(a ++ b).toArray⟩ : ByteArray) := by
  apply ByteArray.ext; simp
theorem L8 {s : ByteArray} (ls : List (List UInt8)) (hl : ls.length ≤ 1048576) : ∀ (d n k : Nat) (j : List UInt8), ls.length - k ≤ d → d < n → k ≤ ls.length → j.length + (joinL (ls.drop k)).length ≤ 1048577 →
    L8_0 n (s, (List.range' 1 ls.length).map encN64, ls.map encB, ls.map encB, (⟨j.toArray⟩ : ByteArray), (k : Int)) () = some (O8_0.x1 s (⟨(j ++ joinL (ls.drop k)).toArray⟩ : ByteArray), ()) := by
  intro d
  induction d with
  | zero =>
    intro n k j hd hn hk hj
    obtain ⟨m, rfl⟩ : ∃ m, n = m + 1 := ⟨n - 1, by omega⟩
    rw [L8_step, List.length_map, decide_eq_false (by omega), cond_false, List.drop_eq_nil_of_le (by omega), joinL, List.append_nil]
  | succ d ih =>
    intro n k j hd hn hk hj
    obtain ⟨m, rfl⟩ : ∃ m, n = m + 1 := ⟨n - 1, by omega⟩
    by_cases h : k < ls.length
    · have e0 : w64 ((k : Int) + 1) = ((k + 1 : Nat) : Int) := by rw [w64_id (by omega) (by omega)]; omega
      have hr : (List.range' 1 ls.length)[k]? = some (k + 1) := by
        rw [List.getElem?_range' h]; congr 1; omega
      rw [List.drop_eq_getElem_cons h, joinL] at hj
      simp only [List.length_append, List.length_cons, List.length_nil] at hj
      rw [L8_step, List.length_map, decide_eq_true (by omega), cond_true, lidx_map, lidx_map, hr, List.getElem?_eq_getElem h, e0]
      simp only [Option.map_some, Option.bind_some, ask_of (lenN _), ask_of (lenB _), cellN, cellB, asI64, asS, bne_self_eq_false, cond_false, (sEq_iff _ _).2 rfl, Bool.not_true]
      rw [ask_of (catOk_of (by rw [size_mk, size_mk]; omega)), mk_app, ask_of (catOk_of (by rw [size_mk, List.length_append]; show j.length + (ls[k]).length + 1 ≤ _; omega))]
      rw [show (⟨#[10]⟩ : ByteArray) = (⟨[(10 : UInt8)].toArray⟩ : ByteArray) from rfl, mk_app]
      rw [ih m (k + 1) (j ++ ls[k] ++ [10]) (by omega) (by omega) (by omega) (by simp only [List.length_append, List.length_cons, List.length_nil]; omega), List.drop_eq_getElem_cons h, joinL]
      simp only [List.append_assoc]
    · rw [L8_step, List.length_map, decide_eq_false (by omega), cond_false, List.drop_eq_nil_of_le (by omega), joinL, List.append_nil]
theorem plain8 (a0 : ByteArray) (h : a0.size ≤ 1048576) : n8 a0 = some true := by
  have hsz : a0.size = (bl a0).length := size_list a0
  have hll := lines_len (bl a0) []
  have hfl := fin_len (bl a0)
  have hj : joinL (linesF [] (bl a0)) = finL (bl a0) := join_lines (bl a0) [] (by simp)
  simp only [List.length_nil] at hll
  have hL := L8 (s := a0) (linesF [] (bl a0)) (by omega) (linesF [] (bl a0)).length 1000000000000 0 [] (by omega) (by omega) (by omega) (by rw [List.drop_zero, hj]; simp only [List.length_nil]; omega)
  rw [List.drop_zero, hj, List.nil_append] at hL
  show ((n33 a0).bind fun y2 => ((n34 a0).bind fun y3 => (bif (((y2.2.length : Nat) : Int) != ((y3.length : Nat) : Int)) then (some false) else ((L8_0 1000000000000 (a0, y2.1, y2.2, y3, (⟨([] : List UInt8).toArray⟩ : ByteArray), ((0 : Nat) : Int)) ()).bind fun p25 => match p25.1 with | .x0 z26 => (some z26) | .x1 z27 z28 => (bif (!(sEq z27 (⟨#[]⟩ : ByteArray))) then ((sidx z27 (w64 ((z27.size : Int) - 1))).bind fun c29 => (bif ((c29.toNat : Int) != 10) then (ask (catOk z27 (⟨#[10]⟩ : ByteArray)) (bif (sEq z28 (z27 ++ (⟨#[10]⟩ : ByteArray))) then ((n32 ()).bind fun y30 => (some y30)) else (some false))) else (bif (sEq z28 z27) then ((n32 ()).bind fun y31 => (some y31)) else (some false)))) else (bif (sEq z28 z27) then ((n32 ()).bind fun y32 => (some y32)) else (some false))))))) = _
  rw [n33_eq h, Option.bind_some, n34_eq h, Option.bind_some]
  simp only [bne_self_eq_false, cond_false]
  rw [hL, Option.bind_some]
  show (bif (!(sEq a0 (⟨#[]⟩ : ByteArray))) then ((sidx a0 (w64 ((a0.size : Int) - 1))).bind fun c29 => (bif ((c29.toNat : Int) != 10) then (ask (catOk a0 (⟨#[10]⟩ : ByteArray)) (bif (sEq (⟨(finL (bl a0)).toArray⟩ : ByteArray) (a0 ++ (⟨#[10]⟩ : ByteArray))) then ((n32 ()).bind fun y30 => (some y30)) else (some false))) else (bif (sEq (⟨(finL (bl a0)).toArray⟩ : ByteArray) a0) then ((n32 ()).bind fun y31 => (some y31)) else (some false)))) else (bif (sEq (⟨(finL (bl a0)).toArray⟩ : ByteArray) a0) then ((n32 ()).bind fun y32 => (some y32)) else (some false))) = _
  rw [alive_true]
  by_cases hz : bl a0 = []
  · have e : a0 = (⟨#[]⟩ : ByteArray) := by rw [← ba_mk a0, hz]
    have e2 : sEq a0 (⟨#[]⟩ : ByteArray) = true := (sEq_iff _ _).2 e
    have e3 : sEq (⟨(finL (bl a0)).toArray⟩ : ByteArray) a0 = true := (sEq_iff _ _).2 (by unfold finL; rw [if_pos (.inl hz), ba_mk])
    rw [e2, e3]; rfl
  · have hpos := List.length_pos_iff.2 hz
    have e2 : sEq a0 (⟨#[]⟩ : ByteArray) = false := by
      rw [Bool.eq_false_iff]; intro hh
      have := congrArg ByteArray.size ((sEq_iff _ _).1 hh)
      rw [hsz] at this
      exact absurd this (by show ¬ (bl a0).length = 0; omega)
    have ew : w64 ((a0.size : Int) - 1) = (((bl a0).length - 1 : Nat) : Int) := by rw [w64_id (by omega) (by omega)]; omega
    have hlast : (bl a0)[(bl a0).length - 1]? = (bl a0).getLast? := List.getLast?_eq_getElem?.symm
    obtain ⟨c, hc⟩ : ∃ c, (bl a0).getLast? = some c := by
      cases hq : (bl a0).getLast? with
      | none => exact absurd (List.getLast?_eq_none_iff.1 hq) hz
      | some x => exact ⟨x, rfl⟩
    rw [e2, Bool.not_false, cond_true, ew, sidx_bl (hlast.trans hc), Option.bind_some]
    by_cases h10 : c = 10
    · subst h10
      have e3 : sEq (⟨(finL (bl a0)).toArray⟩ : ByteArray) a0 = true := (sEq_iff _ _).2 (by unfold finL; rw [if_pos (.inr hc), ba_mk])
      rw [e3]; rfl
    · have hb : ((c.toNat : Int) != 10) = true := by
        rw [bne_iff_ne]
        intro e
        apply h10
        apply UInt8.toNat_inj.1
        show c.toNat = 10
        omega
      have e3 : sEq (⟨(finL (bl a0)).toArray⟩ : ByteArray) (a0 ++ (⟨#[10]⟩ : ByteArray)) = true := (sEq_iff _ _).2 (by
        unfold finL
        rw [if_neg (by rintro (q | q); exact hz q; rw [hc] at q; exact h10 (Option.some.inj q)), ← mk_app, ba_mk])
      rw [hb, cond_true, ask_of (catOk_of (by show a0.size + 1 ≤ _; omega)), e3]; rfl
end Ev

/- Plain law: TextPads. -/
set_option linter.unusedSimpArgs false
set_option linter.unusedVariables false
namespace Ev
open Go

def blanks (k : Nat) : ByteArray := ⟨(List.replicate k (32 : UInt8)).toArray⟩
theorem blanks_size (k : Nat) : (blanks k).size = k := by show (List.replicate k (32 : UInt8)).toArray.size = k; simp
theorem app_size (a b : ByteArray) : (a ++ b).size = a.size + b.size := ByteArray.size_append
theorem app_data (a b : ByteArray) : (a ++ b).data.toList = a.data.toList ++ b.data.toList := by simp
theorem ba_ext {a b : ByteArray} (h : a.data.toList = b.data.toList) : a = b := ByteArray.ext (Array.toList_inj.1 h)
theorem blanks_succ (s : ByteArray) (k : Nat) : s ++ blanks (k + 1) = (s ++ (⟨#[32]⟩ : ByteArray)) ++ blanks k := by
  apply ba_ext
  simp only [app_data, blanks, List.append_assoc]
  congr 1
theorem blanks_zero (s : ByteArray) : s ++ blanks 0 = s := by
  apply ba_ext
  simp [blanks]
theorem L51_step (v5 : ByteArray) (v6 v7 : Int) (n : Nat) : L51_0 (n + 1) (v5, v6, v7) () = (bif (decide (v7 < v6)) then (ask (catOk v5 (⟨#[32]⟩ : ByteArray)) (L51_0 n ((v5 ++ (⟨#[32]⟩ : ByteArray)), v6, (w64 (v7 + 1))) ())) else (some (O51_0.x0 v5, ()))) := rfl
theorem L51 : ∀ (d n w : Nat) (s : ByteArray), d < n → w + d ≤ 2097152 → s.size + d ≤ 2097152 → L51_0 n (s, ((w + d : Nat) : Int), (w : Int)) () = some (O51_0.x0 (s ++ blanks d), ()) := by
  intro d
  induction d with
  | zero =>
    intro n w s hn _ _
    obtain ⟨m, rfl⟩ : ∃ m, n = m + 1 := ⟨n - 1, by omega⟩
    rw [L51_step, decide_eq_false (by omega), cond_false, blanks_zero]
  | succ d ih =>
    intro n w s hn hw hs
    obtain ⟨m, rfl⟩ : ∃ m, n = m + 1 := ⟨n - 1, by omega⟩
    have e1 : w64 ((w : Int) + 1) = ((w + 1 : Nat) : Int) := by rw [w64_id (by omega) (by omega)]; omega
    have e2 : ((w + (d + 1) : Nat) : Int) = ((w + 1 + d : Nat) : Int) := by omega
    have e3 : (s ++ (⟨#[32]⟩ : ByteArray)).size = s.size + 1 := app_size s _
    have hsz : (⟨#[32]⟩ : ByteArray).size = 1 := rfl
    rw [L51_step, decide_eq_true (by omega), cond_true, ask_of (catOk_of (by rw [hsz]; omega)), e1, e2, ih m (w + 1) _ (by omega) (by omega) (by omega), blanks_succ]
theorem L51_none (s : ByteArray) (a w : Int) (h : ¬ w < a) (n : Nat) (hn : 0 < n) : L51_0 n (s, a, w) () = some (O51_0.x0 s, ()) := by
  obtain ⟨m, rfl⟩ : ∃ m, n = m + 1 := ⟨n - 1, by omega⟩
  rw [L51_step, decide_eq_false h, cond_false]
theorem repeat_blank : ∀ c : Nat, Lib.repeatL [32] c = List.replicate c 32
  | 0 => rfl
  | c + 1 => by rw [Lib.repeatL, repeat_blank c]; rfl
/-- How many blanks are put behind. -/
def room (s : ByteArray) (a : Int) : Nat := (a - ((runesL s 0).length : Int)).toNat
theorem len_le (s : ByteArray) : (runesL s 0).length ≤ s.size := by have := runesL_length (s := s) s.size 0 (by omega); omega
theorem n51_eq {s : ByteArray} (hs : s.size ≤ 1048576) {a : Int} (h0 : 0 ≤ a) (h1 : a ≤ 4096) : n51 (s, a) = some (s ++ blanks (room s a), 0) := by
  have hl := len_le s
  show (bif (bif (decide (a < 0)) then true else (decide (a > 4096))) then (some ((⟨#[]⟩ : ByteArray), 23)) else ((n55 s).bind fun y4 => ((L51_0 1000000000000 (s, a, y4) ()).bind fun p9 => match p9.1 with | .x0 z10 => (some (z10, 0)))) : Option (ByteArray × Int)) = _
  rw [decide_eq_false (by omega), cond_false, decide_eq_false (by omega), cond_false, n55_eq hs, Option.bind_some]
  by_cases h : ((runesL s 0).length : Int) < a
  · have e : a = (((runesL s 0).length + room s a : Nat) : Int) := by unfold room; omega
    have hr : room s a ≤ 4096 := by unfold room; omega
    have := L51 (room s a) 1000000000000 (runesL s 0).length s (by omega) (by omega) (by omega)
    rw [← e] at this
    rw [this]; rfl
  · have e : room s a = 0 := by unfold room; omega
    rw [L51_none s a _ h _ (by omega), e, blanks_zero]; rfl
theorem n50_eq {s : ByteArray} (hs : s.size ≤ 1048576) {a : Int} (h0 : 0 ≤ a) (h1 : a ≤ 4096) : n50 (s, a) = some (s ++ blanks (room s a), 0) := by
  have hl := len_le s
  show (bif (bif (decide (a < 0)) then true else (decide (a > 4096))) then (some ((⟨#[]⟩ : ByteArray), 23)) else ((n52 s).bind fun y4 => ((n82 ((⟨#[32]⟩ : ByteArray), (if 0 > (w64 (a - y4)) then 0 else (w64 (a - y4))))).bind fun y5 => (ask (catOk s y5) (some ((s ++ y5), 0))))) : Option (ByteArray × Int)) = _
  rw [decide_eq_false (by omega), cond_false, decide_eq_false (by omega), cond_false, n52_eq hs, Option.bind_some, w64_id (by omega) (by omega)]
  have e : (if 0 > a - (((runesL s 0).length : Nat) : Int) then 0 else a - (((runesL s 0).length : Nat) : Int)) = ((room s a : Nat) : Int) := by
    unfold room; split <;> omega
  have hr : room s a ≤ 4096 := by unfold room; omega
  rw [e]
  have h32 : (⟨#[32]⟩ : ByteArray).size = 1 := rfl
  have hok : repOk ⟨#[32]⟩ ((room s a : Nat) : Int) := ⟨by omega, Nat.ble_eq_true_of_le (by omega), Nat.ble_eq_true_of_le (by rw [h32]; omega)⟩
  show (ask (repOk ⟨#[32]⟩ ((room s a : Nat) : Int)) (some (⟨(Lib.repeatL [32] (((room s a : Nat) : Int)).toNat).toArray⟩ : ByteArray))).bind _ = _
  rw [ask_of hok, Option.bind_some, Int.toNat_natCast, repeat_blank]
  show ask (catOk s (blanks (room s a))) _ = _
  rw [ask_of (catOk_of (by rw [blanks_size]; omega))]
  rfl
theorem n50_out {s : ByteArray} {a : Int} (h : a < 0 ∨ 4096 < a) : n50 (s, a) = some (⟨#[]⟩, 23) ∧ n51 (s, a) = some (⟨#[]⟩, 23) := by
  have e : (bif (decide (a < 0)) then true else (decide (a > 4096))) = true := by
    rcases h with h | h
    · rw [decide_eq_true h]; rfl
    · cases decide (a < 0) with
      | true => rfl
      | false => exact decide_eq_true h
  constructor
  · simp only [n50, e, cond_true]
  · simp only [n51, e, cond_true]

/-! how wide it is then -/
theorem decodeN_cong {n n' b0 b1 b2 b3 c1 c2 c3 : Nat} (h1 : (1 < n ∧ b1 / 64 = 2) ↔ (1 < n' ∧ c1 / 64 = 2)) (h2 : (2 < n ∧ b2 / 64 = 2) ↔ (2 < n' ∧ c2 / 64 = 2)) (h3 : (3 < n ∧ b3 / 64 = 2) ↔ (3 < n' ∧ c3 / 64 = 2))
    (e1 : (1 < n ∧ b1 / 64 = 2) → b1 = c1) (e2 : (2 < n ∧ b2 / 64 = 2) → b2 = c2) (e3 : (3 < n ∧ b3 / 64 = 2) → b3 = c3) : Lib.decodeN n b0 b1 b2 b3 = Lib.decodeN n' b0 c1 c2 c3 := by
  unfold Lib.decodeN
  by_cases k0 : b0 < 128
  · rw [if_pos k0, if_pos k0]
  rw [if_neg k0, if_neg k0]
  by_cases q1 : 1 < n ∧ b1 / 64 = 2
  · have := e1 q1
    subst this
    by_cases q2 : 2 < n ∧ b2 / 64 = 2
    · have := e2 q2
      subst this
      by_cases q3 : 3 < n ∧ b3 / 64 = 2
      · have := e3 q3
        subst this
        simp only [q1, q2, q3, h1.1 q1, h2.1 q2, h3.1 q3, and_true, true_and]
      · have q3' : ¬ (3 < n' ∧ c3 / 64 = 2) := fun h => q3 (h3.2 h)
        simp only [q1, q2, q3, q3', h1.1 q1, h2.1 q2, and_true, true_and, and_false, false_and, if_false]
    · have q2' : ¬ (2 < n' ∧ c2 / 64 = 2) := fun h => q2 (h2.2 h)
      simp only [q1, q2, q2', h1.1 q1, and_true, true_and, false_and, and_false, if_false]
  · have q1' : ¬ (1 < n' ∧ c1 / 64 = 2) := fun h => q1 (h1.2 h)
    simp only [q1, q1', false_and, and_false, if_false]
theorem get_bang_eq (s : ByteArray) (k : Nat) : s.get! k = (s.data.toList[k]?).getD 0 := by
  rw [← get_list]
  by_cases h : k < s.size
  · rw [get_bang h]; rfl
  · rw [getElem?_neg s k h]
    simp only [ByteArray.get!, Option.getD_none]
    rw [getElem!_neg s.data k (by simpa using h)]
    rfl
/-- Behind a text stand bytes that go on with no rune. -/
theorem decode_app {s t : ByteArray} (ht : ∀ k, bt t k / 64 ≠ 2) {i : Nat} (hi : i < s.size) : Utf8.decode (s ++ t) i = Utf8.decode s i := by
  have g : ∀ k, bt (s ++ t) k = if k < s.size then bt s k else bt t (k - s.size) := by
    intro k
    unfold bt
    rw [get_bang_eq, app_data]
    split
    · rename_i h
      rw [List.getElem?_append_left (by rw [← size_list]; exact h), ← get_bang_eq]
    · rename_i h
      rw [List.getElem?_append_right (by rw [← size_list]; omega), ← get_bang_eq, size_list]
  rw [Lib.decode_at, Lib.decode_at, app_size]
  have g0 : bt (s ++ t) i = bt s i := by rw [g, if_pos hi]
  show Lib.decodeN _ (bt (s ++ t) i) (bt (s ++ t) (i + 1)) (bt (s ++ t) (i + 2)) (bt (s ++ t) (i + 3)) = Lib.decodeN _ (bt s i) (bt s (i + 1)) (bt s (i + 2)) (bt s (i + 3))
  rw [g0]
  have key : ∀ k, ((k < s.size + t.size - i ∧ bt (s ++ t) (i + k) / 64 = 2) ↔ (k < s.size - i ∧ bt s (i + k) / 64 = 2)) ∧ ((k < s.size + t.size - i ∧ bt (s ++ t) (i + k) / 64 = 2) → bt (s ++ t) (i + k) = bt s (i + k)) := by
    intro k
    rw [g]
    split
    · rename_i h
      exact ⟨⟨fun q => ⟨by omega, q.2⟩, fun q => ⟨by omega, q.2⟩⟩, fun _ => rfl⟩
    · rename_i h
      exact ⟨⟨fun q => (ht _ q.2).elim, fun q => by omega⟩, fun q => (ht _ q.2).elim⟩
  exact decodeN_cong (key 1).1 (key 2).1 (key 3).1 (key 1).2 (key 2).2 (key 3).2
theorem bt_blanks (k j : Nat) : bt (blanks k) j / 64 ≠ 2 := by
  unfold bt
  rw [get_bang_eq, blanks, toList_mk, List.getElem?_replicate]
  split <;> decide
theorem wd_app {s t : ByteArray} (ht : ∀ k, bt t k / 64 ≠ 2) {i : Nat} (hi : i < s.size) : wd (s ++ t) i = wd s i := by unfold wd; rw [decode_app ht hi]
theorem len_app_head {s t : ByteArray} (ht : ∀ k, bt t k / 64 ≠ 2) : ∀ (d i : Nat), s.size - i ≤ d → i ≤ s.size → (runesL (s ++ t) i).length = (runesL s i).length + (runesL (s ++ t) s.size).length := by
  intro d
  induction d with
  | zero =>
    intro i hd hi
    have : i = s.size := by omega
    subst this
    rw [runesL_nil (s := s) (Nat.le_refl _)]; simp
  | succ d ih =>
    intro i hd hi
    by_cases h : i < s.size
    · have w1 := wd_pos s i
      have w2 := wd_le h
      rw [runesL_cons (s := s ++ t) (by rw [app_size]; omega), runesL_cons h, wd_app ht h, List.length_cons, List.length_cons, ih (i + wd s i) (by omega) w2]
      omega
    · have : i = s.size := by omega
      subst this
      rw [runesL_nil (s := s) (Nat.le_refl _)]; simp
theorem len_blanks {s : ByteArray} {k : Nat} : ∀ (d i : Nat), s.size + k - i ≤ d → s.size ≤ i → i ≤ s.size + k → (runesL (s ++ blanks k) i).length = s.size + k - i := by
  intro d
  induction d with
  | zero =>
    intro i hd h1 h2
    rw [runesL_nil (by rw [app_size, blanks_size]; omega)]; simp; omega
  | succ d ih =>
    intro i hd h1 h2
    by_cases h : i < s.size + k
    · have hb : bt (s ++ blanks k) i = 32 := by
        unfold bt
        rw [get_bang_eq, app_data, List.getElem?_append_right (by rw [← size_list]; omega), blanks, toList_mk, List.getElem?_replicate, if_pos (by rw [← size_list]; omega)]
        rfl
      have hw : wd (s ++ blanks k) i = 1 := by
        unfold wd
        rw [Lib.decode_at]
        show (Lib.decodeN _ (bt (s ++ blanks k) i) _ _ _).2 = 1
        rw [hb]; rfl
      rw [runesL_cons (by rw [app_size, blanks_size]; omega), List.length_cons, hw, ih (i + 1) (by omega) (by omega) (by omega)]
      omega
    · rw [runesL_nil (by rw [app_size, blanks_size]; omega)]; simp; omega
theorem len_pad (s : ByteArray) (k : Nat) : (runesL (s ++ blanks k) 0).length = (runesL s 0).length + k := by
  rw [len_app_head (bt_blanks k) s.size 0 (by omega) (by omega), len_blanks k s.size (by omega) (by omega) (by omega)]
  omega
theorem plain14 (a0 : ByteArray) (a1 : Int) (h : a0.size ≤ 1048576) (w : (Lit.int .i64 a1).wf = true) : n14 (a0, a1) = some true := by
  have b : ∀ x : Int, (x == x) = true := fun x => beq_iff_eq.2 rfl
  by_cases h0 : a1 < 0 ∨ 4096 < a1
  · obtain ⟨e1, e2⟩ := n50_out (s := a0) h0
    simp only [n14, e1, e2, Option.bind_some, n39, (sEq_iff _ _).2 rfl, cond_true, b, alive_true]
    rfl
  · have hl := len_le a0
    have hr : room a0 a1 ≤ 4096 := by unfold room; omega
    have e1 := n50_eq h (a := a1) (by omega) (by omega)
    have e2 := n51_eq h (a := a1) (by omega) (by omega)
    have e3 : n52 (a0 ++ blanks (room a0 a1)) = some ((((runesL a0 0).length + room a0 a1 : Nat)) : Int) := by
      have hsz : (a0 ++ blanks (room a0 a1)).size ≤ 1048576 + 4096 := by rw [app_size, blanks_size]; omega
      obtain ⟨j, hj⟩ := L52 (s := a0 ++ blanks (room a0 a1)) (by omega) (a0 ++ blanks (room a0 a1)).size 1000000000000 0 0 (by omega) (by omega) (by omega) (by omega)
      show ((L52_0 1000000000000 (0, (a0 ++ blanks (room a0 a1)), 0) ()).bind fun p8 => match p8.1 with | .x0 z9 z10 z11 => (some z9)) = _
      rw [show (0 : Int) = ((0 : Nat) : Int) from rfl, hj, Option.bind_some, Nat.zero_add, len_pad]
    have e4 : (((((runesL a0 0).length + room a0 a1 : Nat)) : Int) == (if (((runesL a0 0).length : Nat) : Int) > a1 then (((runesL a0 0).length : Nat) : Int) else a1)) = true := by
      rw [beq_iff_eq]; unfold room; split <;> omega
    simp only [n14, e1, e2, Option.bind_some, n39, (sEq_iff _ _).2 rfl, cond_true, b, e3, n52_eq h, e4, alive_true]
    rfl
end Ev

/- Plain law: TextCut. -/
set_option linter.unusedSimpArgs false
set_option linter.unusedVariables false
namespace Ev
open Go

theorem getD_drop (s : ByteArray) (i k : Nat) : ((bl s).drop i).getD k 0 = s.get! (i + k) := by
  rw [get_bang_eq, List.getD_eq_getElem?_getD, List.getElem?_drop]
theorem dec_small {s : ByteArray} {i : Nat} (h : (Utf8.decode s i).1 < 128) : Utf8.decode s i = (bt s i, 1) := by
  rw [← Lib.decodeL_drop, Lib.decodeL_N] at h ⊢
  rw [getD_drop s i 0] at h ⊢
  have k0 := bt_lt (s := s) i
  rcases Lib.decodeN_shape ((bl s).drop i).length (s.get! (i + 0)).toNat (((bl s).drop i).getD 1 0).toNat (((bl s).drop i).getD 2 0).toNat (((bl s).drop i).getD 3 0).toNat with q | q | q | q | q
  · rw [q.2]; rfl
  · obtain ⟨a1, a2, a3, a4, e⟩ := q
    rw [e] at h; simp only at h; omega
  · obtain ⟨a1, a2, a3, a4, a5, a6, e⟩ := q
    rw [e] at h; simp only at h; omega
  · obtain ⟨a1, a2, a3, a4, a5, a6, a7, e⟩ := q
    rw [e] at h; simp only at h; omega
  · rw [q] at h; simp at h
theorem dec_ascii {s : ByteArray} {i : Nat} (h : bt s i < 128) : Utf8.decode s i = (bt s i, 1) := by
  rw [← Lib.decodeL_drop, Lib.decodeL_N, getD_drop s i 0, Lib.decodeN_ascii _ _ _ _ _ (show (s.get! (i + 0)).toNat < 128 from h)]
  rfl
/-- A word: where it begins, where it ends, and two numbers told of it. -/
abbrev Wd := Nat × Nat × Int × Int
def encW (s : ByteArray) (w : Wd) : D := .agg [.val (.string (s.extract w.1 w.2.1)), .val (.int .i64 (w.1 : Int)), .val (.int .i64 w.2.2.1), .val (.int .i64 w.2.2.2)]
def bk (s : ByteArray) (j : Nat) : Prop := bt s j = 32 ∨ bt s j = 9 ∨ bt s j = 13
def wOk (s : ByteArray) (e : Nat) (w : Wd) : Prop := e ≤ w.1 ∧ w.1 < w.2.1 ∧ w.2.1 ≤ s.size ∧ (∀ j, e ≤ j → j < w.1 → bk s j) ∧ bt s w.1 ≠ 35
def chain (s : ByteArray) : Nat → List Wd → Nat → Prop
  | a, [], e => a = e
  | a, w :: t, e => wOk s a w ∧ chain s w.2.1 t e
theorem chain_snoc {s : ByteArray} {w : Wd} : ∀ (acc : List Wd) (a e : Nat), chain s a acc e → wOk s e w → chain s a (acc ++ [w]) w.2.1
  | [], a, e, h, hw => by
    obtain rfl : a = e := h
    exact ⟨hw, rfl⟩
  | x :: t, a, e, h, hw => ⟨h.1, chain_snoc t x.2.1 e h.2 hw⟩
def tailOk (s : ByteArray) (e : Nat) : Prop := (∀ j, e ≤ j → j < s.size → bk s j) ∨ (∃ j, e ≤ j ∧ j < s.size ∧ (∀ i, e ≤ i → i < j → bk s i) ∧ bt s j = 35 ∧ (j = 0 ∨ bk s (j - 1)))
theorem n69_dec (s : ByteArray) (i : Nat) : ∃ b, n69 ((Utf8.decode s i).1 : Int) = some b ∧ (b = true → bk s i ∧ (Utf8.decode s i).2 = 1) := by
  refine ⟨_, rfl, fun hb => ?_⟩
  have h : (Utf8.decode s i).1 = 32 ∨ (Utf8.decode s i).1 = 9 ∨ (Utf8.decode s i).1 = 13 := by
    simp only [cond_iff, beq_iff_eq] at hb
    omega
  have e := dec_small (s := s) (i := i) (by omega)
  rw [e] at h ⊢
  exact ⟨h, rfl⟩
theorem addOk_mapW (s : ByteArray) (acc : List Wd) (x : Wd) (h : (acc.length + 1) * 40 ≤ maxBytes) : addOk (acc.map (encW s)).length (acc.map (encW s)) [encW s x] 4 40 := addOk_map (encW s) 4 40 (fun _ => rfl) acc x h
theorem L35_step (v3 v4 : Int) (v5 : ByteArray) (v6 : List D) (v7 v8 v9 v10 : Int) (v11 : ByteArray) (v12 k13 : Nat) (n : Nat) : L35_0 (n + 1) (v3, v4, v5, v6, v7, v8, v9, v10, v11, v12, k13) () = (bif decide (v12 < v11.size) then ((n69 ((Utf8.decode v11 v12).1 : Int)).bind fun y14 => (bif y14 then (bif (decide (v10 ≥ 0)) then (ask (cutOk v10 (v12 : Int) v5.size) (ask (addOk v6.length v6 ([.agg [.val (.string (v5.extract (Int.toNat v10) (Int.toNat (v12 : Int)))), .val (.int .i64 v7), .val (.int .i64 v8), .val (.int .i64 v9)]] : List D) 4 40) (ask (([k13, (v6.length + ([.agg [.val (.string (v5.extract (Int.toNat v10) (Int.toNat (v12 : Int)))), .val (.int .i64 v7), .val (.int .i64 v8), .val (.int .i64 v9)]] : List D).length)] : List Nat) = [k13, (v6 ++ ([.agg [.val (.string (v5.extract (Int.toNat v10) (Int.toNat (v12 : Int)))), .val (.int .i64 v7), .val (.int .i64 v8), .val (.int .i64 v9)]] : List D)).length]) (L35_0 n (v3, (w64 (v4 + 1)), v5, (v6 ++ ([.agg [.val (.string (v5.extract (Int.toNat v10) (Int.toNat (v12 : Int)))), .val (.int .i64 v7), .val (.int .i64 v8), .val (.int .i64 v9)]] : List D)), v7, v8, v9, (-1), v11, (v12 + (Utf8.decode v11 v12).2), k13) ())))) else (ask (([k13, v6.length] : List Nat) = [k13, v6.length]) (L35_0 n (v3, (w64 (v4 + 1)), v5, v6, v7, v8, v9, (-1), v11, (v12 + (Utf8.decode v11 v12).2), k13) ()))) else (bif (bif (decide (v10 < 0)) then (((Utf8.decode v11 v12).1 : Int) == 35) else false) then (ask (([k13, v6.length] : List Nat) = [k13, v6.length]) (some (O35_0.x0 v6 v5 v6 v7 v8 v9 v10 v11 (v12 + (Utf8.decode v11 v12).2) k13, ()))) else (bif (decide (v10 < 0)) then (ask (([k13, v6.length] : List Nat) = [k13, v6.length]) (L35_0 n (v3, (w64 (v4 + 1)), v5, v6, (v12 : Int), v3, (w64 (v4 + 1)), (v12 : Int), v11, (v12 + (Utf8.decode v11 v12).2), k13) ())) else (ask (([k13, v6.length] : List Nat) = [k13, v6.length]) (L35_0 n (v3, (w64 (v4 + 1)), v5, v6, v7, v8, v9, v10, v11, (v12 + (Utf8.decode v11 v12).2), k13) ())))))) else (ask (([k13, v6.length] : List Nat) = [k13, v6.length]) (some (O35_0.x1 v5 v6 v7 v8 v9 v10 v11 v12 k13, ())))) := rfl
def fin35 (p : Option (O35_0 × Unit)) : Option (List D) := p.bind fun p34 => match p34.1 with | .x0 z35 z36 z37 z38 z39 z40 z41 z42 z43 z44 => (some z35) | .x1 z45 z46 z47 z48 z49 z50 z51 z52 z53 => (bif (decide (z50 ≥ 0)) then (ask (cutOk z50 (z45.size : Int) z45.size) (ask (addOk z46.length z46 ([.agg [.val (.string (z45.extract (Int.toNat z50) (Int.toNat (z45.size : Int)))), .val (.int .i64 z47), .val (.int .i64 z48), .val (.int .i64 z49)]] : List D) 4 40) (some (z46 ++ ([.agg [.val (.string (z45.extract (Int.toNat z50) (Int.toNat (z45.size : Int)))), .val (.int .i64 z47), .val (.int .i64 z48), .val (.int .i64 z49)]] : List D))))) else (some z46))
theorem n35_fin (s : ByteArray) (a : Int) : n35 (s, a) = fin35 (L35_0 1000000000000 (a, 0, s, [], 0, 0, 0, (-1), s, 0, 0) ()) := by
  show (ask (([0, 0] : List Nat) = [0, ([] : List D).length]) (fin35 (L35_0 1000000000000 (a, 0, s, ([] : List D), 0, 0, 0, (-1), s, 0, 0) ()))) = _
  rw [ask_of (show ([0, 0] : List Nat) = [0, ([] : List D).length] from rfl)]
/-- Where the walk stands: between words, or in one. -/
def st35 (s : ByteArray) (e i : Nat) (v7 cur : Int) : Prop := (cur = -1 ∧ (∀ j, e ≤ j → j < i → bk s j) ∧ (e < i ∨ i = 0)) ∨ (∃ st : Nat, cur = (st : Int) ∧ v7 = (st : Int) ∧ e ≤ st ∧ st < i ∧ (∀ j, e ≤ j → j < st → bk s j) ∧ bt s st ≠ 35)
theorem L35 {s : ByteArray} (hs : s.size ≤ 1048576) (ln : Int) (k13 : Nat) : ∀ (d n i : Nat) (v4 v7 v8 v9 cur : Int) (acc : List Wd) (e : Nat), s.size - i ≤ d → d < n → i ≤ s.size → acc.length ≤ i → chain s 0 acc e → e ≤ i → st35 s e i v7 cur →
    ∃ acc' e', fin35 (L35_0 n (ln, v4, s, acc.map (encW s), v7, v8, v9, cur, s, i, k13) ()) = some (acc'.map (encW s)) ∧ chain s 0 acc' e' ∧ tailOk s e' ∧ acc'.length ≤ s.size + 1 := by
  have done : ∀ (m i : Nat) (v4 v7 v8 v9 cur : Int) (acc : List Wd) (e : Nat), i = s.size → acc.length ≤ i → chain s 0 acc e → e ≤ i → st35 s e i v7 cur →
      ∃ acc' e', fin35 (L35_0 (m + 1) (ln, v4, s, acc.map (encW s), v7, v8, v9, cur, s, i, k13) ()) = some (acc'.map (encW s)) ∧ chain s 0 acc' e' ∧ tailOk s e' ∧ acc'.length ≤ s.size + 1 := by
    intro m i v4 v7 v8 v9 cur acc e hi ha hc he hst
    rw [L35_step, decide_eq_false (by omega), cond_false, ask_of rfl]
    show ∃ acc' e', (bif (decide (cur ≥ 0)) then (ask (cutOk cur (s.size : Int) s.size) (ask (addOk (acc.map (encW s)).length (acc.map (encW s)) ([.agg [.val (.string (s.extract (Int.toNat cur) (Int.toNat (s.size : Int)))), .val (.int .i64 v7), .val (.int .i64 v8), .val (.int .i64 v9)]] : List D) 4 40) (some (acc.map (encW s) ++ ([.agg [.val (.string (s.extract (Int.toNat cur) (Int.toNat (s.size : Int)))), .val (.int .i64 v7), .val (.int .i64 v8), .val (.int .i64 v9)]] : List D))))) else (some (acc.map (encW s)))) = _ ∧ _
    rcases hst with ⟨hcur, hb, _⟩ | ⟨st, hcur, h7, h1, h2, hb, h35⟩
    · subst hcur
      refine ⟨acc, e, by simp, hc, .inl (fun j q1 q2 => hb j q1 (by omega)), by omega⟩
    · subst hcur; subst h7
      rw [decide_eq_true (by omega), cond_true, ask_of (show cutOk (st : Int) (s.size : Int) s.size from ⟨by omega, by omega, by omega⟩), Int.toNat_natCast, Int.toNat_natCast]
      show ∃ acc' e', (ask (addOk (acc.map (encW s)).length (acc.map (encW s)) [encW s (st, s.size, v8, v9)] 4 40) (some (acc.map (encW s) ++ [encW s (st, s.size, v8, v9)]))) = _ ∧ _
      rw [ask_of (addOk_mapW s acc _ (by unfold maxBytes; omega)), map_snoc]
      refine ⟨_, _, rfl, chain_snoc acc 0 e hc (show wOk s e (st, s.size, v8, v9) from ⟨h1, by simp only; omega, Nat.le_refl _, hb, h35⟩), .inl (fun j q1 q2 => absurd q1 (by simp only; omega)), by simp; omega⟩
  intro d
  induction d with
  | zero =>
    intro n i v4 v7 v8 v9 cur acc e hd hn hi ha hc he hst
    obtain ⟨m, rfl⟩ : ∃ m, n = m + 1 := ⟨n - 1, by omega⟩
    exact done m i v4 v7 v8 v9 cur acc e (by omega) ha hc he hst
  | succ d ih =>
    intro n i v4 v7 v8 v9 cur acc e hd hn hi ha hc he hst
    obtain ⟨m, rfl⟩ : ∃ m, n = m + 1 := ⟨n - 1, by omega⟩
    by_cases h : i < s.size
    · have w1 := wd_pos s i
      have w2 := wd_le h
      obtain ⟨b, hb, hbk⟩ := n69_dec s i
      rw [L35_step, decide_eq_true h, cond_true, hb, Option.bind_some]
      cases b with
      | true =>
        obtain ⟨hbk, hw⟩ := hbk rfl
        have hw' : wd s i = 1 := hw
        rw [cond_true, hw]
        rcases hst with ⟨hcur, hbl, hei⟩ | ⟨st, hcur, h7, h1, h2, hbl, h35⟩
        · subst hcur
          rw [decide_eq_false (by omega), cond_false, ask_of rfl]
          exact ih m (i + 1) _ _ _ _ (-1) acc e (by omega) (by omega) (by omega) (by omega) hc (by omega) (.inl ⟨rfl, fun j q1 q2 => by
            by_cases hj : j = i
            · rw [hj]; exact hbk
            · exact hbl j q1 (by omega), .inl (by omega)⟩)
        · subst hcur; subst h7
          rw [decide_eq_true (by omega), cond_true, ask_of (show cutOk (st : Int) (i : Int) s.size from ⟨by omega, by omega, by omega⟩), Int.toNat_natCast, Int.toNat_natCast]
          show ∃ acc' e', fin35 (ask (addOk (acc.map (encW s)).length (acc.map (encW s)) [encW s (st, i, v8, v9)] 4 40) (ask (([k13, ((acc.map (encW s)).length + ([encW s (st, i, v8, v9)] : List D).length)] : List Nat) = [k13, (acc.map (encW s) ++ [encW s (st, i, v8, v9)]).length]) (L35_0 m (ln, (w64 (v4 + 1)), s, (acc.map (encW s) ++ [encW s (st, i, v8, v9)]), (st : Int), v8, v9, (-1), s, (i + 1), k13) ()))) = _ ∧ _
          rw [ask_of (addOk_mapW s acc _ (by unfold maxBytes; omega)), ask_of (toks_one (encW s) acc _ k13), map_snoc]
          exact ih m (i + 1) _ _ _ _ (-1) (acc ++ [(st, i, v8, v9)]) i (by omega) (by omega) (by omega) (by simp; omega) (chain_snoc acc 0 e hc (show wOk s e (st, i, v8, v9) from ⟨h1, h2, hi, hbl, h35⟩)) (by omega) (.inl ⟨rfl, fun j q1 q2 => by
            obtain rfl : j = i := by omega
            exact hbk, .inl (by omega)⟩)
      | false =>
        rw [cond_false]
        rcases hst with ⟨hcur, hbl, hei⟩ | ⟨st, hcur, h7, h1, h2, hbl, h35⟩
        · subst hcur
          rw [decide_eq_true (show (-1 : Int) < 0 by omega), cond_true]
          by_cases h35 : (Utf8.decode s i).1 = 35
          · have e35 := dec_small (s := s) (i := i) (by omega)
            rw [show (((Utf8.decode s i).1 : Int) == 35) = true from beq_iff_eq.2 (by omega), cond_true, ask_of rfl]
            refine ⟨acc, e, rfl, hc, .inr ⟨i, he, h, hbl, ?_, ?_⟩, by omega⟩
            · rw [e35] at h35; exact h35
            · rcases hei with q | q
              · exact .inr (hbl (i - 1) (by omega) (by omega))
              · exact .inl q
          · rw [show (((Utf8.decode s i).1 : Int) == 35) = false from beq_eq_false_iff_ne.2 (by omega), cond_false, cond_true, ask_of rfl]
            exact ih m (i + wd s i) _ _ _ _ (i : Int) acc e (by omega) (by omega) w2 (by omega) hc (by omega) (.inr ⟨i, rfl, rfl, he, by omega, hbl, fun q => h35 (by rw [dec_ascii (by omega)]; exact q)⟩)
        · subst hcur; subst h7
          rw [decide_eq_false (show ¬ (st : Int) < 0 by omega), cond_false, cond_false, cond_false, ask_of rfl]
          exact ih m (i + wd s i) _ _ _ _ (st : Int) acc e (by omega) (by omega) w2 (by omega) hc (by omega) (.inr ⟨st, rfl, rfl, h1, by omega, hbl, h35⟩)
    · exact done m i v4 v7 v8 v9 cur acc e (by omega) ha hc he hst
theorem n35_ok {s : ByteArray} (hs : s.size ≤ 1048576) (a : Int) : ∃ acc e, n35 (s, a) = some (acc.map (encW s)) ∧ chain s 0 acc e ∧ tailOk s e ∧ acc.length ≤ s.size + 1 := by
  rw [n35_fin]
  exact L35 hs a 0 s.size 1000000000000 0 0 0 0 0 (-1) [] 0 (by omega) (by omega) (by omega) (by simp) rfl (by omega) (.inl ⟨rfl, fun j q1 q2 => by omega, .inr rfl⟩)
theorem L10_2_step (v12 : ByteArray) (v13 : List D) (v14 v15 : Int) (k : Nat) (n : Nat) : L10_2 (n + 1) (v12, v13, v14, v15, (k : Int)) () = (bif (decide ((k : Int) < v15)) then ((sidx v12 (k : Int)).bind fun c17 => (bif (bif ((c17.toNat : Int) == 35) then (v14 == ((v13.length : Nat) : Int)) else false) then (bif ((k : Int) == 0) then ((n32 ()).bind fun y18 => (some (O10_2.x0 y18, ()))) else ((sidx v12 (w64 ((k : Int) - 1))).bind fun c20 => (bif ((c20.toNat : Int) == 32) then ((n32 ()).bind fun y21 => (some (O10_2.x0 y21, ()))) else ((sidx v12 (w64 ((k : Int) - 1))).bind fun c22 => (bif ((c22.toNat : Int) == 9) then ((n32 ()).bind fun y23 => (some (O10_2.x0 y23, ()))) else ((sidx v12 (w64 ((k : Int) - 1))).bind fun c24 => (bif ((c24.toNat : Int) == 13) then ((n32 ()).bind fun y25 => (some (O10_2.x0 y25, ()))) else (bif (bif (bif ((c17.toNat : Int) != 32) then ((c17.toNat : Int) != 9) else false) then ((c17.toNat : Int) != 13) else false) then (some (O10_2.x0 false, ())) else (L10_2 n (v12, v13, v14, v15, (w64 ((k : Int) + 1))) ()))))))))) else (bif (bif (bif ((c17.toNat : Int) != 32) then ((c17.toNat : Int) != 9) else false) then ((c17.toNat : Int) != 13) else false) then (some (O10_2.x0 false, ())) else (L10_2 n (v12, v13, v14, v15, (w64 ((k : Int) + 1))) ())))) else (some (O10_2.x1 v12 v13 v14 v15, ()))) := rfl
theorem L10_step (v4 : ByteArray) (v5 : List D) (v6 : Int) (k : Nat) (n : Nat) : L10_0 (n + 1) (v4, v5, v6, (k : Int)) () = (bif (decide ((k : Int) ≤ ((v5.length : Nat) : Int))) then (bif (decide ((k : Int) < ((v5.length : Nat) : Int))) then ((lidx v5 (k : Int)).bind fun d8 => ask (d8.cells.length = 4) ((cellAt 1 d8).bind fun x9 => (asInt .i64 x9).bind fun x10 => (bif (bif (decide (x10 < v6)) then true else (decide (x10 > (v4.size : Int)))) then (some (O10_0.x0 false, ())) else ((L10_2 1000000000000 (v4, v5, (k : Int), x10, v6) ()).bind fun p30 => match p30.1 with | .x0 z31 => (some (O10_0.x0 z31, p30.2)) | .x1 z32 z33 z34 z35 => (bif (z34 == ((z33.length : Nat) : Int)) then (some (O10_0.x1 , p30.2)) else ((lidx z33 z34).bind fun d36 => ask (d36.cells.length = 4) ((cellAt 0 d36).bind fun x37 => (asStr x37).bind fun x38 => (bif (sEq x38 (⟨#[]⟩ : ByteArray)) then (some (O10_0.x0 false, p30.2)) else ((sidx x38 0).bind fun c39 => (bif (bif ((c39.toNat : Int) == 35) then true else (decide ((w64 (z35 + (x38.size : Int))) > (z32.size : Int)))) then (some (O10_0.x0 false, p30.2)) else (ask (cutOk z35 (w64 (z35 + (x38.size : Int))) z32.size) (bif (!(sEq (z32.extract (Int.toNat z35) (Int.toNat (w64 (z35 + (x38.size : Int))))) x38)) then (some (O10_0.x0 false, p30.2)) else (L10_0 n (z32, z33, (w64 (z35 + (x38.size : Int))), (w64 (z34 + 1))) p30.2))))))))))))) else (bif (bif (decide ((v4.size : Int) < v6)) then true else (decide ((v4.size : Int) > (v4.size : Int)))) then (some (O10_0.x0 false, ())) else ((L10_2 1000000000000 (v4, v5, (k : Int), (v4.size : Int), v6) ()).bind fun p58 => match p58.1 with | .x0 z59 => (some (O10_0.x0 z59, p58.2)) | .x1 z60 z61 z62 z63 => (bif (z62 == ((z61.length : Nat) : Int)) then (some (O10_0.x1 , p58.2)) else ((lidx z61 z62).bind fun d64 => ask (d64.cells.length = 4) ((cellAt 0 d64).bind fun x65 => (asStr x65).bind fun x66 => (bif (sEq x66 (⟨#[]⟩ : ByteArray)) then (some (O10_0.x0 false, p58.2)) else ((sidx x66 0).bind fun c67 => (bif (bif ((c67.toNat : Int) == 35) then true else (decide ((w64 (z63 + (x66.size : Int))) > (z60.size : Int)))) then (some (O10_0.x0 false, p58.2)) else (ask (cutOk z63 (w64 (z63 + (x66.size : Int))) z60.size) (bif (!(sEq (z60.extract (Int.toNat z63) (Int.toNat (w64 (z63 + (x66.size : Int))))) x66)) then (some (O10_0.x0 false, p58.2)) else (L10_0 n (z60, z61, (w64 (z63 + (x66.size : Int))), (w64 (z62 + 1))) p58.2)))))))))))) else (some (O10_0.x1 , ()))) := rfl

theorem bk_c {s : ByteArray} {k : Nat} (h : bk s k) : (((s.get! k).toNat : Int) == 35) = false ∧ (bif (bif (((s.get! k).toNat : Int) != 32) then (((s.get! k).toNat : Int) != 9) else false) then (((s.get! k).toNat : Int) != 13) else false) = false := by
  have h' : (s.get! k).toNat = 32 ∨ (s.get! k).toNat = 9 ∨ (s.get! k).toNat = 13 := h
  rcases h' with h | h | h <;> rw [h] <;> exact ⟨rfl, rfl⟩
theorem sidx_get {s : ByteArray} {k : Nat} (h : k < s.size) : sidx s (k : Int) = some (s.get! k) := by rw [sidx_nat, get_bang h]
theorem L10_2_ok {s : ByteArray} (hs : s.size ≤ 1048576) (ws : List D) (v14 : Int) {en : Nat} (hen : en ≤ s.size) : ∀ (d n k : Nat), en - k ≤ d → d < n → k ≤ en → (∀ j, k ≤ j → j < en → bk s j) → L10_2 n (s, ws, v14, (en : Int), (k : Int)) () = some (O10_2.x1 s ws v14 (en : Int), ()) := by
  intro d
  induction d with
  | zero =>
    intro n k hd hn hk hb
    obtain ⟨m, rfl⟩ : ∃ m, n = m + 1 := ⟨n - 1, by omega⟩
    rw [L10_2_step, decide_eq_false (by omega), cond_false]
  | succ d ih =>
    intro n k hd hn hk hb
    obtain ⟨m, rfl⟩ : ∃ m, n = m + 1 := ⟨n - 1, by omega⟩
    by_cases h : k < en
    · have e0 : w64 ((k : Int) + 1) = ((k + 1 : Nat) : Int) := by rw [w64_id (by omega) (by omega)]; omega
      obtain ⟨q1, q2⟩ := bk_c (hb k (Nat.le_refl _) h)
      rw [L10_2_step, decide_eq_true (by omega), cond_true, sidx_get (by omega), Option.bind_some, e0]
      simp only [q1, q2, cond_false]
      exact ih m (k + 1) (by omega) (by omega) (by omega) (fun j a b => hb j (by omega) b)
    · rw [L10_2_step, decide_eq_false (by omega), cond_false]
theorem L10_2_hash {s : ByteArray} (hs : s.size ≤ 1048576) (ws : List D) {j : Nat} (hj : j < s.size) (h35 : bt s j = 35) (hp : j = 0 ∨ bk s (j - 1)) : ∀ (d n k : Nat), j - k ≤ d → d < n → k ≤ j → (∀ i, k ≤ i → i < j → bk s i) → L10_2 n (s, ws, ((ws.length : Nat) : Int), (s.size : Int), (k : Int)) () = some (O10_2.x0 true, ()) := by
  have stop : ∀ m, L10_2 (m + 1) (s, ws, ((ws.length : Nat) : Int), (s.size : Int), (j : Int)) () = some (O10_2.x0 true, ()) := by
    intro m
    rw [L10_2_step, decide_eq_true (by omega), cond_true, sidx_get hj, Option.bind_some, show (((s.get! j).toNat : Int) == 35) = true from beq_iff_eq.2 (by show ((bt s j : Nat) : Int) = 35; omega), cond_true, beq_self_eq_true, cond_true, alive_true]
    by_cases h0 : j = 0
    · rw [show (((j : Int)) == 0) = true from beq_iff_eq.2 (by omega), cond_true]; rfl
    · have hb := hp.resolve_left h0
      have hb' : (s.get! (j - 1)).toNat = 32 ∨ (s.get! (j - 1)).toNat = 9 ∨ (s.get! (j - 1)).toNat = 13 := hb
      have ew : w64 ((j : Int) - 1) = ((j - 1 : Nat) : Int) := by rw [w64_id (by omega) (by omega)]; omega
      rw [show (((j : Int)) == 0) = false from beq_eq_false_iff_ne.2 (by omega), cond_false, ew, sidx_get (by omega)]
      simp only [Option.bind_some]
      rcases hb' with h | h | h <;> rw [h] <;> rfl
  intro d
  induction d with
  | zero =>
    intro n k hd hn hk hb
    obtain ⟨m, rfl⟩ : ∃ m, n = m + 1 := ⟨n - 1, by omega⟩
    obtain rfl : k = j := by omega
    exact stop m
  | succ d ih =>
    intro n k hd hn hk hb
    obtain ⟨m, rfl⟩ : ∃ m, n = m + 1 := ⟨n - 1, by omega⟩
    by_cases h : k < j
    · have e0 : w64 ((k : Int) + 1) = ((k + 1 : Nat) : Int) := by rw [w64_id (by omega) (by omega)]; omega
      obtain ⟨q1, q2⟩ := bk_c (hb k (Nat.le_refl _) h)
      rw [L10_2_step, decide_eq_true (by omega), cond_true, sidx_get (by omega), Option.bind_some, e0]
      simp only [q1, q2, cond_false]
      exact ih m (k + 1) (by omega) (by omega) (by omega) (fun i a b => hb i (by omega) b)
    · obtain rfl : k = j := by omega
      exact stop m
theorem sidx_ext {s : ByteArray} {a b : Nat} (h : a < b) (hb : b ≤ s.size) : sidx (s.extract a b) 0 = some (s.get! a) := by
  have h0 := sidx_nat (s.extract a b) 0
  have h1 := get_bang (s := s) (k := a) (by omega)
  rw [Int.natCast_zero] at h0
  rw [h0, get_list, ← h1, get_list]
  simp only [ByteArray.data_extract, Array.toList_extract, List.extract_eq_take_drop, List.getElem?_take, List.getElem?_drop]
  rw [if_pos (by omega), Nat.add_zero]
theorem cellW0 (s : ByteArray) (w : Wd) : cellAt 0 (encW s w) = some (.val (.string (s.extract w.1 w.2.1))) := rfl
theorem cellW1 (s : ByteArray) (w : Wd) : cellAt 1 (encW s w) = some (.val (.int .i64 (w.1 : Int))) := rfl
theorem lenW (s : ByteArray) (w : Wd) : (encW s w).cells.length = 4 := rfl
theorem L10 {s : ByteArray} (hs : s.size ≤ 1048576) (ws : List Wd) (hw : ws.length ≤ 1048577) {e : Nat} (ht : tailOk s e) (he : e ≤ s.size) : ∀ (d n k a : Nat), ws.length - k ≤ d → d < n → k ≤ ws.length → a ≤ s.size → chain s a (ws.drop k) e →
    L10_0 n (s, ws.map (encW s), (a : Int), (k : Int)) () = some (O10_0.x1, ()) ∨ L10_0 n (s, ws.map (encW s), (a : Int), (k : Int)) () = some (O10_0.x0 true, ()) := by
  have done : ∀ (m a : Nat), a ≤ s.size → chain s a [] e → L10_0 (m + 1) (s, ws.map (encW s), (a : Int), ((ws.length : Nat) : Int)) () = some (O10_0.x1, ()) ∨ L10_0 (m + 1) (s, ws.map (encW s), (a : Int), ((ws.length : Nat) : Int)) () = some (O10_0.x0 true, ()) := by
    intro m a ha hc
    obtain rfl : a = e := hc
    rw [L10_step, List.length_map, decide_eq_true (by omega), cond_true, decide_eq_false (by omega), cond_false, decide_eq_false (show ¬ (s.size : Int) < (a : Int) by omega), decide_eq_false (show ¬ (s.size : Int) > (s.size : Int) by omega), cond_false, cond_false]
    rcases ht with hb | ⟨j, h1, h2, h3, h4, h5⟩
    · have q := L10_2_ok hs (ws.map (encW s)) ((ws.length : Nat) : Int) (Nat.le_refl _) s.size 1000000000000 a (by omega) (by omega) ha hb
      rw [q, Option.bind_some]
      simp only [List.length_map, beq_self_eq_true, cond_true]
      exact .inl trivial
    · have q := L10_2_hash hs (ws.map (encW s)) h2 h4 h5 s.size 1000000000000 a (by omega) (by omega) h1 h3
      rw [List.length_map] at q
      rw [q]
      exact .inr rfl
  intro d
  induction d with
  | zero =>
    intro n k a hd hn hk ha hc
    obtain ⟨m, rfl⟩ : ∃ m, n = m + 1 := ⟨n - 1, by omega⟩
    obtain rfl : k = ws.length := by omega
    rw [List.drop_length] at hc
    exact done m a ha hc
  | succ d ih =>
    intro n k a hd hn hk ha hc
    obtain ⟨m, rfl⟩ : ∃ m, n = m + 1 := ⟨n - 1, by omega⟩
    by_cases h : k < ws.length
    · rw [List.drop_eq_getElem_cons h] at hc
      obtain ⟨⟨h1, h2, h3, h4, h5⟩, hc'⟩ := hc
      have e0 : w64 ((k : Int) + 1) = ((k + 1 : Nat) : Int) := by rw [w64_id (by omega) (by omega)]; omega
      have hsize : (s.extract (ws[k]).1 (ws[k]).2.1).size = (ws[k]).2.1 - (ws[k]).1 := by simp; omega
      have hget : lidx (ws.map (encW s)) (k : Int) = some (encW s ws[k]) := by rw [lidx_map, List.getElem?_eq_getElem h]; rfl
      have ew : w64 (((ws[k]).1 : Int) + (((ws[k]).2.1 - (ws[k]).1 : Nat) : Int)) = ((ws[k]).2.1 : Int) := by rw [w64_id (by omega) (by omega)]; omega
      have q := L10_2_ok hs (ws.map (encW s)) (k : Int) (show (ws[k]).1 ≤ s.size by omega) s.size 1000000000000 a (by omega) (by omega) h1 h4
      rw [L10_step, List.length_map, decide_eq_true (by omega), cond_true, decide_eq_true (by omega), cond_true, hget, Option.bind_some, ask_of (lenW _ _), cellW1, Option.bind_some, asI64, Option.bind_some, decide_eq_false (show ¬ ((ws[k]).1 : Int) < (a : Int) by omega), decide_eq_false (show ¬ ((ws[k]).1 : Int) > (s.size : Int) by omega), cond_false, cond_false, q, Option.bind_some]
      have hne : sEq (s.extract (ws[k]).1 (ws[k]).2.1) (⟨#[]⟩ : ByteArray) = false := by
        rw [Bool.eq_false_iff]; intro hh
        have := congrArg ByteArray.size ((sEq_iff _ _).1 hh)
        rw [hsize] at this
        exact absurd this (by show ¬ ((ws[k]).2.1 - (ws[k]).1 = 0); omega)
      have h0 : sidx (s.extract (ws[k]).1 (ws[k]).2.1) 0 = some (s.get! (ws[k]).1) := sidx_ext h2 h3
      have hb35 : (((s.get! (ws[k]).1).toNat : Int) == 35) = false := by
        rw [beq_eq_false_iff_ne]
        have : (s.get! (ws[k]).1).toNat ≠ 35 := h5
        omega
      dsimp only
      rw [List.length_map, show ((k : Int) == ((ws.length : Nat) : Int)) = false from beq_eq_false_iff_ne.2 (by omega), cond_false, hget, Option.bind_some, ask_of (lenW _ _), cellW0, Option.bind_some, asS, Option.bind_some, hne, cond_false, h0, Option.bind_some, hb35, cond_false, hsize, ew, decide_eq_false (show ¬ ((ws[k]).2.1 : Int) > (s.size : Int) by omega), cond_false, ask_of (show cutOk ((ws[k]).1 : Int) ((ws[k]).2.1 : Int) s.size from ⟨by omega, by omega, by omega⟩), Int.toNat_natCast, Int.toNat_natCast, (sEq_iff _ _).2 rfl, Bool.not_true, cond_false, e0]
      exact ih m (k + 1) (ws[k]).2.1 (by omega) (by omega) (by omega) h3 hc'
    · obtain rfl : k = ws.length := by omega
      rw [List.drop_length] at hc
      exact done m a ha hc
theorem chain_le {s : ByteArray} : ∀ (acc : List Wd) (a e : Nat), a ≤ s.size → chain s a acc e → e ≤ s.size
  | [], a, e, h, hc => by
    obtain rfl : a = e := hc
    exact h
  | w :: t, a, e, h, hc => chain_le t w.2.1 e hc.1.2.2.1 hc.2
theorem plain10 (a0 : ByteArray) (a1 : Int) (h : a0.size ≤ 1048576) (w : (Lit.int .i64 a1).wf = true) : n10 (a0, a1) = some true := by
  obtain ⟨acc, e, h1, h2, h3, h4⟩ := n35_ok h a1
  have q := L10 h acc (by omega) h3 (chain_le acc 0 e (by omega) h2) acc.length 1000000000000 0 0 (by omega) (by omega) (by omega) (by omega) h2
  show ((n35 (a0, a1)).bind fun y3 => ((L10_0 1000000000000 (a0, y3, ((0 : Nat) : Int), ((0 : Nat) : Int)) ()).bind fun p68 => match p68.1 with | .x0 z69 => (some z69) | .x1  => ((n32 ()).bind fun y70 => (some y70)))) = _
  rw [h1, Option.bind_some, alive_true]
  rcases q with q | q <;> rw [q] <;> rfl
end Ev

/- Plain law: TextQuotes, first part: what the program's Quote writes. -/
set_option linter.unusedSimpArgs false
set_option linter.unusedVariables false
namespace Ev
open Go

def hx (n : Nat) : UInt8 := if n < 10 then UInt8.ofNat (48 + n) else UInt8.ofNat (87 + n)
abbrev dgs : ByteArray := ⟨#[48, 49, 50, 51, 52, 53, 54, 55, 56, 57, 97, 98, 99, 100, 101, 102]⟩
theorem hi_fact : ∀ n : Nat, n < 256 → sidx dgs (((n : Int) : Int).fdiv (2 ^ (min (Int.toNat 4) 8))) = some (hx (n / 16)) ∧ sidx dgs (bAnd .u8 (n : Int) 15) = some (hx (n % 16)) := by decide +kernel
theorem or_fact : ∀ n : Nat, n < 64 → bOr .u8 128 (n : Int) = ((128 + n : Nat) : Int) ∧ (n < 32 → bOr .u8 192 (n : Int) = ((192 + n : Nat) : Int)) ∧ (n < 16 → bOr .u8 224 (n : Int) = ((224 + n : Nat) : Int)) ∧ (n < 8 → bOr .u8 240 (n : Int) = ((240 + n : Nat) : Int)) := by decide +kernel
theorem wu8_nat (n : Nat) : wu8 (n : Int) = ((n % 256 : Nat) : Int) := by
  simp only [wu8, IntKind.wrap, IntKind.bits, IntKind.signed]
  simp
theorem wu32_nat {n : Nat} (h : n < 4294967296) : wu32 (n : Int) = (n : Int) := by
  simp only [wu32, IntKind.wrap, IntKind.bits, IntKind.signed]
  simp; omega
theorem size_bcons (n : Int) (b : ByteArray) : (bcons n b).size = b.size + 1 := by
  unfold bcons; rw [ByteArray.size_append]; show 1 + b.size = _; omega
theorem bcons_mk (n : Int) (l : List UInt8) : bcons n (⟨l.toArray⟩ : ByteArray) = (⟨(n.toNat.toUInt8 :: l).toArray⟩ : ByteArray) := by
  unfold bcons; apply ByteArray.ext; simp
theorem empty_mk : ByteArray.empty = (⟨([] : List UInt8).toArray⟩ : ByteArray) := rfl
theorem size_empty : ByteArray.empty.size = 0 := rfl
theorem addB {n : Nat} {a b : ByteArray} (h : n = a.size) (hb : a.size + b.size ≤ 1000000000) : addBOk n a b 1 := ⟨h, by unfold maxBytes; omega⟩
theorem szs (a b : ByteArray) : ([a.size + b.size] : List Nat) = [(a ++ b).size] := by rw [ByteArray.size_append]
theorem push {β : Type} {v w : ByteArray} (h : v.size + w.size ≤ 1000000000) (k : Option β) : ask (addBOk v.size v w 1) (ask (([v.size + w.size] : List Nat) = [(v ++ w).size]) k) = k := by
  rw [ask_of (addB rfl h), ask_of (szs v w)]
/-- What a rune is quoted as. -/
def qR (s : ByteArray) (r : Ru) : List UInt8 := if r.1 = 34 ∨ r.1 = 92 then [92, r.1.toNat.toUInt8] else if r.1 = 10 then [92, 110] else if r.1 < 32 ∨ r.1 = 127 then [92, 120, hx (bt s r.2.1 / 16), hx (bt s r.2.1 % 16)] else ((bl s).take (r.2.1 + r.2.2)).drop r.2.1
theorem W48_0_step (e2 e3 e4 e5 : Int) (v6 v7 : ByteArray) : W48_0 (σ := Unit) () [.agg [.val (.int .i64 e2), .val (.int .i64 e3), .val (.int .i64 e4)], .val (.int .i32 e5)] (.inl (v6, v7), ()) = (bif (bif (e5 == 34) then true else (e5 == 92)) then (ask (addBOk v7.size v7 (bcons 92 ByteArray.empty) 1) (bif (decide ((wu32 e5) ≤ 127)) then (ask (byteOk (wu8 e5)) (ask (addBOk (v7.size + (bcons 92 ByteArray.empty).size) (v7 ++ (bcons 92 ByteArray.empty)) (bcons (wu8 e5) ByteArray.empty) 1) (ask (([((v7 ++ (bcons 92 ByteArray.empty)).size + (bcons (wu8 e5) ByteArray.empty).size)] : List Nat) = [((v7 ++ (bcons 92 ByteArray.empty)) ++ (bcons (wu8 e5) ByteArray.empty)).size]) (some (true, (Sum.inl (v6, ((v7 ++ (bcons 92 ByteArray.empty)) ++ (bcons (wu8 e5) ByteArray.empty))), ())))))) else (bif (decide ((wu32 e5) ≤ 2047)) then (ask (byteOk (bOr .u8 192 (wu8 ((e5 : Int).fdiv (2 ^ (min (Int.toNat 6) 32)))))) (ask (byteOk (bOr .u8 128 (bAnd .u8 (wu8 e5) 63))) (ask (addBOk (v7.size + (bcons 92 ByteArray.empty).size) (v7 ++ (bcons 92 ByteArray.empty)) (bcons (bOr .u8 192 (wu8 ((e5 : Int).fdiv (2 ^ (min (Int.toNat 6) 32))))) (bcons (bOr .u8 128 (bAnd .u8 (wu8 e5) 63)) ByteArray.empty)) 1) (ask (([((v7 ++ (bcons 92 ByteArray.empty)).size + (bcons (bOr .u8 192 (wu8 ((e5 : Int).fdiv (2 ^ (min (Int.toNat 6) 32))))) (bcons (bOr .u8 128 (bAnd .u8 (wu8 e5) 63)) ByteArray.empty)).size)] : List Nat) = [((v7 ++ (bcons 92 ByteArray.empty)) ++ (bcons (bOr .u8 192 (wu8 ((e5 : Int).fdiv (2 ^ (min (Int.toNat 6) 32))))) (bcons (bOr .u8 128 (bAnd .u8 (wu8 e5) 63)) ByteArray.empty))).size]) (some (true, (Sum.inl (v6, ((v7 ++ (bcons 92 ByteArray.empty)) ++ (bcons (bOr .u8 192 (wu8 ((e5 : Int).fdiv (2 ^ (min (Int.toNat 6) 32))))) (bcons (bOr .u8 128 (bAnd .u8 (wu8 e5) 63)) ByteArray.empty)))), ()))))))) else (bif (decide ((wu32 e5) < 55296)) then (ask (byteOk (bOr .u8 224 (wu8 ((e5 : Int).fdiv (2 ^ (min (Int.toNat 12) 32)))))) (ask (byteOk (bOr .u8 128 (bAnd .u8 (wu8 ((e5 : Int).fdiv (2 ^ (min (Int.toNat 6) 32)))) 63))) (ask (byteOk (bOr .u8 128 (bAnd .u8 (wu8 e5) 63))) (ask (addBOk (v7.size + (bcons 92 ByteArray.empty).size) (v7 ++ (bcons 92 ByteArray.empty)) (bcons (bOr .u8 224 (wu8 ((e5 : Int).fdiv (2 ^ (min (Int.toNat 12) 32))))) (bcons (bOr .u8 128 (bAnd .u8 (wu8 ((e5 : Int).fdiv (2 ^ (min (Int.toNat 6) 32)))) 63)) (bcons (bOr .u8 128 (bAnd .u8 (wu8 e5) 63)) ByteArray.empty))) 1) (ask (([((v7 ++ (bcons 92 ByteArray.empty)).size + (bcons (bOr .u8 224 (wu8 ((e5 : Int).fdiv (2 ^ (min (Int.toNat 12) 32))))) (bcons (bOr .u8 128 (bAnd .u8 (wu8 ((e5 : Int).fdiv (2 ^ (min (Int.toNat 6) 32)))) 63)) (bcons (bOr .u8 128 (bAnd .u8 (wu8 e5) 63)) ByteArray.empty))).size)] : List Nat) = [((v7 ++ (bcons 92 ByteArray.empty)) ++ (bcons (bOr .u8 224 (wu8 ((e5 : Int).fdiv (2 ^ (min (Int.toNat 12) 32))))) (bcons (bOr .u8 128 (bAnd .u8 (wu8 ((e5 : Int).fdiv (2 ^ (min (Int.toNat 6) 32)))) 63)) (bcons (bOr .u8 128 (bAnd .u8 (wu8 e5) 63)) ByteArray.empty)))).size]) (some (true, (Sum.inl (v6, ((v7 ++ (bcons 92 ByteArray.empty)) ++ (bcons (bOr .u8 224 (wu8 ((e5 : Int).fdiv (2 ^ (min (Int.toNat 12) 32))))) (bcons (bOr .u8 128 (bAnd .u8 (wu8 ((e5 : Int).fdiv (2 ^ (min (Int.toNat 6) 32)))) 63)) (bcons (bOr .u8 128 (bAnd .u8 (wu8 e5) 63)) ByteArray.empty))))), ())))))))) else (bif (decide (57343 < (wu32 e5))) then (bif (decide ((wu32 e5) ≤ 65535)) then (ask (byteOk (bOr .u8 224 (wu8 ((e5 : Int).fdiv (2 ^ (min (Int.toNat 12) 32)))))) (ask (byteOk (bOr .u8 128 (bAnd .u8 (wu8 ((e5 : Int).fdiv (2 ^ (min (Int.toNat 6) 32)))) 63))) (ask (byteOk (bOr .u8 128 (bAnd .u8 (wu8 e5) 63))) (ask (addBOk (v7.size + (bcons 92 ByteArray.empty).size) (v7 ++ (bcons 92 ByteArray.empty)) (bcons (bOr .u8 224 (wu8 ((e5 : Int).fdiv (2 ^ (min (Int.toNat 12) 32))))) (bcons (bOr .u8 128 (bAnd .u8 (wu8 ((e5 : Int).fdiv (2 ^ (min (Int.toNat 6) 32)))) 63)) (bcons (bOr .u8 128 (bAnd .u8 (wu8 e5) 63)) ByteArray.empty))) 1) (ask (([((v7 ++ (bcons 92 ByteArray.empty)).size + (bcons (bOr .u8 224 (wu8 ((e5 : Int).fdiv (2 ^ (min (Int.toNat 12) 32))))) (bcons (bOr .u8 128 (bAnd .u8 (wu8 ((e5 : Int).fdiv (2 ^ (min (Int.toNat 6) 32)))) 63)) (bcons (bOr .u8 128 (bAnd .u8 (wu8 e5) 63)) ByteArray.empty))).size)] : List Nat) = [((v7 ++ (bcons 92 ByteArray.empty)) ++ (bcons (bOr .u8 224 (wu8 ((e5 : Int).fdiv (2 ^ (min (Int.toNat 12) 32))))) (bcons (bOr .u8 128 (bAnd .u8 (wu8 ((e5 : Int).fdiv (2 ^ (min (Int.toNat 6) 32)))) 63)) (bcons (bOr .u8 128 (bAnd .u8 (wu8 e5) 63)) ByteArray.empty)))).size]) (some (true, (Sum.inl (v6, ((v7 ++ (bcons 92 ByteArray.empty)) ++ (bcons (bOr .u8 224 (wu8 ((e5 : Int).fdiv (2 ^ (min (Int.toNat 12) 32))))) (bcons (bOr .u8 128 (bAnd .u8 (wu8 ((e5 : Int).fdiv (2 ^ (min (Int.toNat 6) 32)))) 63)) (bcons (bOr .u8 128 (bAnd .u8 (wu8 e5) 63)) ByteArray.empty))))), ())))))))) else (bif (decide ((wu32 e5) > 65535)) then (bif (decide ((wu32 e5) ≤ 1114111)) then (ask (byteOk (bOr .u8 240 (wu8 ((e5 : Int).fdiv (2 ^ (min (Int.toNat 18) 32)))))) (ask (byteOk (bOr .u8 128 (bAnd .u8 (wu8 ((e5 : Int).fdiv (2 ^ (min (Int.toNat 12) 32)))) 63))) (ask (byteOk (bOr .u8 128 (bAnd .u8 (wu8 ((e5 : Int).fdiv (2 ^ (min (Int.toNat 6) 32)))) 63))) (ask (byteOk (bOr .u8 128 (bAnd .u8 (wu8 e5) 63))) (ask (addBOk (v7.size + (bcons 92 ByteArray.empty).size) (v7 ++ (bcons 92 ByteArray.empty)) (bcons (bOr .u8 240 (wu8 ((e5 : Int).fdiv (2 ^ (min (Int.toNat 18) 32))))) (bcons (bOr .u8 128 (bAnd .u8 (wu8 ((e5 : Int).fdiv (2 ^ (min (Int.toNat 12) 32)))) 63)) (bcons (bOr .u8 128 (bAnd .u8 (wu8 ((e5 : Int).fdiv (2 ^ (min (Int.toNat 6) 32)))) 63)) (bcons (bOr .u8 128 (bAnd .u8 (wu8 e5) 63)) ByteArray.empty)))) 1) (ask (([((v7 ++ (bcons 92 ByteArray.empty)).size + (bcons (bOr .u8 240 (wu8 ((e5 : Int).fdiv (2 ^ (min (Int.toNat 18) 32))))) (bcons (bOr .u8 128 (bAnd .u8 (wu8 ((e5 : Int).fdiv (2 ^ (min (Int.toNat 12) 32)))) 63)) (bcons (bOr .u8 128 (bAnd .u8 (wu8 ((e5 : Int).fdiv (2 ^ (min (Int.toNat 6) 32)))) 63)) (bcons (bOr .u8 128 (bAnd .u8 (wu8 e5) 63)) ByteArray.empty)))).size)] : List Nat) = [((v7 ++ (bcons 92 ByteArray.empty)) ++ (bcons (bOr .u8 240 (wu8 ((e5 : Int).fdiv (2 ^ (min (Int.toNat 18) 32))))) (bcons (bOr .u8 128 (bAnd .u8 (wu8 ((e5 : Int).fdiv (2 ^ (min (Int.toNat 12) 32)))) 63)) (bcons (bOr .u8 128 (bAnd .u8 (wu8 ((e5 : Int).fdiv (2 ^ (min (Int.toNat 6) 32)))) 63)) (bcons (bOr .u8 128 (bAnd .u8 (wu8 e5) 63)) ByteArray.empty))))).size]) (some (true, (Sum.inl (v6, ((v7 ++ (bcons 92 ByteArray.empty)) ++ (bcons (bOr .u8 240 (wu8 ((e5 : Int).fdiv (2 ^ (min (Int.toNat 18) 32))))) (bcons (bOr .u8 128 (bAnd .u8 (wu8 ((e5 : Int).fdiv (2 ^ (min (Int.toNat 12) 32)))) 63)) (bcons (bOr .u8 128 (bAnd .u8 (wu8 ((e5 : Int).fdiv (2 ^ (min (Int.toNat 6) 32)))) 63)) (bcons (bOr .u8 128 (bAnd .u8 (wu8 e5) 63)) ByteArray.empty)))))), ()))))))))) else (ask (addBOk (v7.size + (bcons 92 ByteArray.empty).size) (v7 ++ (bcons 92 ByteArray.empty)) (bcons 239 (bcons 191 (bcons 189 ByteArray.empty))) 1) (ask (([((v7 ++ (bcons 92 ByteArray.empty)).size + (bcons 239 (bcons 191 (bcons 189 ByteArray.empty))).size)] : List Nat) = [((v7 ++ (bcons 92 ByteArray.empty)) ++ (bcons 239 (bcons 191 (bcons 189 ByteArray.empty)))).size]) (some (true, (Sum.inl (v6, ((v7 ++ (bcons 92 ByteArray.empty)) ++ (bcons 239 (bcons 191 (bcons 189 ByteArray.empty))))), ())))))) else (ask (addBOk (v7.size + (bcons 92 ByteArray.empty).size) (v7 ++ (bcons 92 ByteArray.empty)) (bcons 239 (bcons 191 (bcons 189 ByteArray.empty))) 1) (ask (([((v7 ++ (bcons 92 ByteArray.empty)).size + (bcons 239 (bcons 191 (bcons 189 ByteArray.empty))).size)] : List Nat) = [((v7 ++ (bcons 92 ByteArray.empty)) ++ (bcons 239 (bcons 191 (bcons 189 ByteArray.empty)))).size]) (some (true, (Sum.inl (v6, ((v7 ++ (bcons 92 ByteArray.empty)) ++ (bcons 239 (bcons 191 (bcons 189 ByteArray.empty))))), ()))))))) else (bif (decide ((wu32 e5) > 65535)) then (bif (decide ((wu32 e5) ≤ 1114111)) then (ask (byteOk (bOr .u8 240 (wu8 ((e5 : Int).fdiv (2 ^ (min (Int.toNat 18) 32)))))) (ask (byteOk (bOr .u8 128 (bAnd .u8 (wu8 ((e5 : Int).fdiv (2 ^ (min (Int.toNat 12) 32)))) 63))) (ask (byteOk (bOr .u8 128 (bAnd .u8 (wu8 ((e5 : Int).fdiv (2 ^ (min (Int.toNat 6) 32)))) 63))) (ask (byteOk (bOr .u8 128 (bAnd .u8 (wu8 e5) 63))) (ask (addBOk (v7.size + (bcons 92 ByteArray.empty).size) (v7 ++ (bcons 92 ByteArray.empty)) (bcons (bOr .u8 240 (wu8 ((e5 : Int).fdiv (2 ^ (min (Int.toNat 18) 32))))) (bcons (bOr .u8 128 (bAnd .u8 (wu8 ((e5 : Int).fdiv (2 ^ (min (Int.toNat 12) 32)))) 63)) (bcons (bOr .u8 128 (bAnd .u8 (wu8 ((e5 : Int).fdiv (2 ^ (min (Int.toNat 6) 32)))) 63)) (bcons (bOr .u8 128 (bAnd .u8 (wu8 e5) 63)) ByteArray.empty)))) 1) (ask (([((v7 ++ (bcons 92 ByteArray.empty)).size + (bcons (bOr .u8 240 (wu8 ((e5 : Int).fdiv (2 ^ (min (Int.toNat 18) 32))))) (bcons (bOr .u8 128 (bAnd .u8 (wu8 ((e5 : Int).fdiv (2 ^ (min (Int.toNat 12) 32)))) 63)) (bcons (bOr .u8 128 (bAnd .u8 (wu8 ((e5 : Int).fdiv (2 ^ (min (Int.toNat 6) 32)))) 63)) (bcons (bOr .u8 128 (bAnd .u8 (wu8 e5) 63)) ByteArray.empty)))).size)] : List Nat) = [((v7 ++ (bcons 92 ByteArray.empty)) ++ (bcons (bOr .u8 240 (wu8 ((e5 : Int).fdiv (2 ^ (min (Int.toNat 18) 32))))) (bcons (bOr .u8 128 (bAnd .u8 (wu8 ((e5 : Int).fdiv (2 ^ (min (Int.toNat 12) 32)))) 63)) (bcons (bOr .u8 128 (bAnd .u8 (wu8 ((e5 : Int).fdiv (2 ^ (min (Int.toNat 6) 32)))) 63)) (bcons (bOr .u8 128 (bAnd .u8 (wu8 e5) 63)) ByteArray.empty))))).size]) (some (true, (Sum.inl (v6, ((v7 ++ (bcons 92 ByteArray.empty)) ++ (bcons (bOr .u8 240 (wu8 ((e5 : Int).fdiv (2 ^ (min (Int.toNat 18) 32))))) (bcons (bOr .u8 128 (bAnd .u8 (wu8 ((e5 : Int).fdiv (2 ^ (min (Int.toNat 12) 32)))) 63)) (bcons (bOr .u8 128 (bAnd .u8 (wu8 ((e5 : Int).fdiv (2 ^ (min (Int.toNat 6) 32)))) 63)) (bcons (bOr .u8 128 (bAnd .u8 (wu8 e5) 63)) ByteArray.empty)))))), ()))))))))) else (ask (addBOk (v7.size + (bcons 92 ByteArray.empty).size) (v7 ++ (bcons 92 ByteArray.empty)) (bcons 239 (bcons 191 (bcons 189 ByteArray.empty))) 1) (ask (([((v7 ++ (bcons 92 ByteArray.empty)).size + (bcons 239 (bcons 191 (bcons 189 ByteArray.empty))).size)] : List Nat) = [((v7 ++ (bcons 92 ByteArray.empty)) ++ (bcons 239 (bcons 191 (bcons 189 ByteArray.empty)))).size]) (some (true, (Sum.inl (v6, ((v7 ++ (bcons 92 ByteArray.empty)) ++ (bcons 239 (bcons 191 (bcons 189 ByteArray.empty))))), ())))))) else (ask (addBOk (v7.size + (bcons 92 ByteArray.empty).size) (v7 ++ (bcons 92 ByteArray.empty)) (bcons 239 (bcons 191 (bcons 189 ByteArray.empty))) 1) (ask (([((v7 ++ (bcons 92 ByteArray.empty)).size + (bcons 239 (bcons 191 (bcons 189 ByteArray.empty))).size)] : List Nat) = [((v7 ++ (bcons 92 ByteArray.empty)) ++ (bcons 239 (bcons 191 (bcons 189 ByteArray.empty)))).size]) (some (true, (Sum.inl (v6, ((v7 ++ (bcons 92 ByteArray.empty)) ++ (bcons 239 (bcons 191 (bcons 189 ByteArray.empty))))), ()))))))))))) else (bif (e5 == 10) then (ask (addBOk v7.size v7 (⟨#[92, 110]⟩ : ByteArray) 1) (ask (([(v7.size + (⟨#[92, 110]⟩ : ByteArray).size)] : List Nat) = [(v7 ++ (⟨#[92, 110]⟩ : ByteArray)).size]) (some (true, (Sum.inl (v6, (v7 ++ (⟨#[92, 110]⟩ : ByteArray))), ()))))) else (bif (bif (decide (e5 < 32)) then true else (e5 == 127)) then ((sidx v6 e2).bind fun c8 => (ask (addBOk v7.size v7 (⟨#[92, 120]⟩ : ByteArray) 1) ((sidx (⟨#[48, 49, 50, 51, 52, 53, 54, 55, 56, 57, 97, 98, 99, 100, 101, 102]⟩ : ByteArray) (((c8.toNat : Int) : Int).fdiv (2 ^ (min (Int.toNat 4) 8)))).bind fun c9 => (ask (byteOk (c9.toNat : Int)) (ask (addBOk (v7.size + (⟨#[92, 120]⟩ : ByteArray).size) (v7 ++ (⟨#[92, 120]⟩ : ByteArray)) (bcons (c9.toNat : Int) ByteArray.empty) 1) ((sidx (⟨#[48, 49, 50, 51, 52, 53, 54, 55, 56, 57, 97, 98, 99, 100, 101, 102]⟩ : ByteArray) (bAnd .u8 (c8.toNat : Int) 15)).bind fun c10 => (ask (byteOk (c10.toNat : Int)) (ask (addBOk ((v7 ++ (⟨#[92, 120]⟩ : ByteArray)).size + (bcons (c9.toNat : Int) ByteArray.empty).size) ((v7 ++ (⟨#[92, 120]⟩ : ByteArray)) ++ (bcons (c9.toNat : Int) ByteArray.empty)) (bcons (c10.toNat : Int) ByteArray.empty) 1) (ask (([(((v7 ++ (⟨#[92, 120]⟩ : ByteArray)) ++ (bcons (c9.toNat : Int) ByteArray.empty)).size + (bcons (c10.toNat : Int) ByteArray.empty).size)] : List Nat) = [(((v7 ++ (⟨#[92, 120]⟩ : ByteArray)) ++ (bcons (c9.toNat : Int) ByteArray.empty)) ++ (bcons (c10.toNat : Int) ByteArray.empty)).size]) (some (true, (Sum.inl (v6, (((v7 ++ (⟨#[92, 120]⟩ : ByteArray)) ++ (bcons (c9.toNat : Int) ByteArray.empty)) ++ (bcons (c10.toNat : Int) ByteArray.empty))), ())))))))))))) else (bif (decide ((wu32 e5) ≤ 127)) then (ask (byteOk (wu8 e5)) (ask (addBOk v7.size v7 (bcons (wu8 e5) ByteArray.empty) 1) (ask (([(v7.size + (bcons (wu8 e5) ByteArray.empty).size)] : List Nat) = [(v7 ++ (bcons (wu8 e5) ByteArray.empty)).size]) (some (true, (Sum.inl (v6, (v7 ++ (bcons (wu8 e5) ByteArray.empty))), ())))))) else (bif (decide ((wu32 e5) ≤ 2047)) then (ask (byteOk (bOr .u8 192 (wu8 ((e5 : Int).fdiv (2 ^ (min (Int.toNat 6) 32)))))) (ask (byteOk (bOr .u8 128 (bAnd .u8 (wu8 e5) 63))) (ask (addBOk v7.size v7 (bcons (bOr .u8 192 (wu8 ((e5 : Int).fdiv (2 ^ (min (Int.toNat 6) 32))))) (bcons (bOr .u8 128 (bAnd .u8 (wu8 e5) 63)) ByteArray.empty)) 1) (ask (([(v7.size + (bcons (bOr .u8 192 (wu8 ((e5 : Int).fdiv (2 ^ (min (Int.toNat 6) 32))))) (bcons (bOr .u8 128 (bAnd .u8 (wu8 e5) 63)) ByteArray.empty)).size)] : List Nat) = [(v7 ++ (bcons (bOr .u8 192 (wu8 ((e5 : Int).fdiv (2 ^ (min (Int.toNat 6) 32))))) (bcons (bOr .u8 128 (bAnd .u8 (wu8 e5) 63)) ByteArray.empty))).size]) (some (true, (Sum.inl (v6, (v7 ++ (bcons (bOr .u8 192 (wu8 ((e5 : Int).fdiv (2 ^ (min (Int.toNat 6) 32))))) (bcons (bOr .u8 128 (bAnd .u8 (wu8 e5) 63)) ByteArray.empty)))), ()))))))) else (bif (decide ((wu32 e5) < 55296)) then (ask (byteOk (bOr .u8 224 (wu8 ((e5 : Int).fdiv (2 ^ (min (Int.toNat 12) 32)))))) (ask (byteOk (bOr .u8 128 (bAnd .u8 (wu8 ((e5 : Int).fdiv (2 ^ (min (Int.toNat 6) 32)))) 63))) (ask (byteOk (bOr .u8 128 (bAnd .u8 (wu8 e5) 63))) (ask (addBOk v7.size v7 (bcons (bOr .u8 224 (wu8 ((e5 : Int).fdiv (2 ^ (min (Int.toNat 12) 32))))) (bcons (bOr .u8 128 (bAnd .u8 (wu8 ((e5 : Int).fdiv (2 ^ (min (Int.toNat 6) 32)))) 63)) (bcons (bOr .u8 128 (bAnd .u8 (wu8 e5) 63)) ByteArray.empty))) 1) (ask (([(v7.size + (bcons (bOr .u8 224 (wu8 ((e5 : Int).fdiv (2 ^ (min (Int.toNat 12) 32))))) (bcons (bOr .u8 128 (bAnd .u8 (wu8 ((e5 : Int).fdiv (2 ^ (min (Int.toNat 6) 32)))) 63)) (bcons (bOr .u8 128 (bAnd .u8 (wu8 e5) 63)) ByteArray.empty))).size)] : List Nat) = [(v7 ++ (bcons (bOr .u8 224 (wu8 ((e5 : Int).fdiv (2 ^ (min (Int.toNat 12) 32))))) (bcons (bOr .u8 128 (bAnd .u8 (wu8 ((e5 : Int).fdiv (2 ^ (min (Int.toNat 6) 32)))) 63)) (bcons (bOr .u8 128 (bAnd .u8 (wu8 e5) 63)) ByteArray.empty)))).size]) (some (true, (Sum.inl (v6, (v7 ++ (bcons (bOr .u8 224 (wu8 ((e5 : Int).fdiv (2 ^ (min (Int.toNat 12) 32))))) (bcons (bOr .u8 128 (bAnd .u8 (wu8 ((e5 : Int).fdiv (2 ^ (min (Int.toNat 6) 32)))) 63)) (bcons (bOr .u8 128 (bAnd .u8 (wu8 e5) 63)) ByteArray.empty))))), ())))))))) else (bif (decide (57343 < (wu32 e5))) then (bif (decide ((wu32 e5) ≤ 65535)) then (ask (byteOk (bOr .u8 224 (wu8 ((e5 : Int).fdiv (2 ^ (min (Int.toNat 12) 32)))))) (ask (byteOk (bOr .u8 128 (bAnd .u8 (wu8 ((e5 : Int).fdiv (2 ^ (min (Int.toNat 6) 32)))) 63))) (ask (byteOk (bOr .u8 128 (bAnd .u8 (wu8 e5) 63))) (ask (addBOk v7.size v7 (bcons (bOr .u8 224 (wu8 ((e5 : Int).fdiv (2 ^ (min (Int.toNat 12) 32))))) (bcons (bOr .u8 128 (bAnd .u8 (wu8 ((e5 : Int).fdiv (2 ^ (min (Int.toNat 6) 32)))) 63)) (bcons (bOr .u8 128 (bAnd .u8 (wu8 e5) 63)) ByteArray.empty))) 1) (ask (([(v7.size + (bcons (bOr .u8 224 (wu8 ((e5 : Int).fdiv (2 ^ (min (Int.toNat 12) 32))))) (bcons (bOr .u8 128 (bAnd .u8 (wu8 ((e5 : Int).fdiv (2 ^ (min (Int.toNat 6) 32)))) 63)) (bcons (bOr .u8 128 (bAnd .u8 (wu8 e5) 63)) ByteArray.empty))).size)] : List Nat) = [(v7 ++ (bcons (bOr .u8 224 (wu8 ((e5 : Int).fdiv (2 ^ (min (Int.toNat 12) 32))))) (bcons (bOr .u8 128 (bAnd .u8 (wu8 ((e5 : Int).fdiv (2 ^ (min (Int.toNat 6) 32)))) 63)) (bcons (bOr .u8 128 (bAnd .u8 (wu8 e5) 63)) ByteArray.empty)))).size]) (some (true, (Sum.inl (v6, (v7 ++ (bcons (bOr .u8 224 (wu8 ((e5 : Int).fdiv (2 ^ (min (Int.toNat 12) 32))))) (bcons (bOr .u8 128 (bAnd .u8 (wu8 ((e5 : Int).fdiv (2 ^ (min (Int.toNat 6) 32)))) 63)) (bcons (bOr .u8 128 (bAnd .u8 (wu8 e5) 63)) ByteArray.empty))))), ())))))))) else (bif (decide ((wu32 e5) > 65535)) then (bif (decide ((wu32 e5) ≤ 1114111)) then (ask (byteOk (bOr .u8 240 (wu8 ((e5 : Int).fdiv (2 ^ (min (Int.toNat 18) 32)))))) (ask (byteOk (bOr .u8 128 (bAnd .u8 (wu8 ((e5 : Int).fdiv (2 ^ (min (Int.toNat 12) 32)))) 63))) (ask (byteOk (bOr .u8 128 (bAnd .u8 (wu8 ((e5 : Int).fdiv (2 ^ (min (Int.toNat 6) 32)))) 63))) (ask (byteOk (bOr .u8 128 (bAnd .u8 (wu8 e5) 63))) (ask (addBOk v7.size v7 (bcons (bOr .u8 240 (wu8 ((e5 : Int).fdiv (2 ^ (min (Int.toNat 18) 32))))) (bcons (bOr .u8 128 (bAnd .u8 (wu8 ((e5 : Int).fdiv (2 ^ (min (Int.toNat 12) 32)))) 63)) (bcons (bOr .u8 128 (bAnd .u8 (wu8 ((e5 : Int).fdiv (2 ^ (min (Int.toNat 6) 32)))) 63)) (bcons (bOr .u8 128 (bAnd .u8 (wu8 e5) 63)) ByteArray.empty)))) 1) (ask (([(v7.size + (bcons (bOr .u8 240 (wu8 ((e5 : Int).fdiv (2 ^ (min (Int.toNat 18) 32))))) (bcons (bOr .u8 128 (bAnd .u8 (wu8 ((e5 : Int).fdiv (2 ^ (min (Int.toNat 12) 32)))) 63)) (bcons (bOr .u8 128 (bAnd .u8 (wu8 ((e5 : Int).fdiv (2 ^ (min (Int.toNat 6) 32)))) 63)) (bcons (bOr .u8 128 (bAnd .u8 (wu8 e5) 63)) ByteArray.empty)))).size)] : List Nat) = [(v7 ++ (bcons (bOr .u8 240 (wu8 ((e5 : Int).fdiv (2 ^ (min (Int.toNat 18) 32))))) (bcons (bOr .u8 128 (bAnd .u8 (wu8 ((e5 : Int).fdiv (2 ^ (min (Int.toNat 12) 32)))) 63)) (bcons (bOr .u8 128 (bAnd .u8 (wu8 ((e5 : Int).fdiv (2 ^ (min (Int.toNat 6) 32)))) 63)) (bcons (bOr .u8 128 (bAnd .u8 (wu8 e5) 63)) ByteArray.empty))))).size]) (some (true, (Sum.inl (v6, (v7 ++ (bcons (bOr .u8 240 (wu8 ((e5 : Int).fdiv (2 ^ (min (Int.toNat 18) 32))))) (bcons (bOr .u8 128 (bAnd .u8 (wu8 ((e5 : Int).fdiv (2 ^ (min (Int.toNat 12) 32)))) 63)) (bcons (bOr .u8 128 (bAnd .u8 (wu8 ((e5 : Int).fdiv (2 ^ (min (Int.toNat 6) 32)))) 63)) (bcons (bOr .u8 128 (bAnd .u8 (wu8 e5) 63)) ByteArray.empty)))))), ()))))))))) else (ask (addBOk v7.size v7 (bcons 239 (bcons 191 (bcons 189 ByteArray.empty))) 1) (ask (([(v7.size + (bcons 239 (bcons 191 (bcons 189 ByteArray.empty))).size)] : List Nat) = [(v7 ++ (bcons 239 (bcons 191 (bcons 189 ByteArray.empty)))).size]) (some (true, (Sum.inl (v6, (v7 ++ (bcons 239 (bcons 191 (bcons 189 ByteArray.empty))))), ())))))) else (ask (addBOk v7.size v7 (bcons 239 (bcons 191 (bcons 189 ByteArray.empty))) 1) (ask (([(v7.size + (bcons 239 (bcons 191 (bcons 189 ByteArray.empty))).size)] : List Nat) = [(v7 ++ (bcons 239 (bcons 191 (bcons 189 ByteArray.empty)))).size]) (some (true, (Sum.inl (v6, (v7 ++ (bcons 239 (bcons 191 (bcons 189 ByteArray.empty))))), ()))))))) else (bif (decide ((wu32 e5) > 65535)) then (bif (decide ((wu32 e5) ≤ 1114111)) then (ask (byteOk (bOr .u8 240 (wu8 ((e5 : Int).fdiv (2 ^ (min (Int.toNat 18) 32)))))) (ask (byteOk (bOr .u8 128 (bAnd .u8 (wu8 ((e5 : Int).fdiv (2 ^ (min (Int.toNat 12) 32)))) 63))) (ask (byteOk (bOr .u8 128 (bAnd .u8 (wu8 ((e5 : Int).fdiv (2 ^ (min (Int.toNat 6) 32)))) 63))) (ask (byteOk (bOr .u8 128 (bAnd .u8 (wu8 e5) 63))) (ask (addBOk v7.size v7 (bcons (bOr .u8 240 (wu8 ((e5 : Int).fdiv (2 ^ (min (Int.toNat 18) 32))))) (bcons (bOr .u8 128 (bAnd .u8 (wu8 ((e5 : Int).fdiv (2 ^ (min (Int.toNat 12) 32)))) 63)) (bcons (bOr .u8 128 (bAnd .u8 (wu8 ((e5 : Int).fdiv (2 ^ (min (Int.toNat 6) 32)))) 63)) (bcons (bOr .u8 128 (bAnd .u8 (wu8 e5) 63)) ByteArray.empty)))) 1) (ask (([(v7.size + (bcons (bOr .u8 240 (wu8 ((e5 : Int).fdiv (2 ^ (min (Int.toNat 18) 32))))) (bcons (bOr .u8 128 (bAnd .u8 (wu8 ((e5 : Int).fdiv (2 ^ (min (Int.toNat 12) 32)))) 63)) (bcons (bOr .u8 128 (bAnd .u8 (wu8 ((e5 : Int).fdiv (2 ^ (min (Int.toNat 6) 32)))) 63)) (bcons (bOr .u8 128 (bAnd .u8 (wu8 e5) 63)) ByteArray.empty)))).size)] : List Nat) = [(v7 ++ (bcons (bOr .u8 240 (wu8 ((e5 : Int).fdiv (2 ^ (min (Int.toNat 18) 32))))) (bcons (bOr .u8 128 (bAnd .u8 (wu8 ((e5 : Int).fdiv (2 ^ (min (Int.toNat 12) 32)))) 63)) (bcons (bOr .u8 128 (bAnd .u8 (wu8 ((e5 : Int).fdiv (2 ^ (min (Int.toNat 6) 32)))) 63)) (bcons (bOr .u8 128 (bAnd .u8 (wu8 e5) 63)) ByteArray.empty))))).size]) (some (true, (Sum.inl (v6, (v7 ++ (bcons (bOr .u8 240 (wu8 ((e5 : Int).fdiv (2 ^ (min (Int.toNat 18) 32))))) (bcons (bOr .u8 128 (bAnd .u8 (wu8 ((e5 : Int).fdiv (2 ^ (min (Int.toNat 12) 32)))) 63)) (bcons (bOr .u8 128 (bAnd .u8 (wu8 ((e5 : Int).fdiv (2 ^ (min (Int.toNat 6) 32)))) 63)) (bcons (bOr .u8 128 (bAnd .u8 (wu8 e5) 63)) ByteArray.empty)))))), ()))))))))) else (ask (addBOk v7.size v7 (bcons 239 (bcons 191 (bcons 189 ByteArray.empty))) 1) (ask (([(v7.size + (bcons 239 (bcons 191 (bcons 189 ByteArray.empty))).size)] : List Nat) = [(v7 ++ (bcons 239 (bcons 191 (bcons 189 ByteArray.empty)))).size]) (some (true, (Sum.inl (v6, (v7 ++ (bcons 239 (bcons 191 (bcons 189 ByteArray.empty))))), ())))))) else (ask (addBOk v7.size v7 (bcons 239 (bcons 191 (bcons 189 ByteArray.empty))) 1) (ask (([(v7.size + (bcons 239 (bcons 191 (bcons 189 ByteArray.empty))).size)] : List Nat) = [(v7 ++ (bcons 239 (bcons 191 (bcons 189 ByteArray.empty)))).size]) (some (true, (Sum.inl (v6, (v7 ++ (bcons 239 (bcons 191 (bcons 189 ByteArray.empty))))), ()))))))))))))) := rfl
theorem yes34 {r : Int} (h : r = 34 ∨ r = 92) : (bif (r == 34) then true else (r == 92)) = true := by rcases h with rfl | rfl <;> rfl
theorem no34 {r : Int} (h : ¬ (r = 34 ∨ r = 92)) : (bif (r == 34) then true else (r == 92)) = false := by
  rw [beq_eq_false_iff_ne.2 (fun e => h (.inl e)), beq_eq_false_iff_ne.2 (fun e => h (.inr e))]; rfl
theorem yes32 {r : Int} (h : r < 32 ∨ r = 127) : (bif (decide (r < 32)) then true else (r == 127)) = true := by
  rcases h with h | rfl
  · rw [decide_eq_true h]; rfl
  · rfl
theorem no32 {r : Int} (h : ¬ (r < 32 ∨ r = 127)) : (bif (decide (r < 32)) then true else (r == 127)) = false := by
  rw [decide_eq_false (fun e => h (.inl e)), beq_eq_false_iff_ne.2 (fun e => h (.inr e))]; rfl
theorem fd6 (c : Nat) : ((c : Int)).fdiv ((2 : Int) ^ (min (Int.toNat 6) 32)) = ((c / 64 : Nat) : Int) := by
  show ((c : Int)).fdiv 64 = _
  rw [Int.fdiv_eq_ediv_of_nonneg _ (by omega)]; omega
theorem fd12 (c : Nat) : ((c : Int)).fdiv ((2 : Int) ^ (min (Int.toNat 12) 32)) = ((c / 4096 : Nat) : Int) := by
  show ((c : Int)).fdiv 4096 = _
  rw [Int.fdiv_eq_ediv_of_nonneg _ (by omega)]; omega
theorem fd18 (c : Nat) : ((c : Int)).fdiv ((2 : Int) ^ (min (Int.toNat 18) 32)) = ((c / 262144 : Nat) : Int) := by
  show ((c : Int)).fdiv 262144 = _
  rw [Int.fdiv_eq_ediv_of_nonneg _ (by omega)]; omega
theorem and6 (n : Nat) : bAnd .u8 (wu8 (n : Int)) 63 = ((n % 64 : Nat) : Int) := by
  rw [wu8_nat, (and_facts (n % 256) (by omega)).2.2.2]; omega
theorem lo6 (n : Nat) : bOr .u8 128 (bAnd .u8 (wu8 (n : Int)) 63) = ((128 + n % 64 : Nat) : Int) := by
  rw [and6, (or_fact (n % 64) (by omega)).1]
theorem hi2 {c : Nat} (h : c / 64 < 32) : bOr .u8 192 (wu8 ((c / 64 : Nat) : Int)) = ((192 + c / 64 : Nat) : Int) := by
  rw [wu8_nat, Nat.mod_eq_of_lt (by omega), (or_fact (c / 64) (by omega)).2.1 (by omega)]
theorem hi3 {c : Nat} (h : c / 4096 < 16) : bOr .u8 224 (wu8 ((c / 4096 : Nat) : Int)) = ((224 + c / 4096 : Nat) : Int) := by
  rw [wu8_nat, Nat.mod_eq_of_lt (by omega), (or_fact (c / 4096) (by omega)).2.2.1 (by omega)]
theorem hi4 {c : Nat} (h : c / 262144 < 8) : bOr .u8 240 (wu8 ((c / 262144 : Nat) : Int)) = ((240 + c / 262144 : Nat) : Int) := by
  rw [wu8_nat, Nat.mod_eq_of_lt (by omega), (or_fact (c / 262144) (by omega)).2.2.2 (by omega)]
theorem bOk {n : Nat} (h : n < 256) : byteOk (n : Int) := ⟨by omega, by omega⟩
theorem toB (n : Nat) : (n : Int).toNat.toUInt8 = UInt8.ofNat n := rfl
/-- The bytes of a rune that is not broken. -/
theorem enc_list {s : ByteArray} {i : Nat} (hi : i < s.size) {c : Nat} (hc : rn s i = (c : Int)) : ((bl s).take (i + wd s i)).drop i = (encN c).data.toList := by
  have h := enc_rn hi (by omega)
  have hv : Utf8.valid (c : Int) = true := by
    have := rn_valid (s := s) (i := i)
    have e : c = (Utf8.decode s i).1 := by
      unfold rn at hc
      split at hc <;> omega
    rw [← e] at this
    simp only [Utf8.valid]; simp; omega
  rw [hc, encU, hv, if_pos rfl, Int.toNat_natCast, ext_list] at h
  rw [h]
theorem W48_ok {s : ByteArray} {i : Nat} (hi : i < s.size) (l c : Nat) (a : List UInt8) (ha : a.length ≤ 100000000) : W48_0 (σ := Unit) () [encS (rn s i, i, l, c), encC (rn s i, i, l, c)] (.inl (s, (⟨a.toArray⟩ : ByteArray)), ()) = some (true, (.inl (s, (⟨(a ++ qR s (rn s i, i, wd s i)).toArray⟩ : ByteArray)), ())) := by
  show W48_0 (σ := Unit) () [.agg [.val (.int .i64 (i : Int)), .val (.int .i64 (l : Int)), .val (.int .i64 (c : Int))], .val (.int .i32 (rn s i))] (.inl (s, (⟨a.toArray⟩ : ByteArray)), ()) = _
  have hva : (⟨a.toArray⟩ : ByteArray).size = a.length := size_mk a
  rw [W48_0_step]
  by_cases h34 : rn s i = 34 ∨ rn s i = 92
  · have hn : ∃ c : Nat, rn s i = (c : Int) ∧ (c = 34 ∨ c = 92) := by
      rcases h34 with h | h
      · exact ⟨34, h, .inl rfl⟩
      · exact ⟨92, h, .inr rfl⟩
    obtain ⟨c, hc, hcv⟩ := hn
    have e8 : wu8 (c : Int) = (c : Int) := by rw [wu8_nat, Nat.mod_eq_of_lt (by omega)]
    rw [yes34 h34, cond_true, qR, if_pos h34, hc, wu32_nat (by omega), decide_eq_true (show ((c : Nat) : Int) ≤ 127 by omega), cond_true, e8, ask_of (bOk (by omega)), ask_of (addB rfl (by rw [size_bcons, hva, size_empty]; omega)), ask_of (addB (by rw [ByteArray.size_append]) (by rw [ByteArray.size_append, size_bcons, size_bcons, hva, size_empty]; omega)), ask_of (szs _ _), empty_mk, bcons_mk, bcons_mk, mk_app, mk_app]
    simp only [List.append_assoc]
    rfl
  · rw [no34 h34, cond_false, qR, if_neg h34]
    by_cases h10 : rn s i = 10
    · rw [show (rn s i == 10) = true from beq_iff_eq.2 h10, cond_true, if_pos h10, push (by rw [hva]; show a.length + 2 ≤ _; omega), show (⟨#[92, 110]⟩ : ByteArray) = (⟨[(92 : UInt8), 110].toArray⟩ : ByteArray) from rfl, mk_app]
    · rw [show (rn s i == 10) = false from beq_eq_false_iff_ne.2 h10, cond_false, if_neg h10]
      by_cases h32 : rn s i < 32 ∨ rn s i = 127
      · obtain ⟨f1, f2⟩ := hi_fact (s.get! i).toNat (bt_lt i)
        rw [yes32 h32, cond_true, if_pos h32, sidx_get hi, Option.bind_some, f1, f2]
        simp only [Option.bind_some]
        rw [ask_of (addB rfl (by rw [hva]; show a.length + 2 ≤ _; omega)), ask_of (bOk (UInt8.toNat_lt _)), ask_of (addB (by rw [ByteArray.size_append]) (by rw [ByteArray.size_append, size_bcons, hva, size_empty]; show a.length + 2 + (0 + 1) ≤ _; omega)), ask_of (bOk (UInt8.toNat_lt _)), ask_of (addB (by rw [ByteArray.size_append (a := (⟨a.toArray⟩ : ByteArray) ++ _)]) (by rw [ByteArray.size_append, ByteArray.size_append, size_bcons, size_bcons, hva, size_empty]; show a.length + 2 + (0 + 1) + (0 + 1) ≤ _; omega)), ask_of (szs _ _), show (⟨#[92, 120]⟩ : ByteArray) = (⟨[(92 : UInt8), 120].toArray⟩ : ByteArray) from rfl, empty_mk, bcons_mk, bcons_mk, mk_app, mk_app, mk_app]
        simp only [List.append_assoc, Int.toNat_natCast]
        simp
      · rw [no32 h32, cond_false, if_neg h32]
        have hr := rn_range s i
        obtain ⟨c, hc⟩ : ∃ c : Nat, rn s i = (c : Int) := ⟨(rn s i).toNat, by omega⟩
        have hle := rn_valid (s := s) (i := i)
        have ec : c = (Utf8.decode s i).1 := by
          unfold rn at hc
          split at hc <;> omega
        rw [← ec] at hle
        rw [enc_list hi hc, hc, wu32_nat (by omega)]
        rw [hc] at h32
        unfold encN
        rw [fd6, fd12, fd18]
        by_cases c1 : c ≤ 127
        · have e8 : wu8 (c : Int) = (c : Int) := by rw [wu8_nat, Nat.mod_eq_of_lt (by omega)]
          rw [decide_eq_true (show ((c : Nat) : Int) ≤ 127 by omega), cond_true, if_pos (show c < 128 by omega), e8, ask_of (bOk (by omega)), push (by rw [hva, size_bcons, size_empty]; omega), empty_mk, bcons_mk, mk_app, toB]
        · rw [decide_eq_false (show ¬ ((c : Nat) : Int) ≤ 127 by omega), cond_false, if_neg (show ¬ c < 128 by omega)]
          by_cases c2 : c ≤ 2047
          · rw [decide_eq_true (show ((c : Nat) : Int) ≤ 2047 by omega), cond_true, if_pos (show c < 2048 by omega), hi2 (by omega), lo6, ask_of (bOk (by omega)), ask_of (bOk (by omega)), push (by rw [hva, size_bcons, size_bcons, size_empty]; omega), empty_mk, bcons_mk, bcons_mk, mk_app, toB, toB]
          · rw [decide_eq_false (show ¬ ((c : Nat) : Int) ≤ 2047 by omega), cond_false, if_neg (show ¬ c < 2048 by omega)]
            have T3 : c ≤ 65535 → ∀ {β : Type} (k : Option β), (ask (byteOk (bOr .u8 224 (wu8 ((c / 4096 : Nat) : Int)))) (ask (byteOk (bOr .u8 128 (bAnd .u8 (wu8 ((c / 64 : Nat) : Int)) 63))) (ask (byteOk (bOr .u8 128 (bAnd .u8 (wu8 (c : Int)) 63))) k))) = k := by
              intro h β k
              rw [hi3 (by omega), lo6, lo6, ask_of (bOk (by omega)), ask_of (bOk (by omega)), ask_of (bOk (by omega))]
            by_cases c3 : c < 55296
            · rw [decide_eq_true (show ((c : Nat) : Int) < 55296 by omega), cond_true, if_pos (show c < 65536 by omega), T3 (by omega), hi3 (by omega), lo6, lo6, push (by rw [hva, size_bcons, size_bcons, size_bcons, size_empty]; omega), empty_mk, bcons_mk, bcons_mk, bcons_mk, mk_app, toB, toB, toB]
            · rw [decide_eq_false (show ¬ ((c : Nat) : Int) < 55296 by omega), cond_false, decide_eq_true (show 57343 < ((c : Nat) : Int) by omega), cond_true]
              by_cases c4 : c ≤ 65535
              · rw [decide_eq_true (show ((c : Nat) : Int) ≤ 65535 by omega), cond_true, if_pos (show c < 65536 by omega), T3 (by omega), hi3 (by omega), lo6, lo6, push (by rw [hva, size_bcons, size_bcons, size_bcons, size_empty]; omega), empty_mk, bcons_mk, bcons_mk, bcons_mk, mk_app, toB, toB, toB]
              · rw [decide_eq_false (show ¬ ((c : Nat) : Int) ≤ 65535 by omega), cond_false, decide_eq_true (show ((c : Nat) : Int) > 65535 by omega), cond_true, decide_eq_true (show ((c : Nat) : Int) ≤ 1114111 by omega), cond_true, if_neg (show ¬ c < 65536 by omega), hi4 (by omega), lo6, lo6, lo6, ask_of (bOk (by omega)), ask_of (bOk (by omega)), ask_of (bOk (by omega)), ask_of (bOk (by omega)), push (by rw [hva, size_bcons, size_bcons, size_bcons, size_bcons, size_empty]; omega), empty_mk, bcons_mk, bcons_mk, bcons_mk, bcons_mk, mk_app, toB, toB, toB, toB]
end Ev

/- Plain law: TextQuotes, second part. -/
set_option linter.unusedSimpArgs false
set_option linter.unusedVariables false
namespace Ev
open Go

def qL (s : ByteArray) (t : List Ru) : List UInt8 := t.flatMap (qR s)
/-- The quoted text. -/
def quoteB (s : ByteArray) : ByteArray := ⟨((34 : UInt8) :: (qL s (runesL s 0) ++ [34])).toArray⟩
theorem piece_len (s : ByteArray) {i : Nat} (hi : i < s.size) : (((bl s).take (i + wd s i)).drop i).length = wd s i := by
  have w2 := wd_le hi
  have hsz : s.size = (bl s).length := size_list s
  rw [List.length_drop, List.length_take]; omega
theorem qR_len (s : ByteArray) {i : Nat} (hi : i < s.size) : (qR s (rn s i, i, wd s i)).length ≤ 4 * wd s i := by
  have w1 := wd_pos s i
  unfold qR
  split
  · simp only [List.length_cons, List.length_nil]; omega
  split
  · simp only [List.length_cons, List.length_nil]; omega
  split
  · simp only [List.length_cons, List.length_nil]; omega
  · rw [piece_len s hi]; omega
theorem run48 {s : ByteArray} : ∀ (d i l c : Nat) (a : List UInt8), s.size - i ≤ d → i ≤ s.size → a.length + 4 * (s.size - i) ≤ 50000000 → runY (W48_0 (σ := Unit) ()) (spotsOf l c (runesL s i)) (.inl (s, (⟨a.toArray⟩ : ByteArray)), ()) = some (true, (.inl (s, (⟨(a ++ qL s (runesL s i)).toArray⟩ : ByteArray)), ())) := by
  intro d
  induction d with
  | zero =>
    intro i l c a hd hi ha
    rw [runesL_nil (by omega)]
    simp [spotsOf, runY, qL]
  | succ d ih =>
    intro i l c a hd hi ha
    by_cases h : i < s.size
    · have w1 := wd_pos s i
      have w2 := wd_le h
      have hq := qR_len s h
      rw [runesL_cons h, spotsOf, runY, W48_ok h l c a (by omega), Option.bind_some, cond_true]
      show runY (W48_0 (σ := Unit) ()) (if rn s i = 10 then spotsOf (l + 1) 1 (runesL s (i + wd s i)) else spotsOf l (c + 1) (runesL s (i + wd s i))) (.inl (s, (⟨(a ++ qR s (rn s i, i, wd s i)).toArray⟩ : ByteArray)), ()) = _
      have e : qL s ((rn s i, i, wd s i) :: runesL s (i + wd s i)) = qR s (rn s i, i, wd s i) ++ qL s (runesL s (i + wd s i)) := rfl
      rw [e, ← List.append_assoc]
      split
      · exact ih (i + wd s i) _ _ _ (by omega) w2 (by rw [List.length_append]; omega)
      · exact ih (i + wd s i) _ _ _ (by omega) w2 (by rw [List.length_append]; omega)
    · rw [runesL_nil (by omega)]
      simp [spotsOf, runY, qL]
theorem qL_len {s : ByteArray} : ∀ (d i : Nat), s.size - i ≤ d → i ≤ s.size → (qL s (runesL s i)).length ≤ 4 * (s.size - i) := by
  intro d
  induction d with
  | zero =>
    intro i hd hi
    rw [runesL_nil (by omega)]; simp [qL]
  | succ d ih =>
    intro i hd hi
    by_cases h : i < s.size
    · have w1 := wd_pos s i
      have w2 := wd_le h
      have hq := qR_len s h
      have := ih (i + wd s i) (by omega) w2
      rw [runesL_cons h]
      show (qR s (rn s i, i, wd s i) ++ qL s (runesL s (i + wd s i))).length ≤ _
      rw [List.length_append]; omega
    · rw [runesL_nil (by omega)]; simp [qL]
theorem n48_eq {s : ByteArray} (hs : s.size ≤ 1048576) : n48 s = some (quoteB s) := by
  have hq := qL_len (s := s) s.size 0 (by omega) (by omega)
  have hr := run48 (s := s) s.size 0 1 1 [34] (by omega) (by omega) (by simp; omega)
  show (ask (addBOk 0 ByteArray.empty (bcons 34 ByteArray.empty) 1) (ask (([(ByteArray.empty.size + (bcons 34 ByteArray.empty).size)] : List Nat) = [(ByteArray.empty ++ (bcons 34 ByteArray.empty)).size]) ((n83 (W48_0 ()) s (Sum.inl (s, (ByteArray.empty ++ (bcons 34 ByteArray.empty))), ())).bind fun p11 => match p11.2.1 with | .inl z12 => (ask (addBOk (z12.2).size (z12.2) (bcons 34 ByteArray.empty) 1) (ask (((z12.2).size + (bcons 34 ByteArray.empty).size) = ((z12.2) ++ (bcons 34 ByteArray.empty)).size ∧ strOk ((z12.2) ++ (bcons 34 ByteArray.empty))) (some ((z12.2) ++ (bcons 34 ByteArray.empty))))) | .inr o13 => nomatch o13))) = _
  rw [ask_of (show addBOk 0 ByteArray.empty (bcons 34 ByteArray.empty) 1 from addB rfl (by rw [size_bcons, size_empty]; omega)), ask_of (szs _ _), empty_mk, bcons_mk, mk_app, n83_eq _ hs]
  rw [show spots s = spotsOf 1 1 (runesL s 0) from rfl, show ([] ++ [(34 : Int).toNat.toUInt8] : List UInt8) = [34] from rfl, hr]
  show (ask (addBOk ((⟨([34] ++ qL s (runesL s 0)).toArray⟩ : ByteArray)).size (⟨([34] ++ qL s (runesL s 0)).toArray⟩ : ByteArray) (⟨[(34 : Int).toNat.toUInt8].toArray⟩ : ByteArray) 1) (ask (((⟨([34] ++ qL s (runesL s 0)).toArray⟩ : ByteArray).size + (⟨[(34 : Int).toNat.toUInt8].toArray⟩ : ByteArray).size) = ((⟨([34] ++ qL s (runesL s 0)).toArray⟩ : ByteArray) ++ (⟨[(34 : Int).toNat.toUInt8].toArray⟩ : ByteArray)).size ∧ strOk ((⟨([34] ++ qL s (runesL s 0)).toArray⟩ : ByteArray) ++ (⟨[(34 : Int).toNat.toUInt8].toArray⟩ : ByteArray))) (some ((⟨([34] ++ qL s (runesL s 0)).toArray⟩ : ByteArray) ++ (⟨[(34 : Int).toNat.toUInt8].toArray⟩ : ByteArray))))) = _
  have hstr : strOk ((⟨([34] ++ qL s (runesL s 0)).toArray⟩ : ByteArray) ++ (⟨[(34 : Int).toNat.toUInt8].toArray⟩ : ByteArray)) := by
    rw [mk_app]
    refine ⟨Nat.ble_eq_true_of_le ?_, Nat.ble_eq_true_of_le ?_⟩ <;> rw [size_mk] <;> simp <;> omega
  rw [ask_of (addB rfl (by rw [size_mk, size_mk]; simp; omega)), ask_of ⟨by rw [ByteArray.size_append], hstr⟩, mk_app]
  unfold quoteB
  simp
theorem L49_step (v3 : ByteArray) (v4 : List D) (v5 : ByteArray) (k : Nat) (n : Nat) : L49_0 (n + 1) (v3, v4, v5, (k : Int)) () = (bif (decide ((k : Int) < ((v4.length : Nat) : Int))) then ((lidx v4 (k : Int)).bind fun d7 => ask (d7.cells.length = 3) ((cellAt 0 d7).bind fun x8 => (asInt .i64 x8).bind fun x9 => ((cellAt 1 d7).bind fun x10 => (asInt .i64 x10).bind fun x11 => ((cellAt 2 d7).bind fun x12 => (asInt .i64 x12).bind fun x13 => (bif (bif (x9 == 34) then true else (x9 == 92)) then (ask (byteOk (wu8 x9)) (ask (addBOk v5.size v5 (bcons 92 (bcons (wu8 x9) ByteArray.empty)) 1) (ask (([(v5.size + (bcons 92 (bcons (wu8 x9) ByteArray.empty)).size)] : List Nat) = [(v5 ++ (bcons 92 (bcons (wu8 x9) ByteArray.empty))).size]) (L49_0 n (v3, v4, (v5 ++ (bcons 92 (bcons (wu8 x9) ByteArray.empty))), (w64 ((k : Int) + 1))) ())))) else (bif (x9 == 10) then (ask (addBOk v5.size v5 (bcons 92 (bcons 110 ByteArray.empty)) 1) (ask (([(v5.size + (bcons 92 (bcons 110 ByteArray.empty)).size)] : List Nat) = [(v5 ++ (bcons 92 (bcons 110 ByteArray.empty))).size]) (L49_0 n (v3, v4, (v5 ++ (bcons 92 (bcons 110 ByteArray.empty))), (w64 ((k : Int) + 1))) ()))) else (bif (bif (decide (x9 < 32)) then true else (x9 == 127)) then ((sidx v3 x11).bind fun c14 => ((sidx (⟨#[48, 49, 50, 51, 52, 53, 54, 55, 56, 57, 97, 98, 99, 100, 101, 102]⟩ : ByteArray) (((c14.toNat : Int) : Int).fdiv (2 ^ (min (Int.toNat 4) 8)))).bind fun c15 => ((sidx (⟨#[48, 49, 50, 51, 52, 53, 54, 55, 56, 57, 97, 98, 99, 100, 101, 102]⟩ : ByteArray) (bAnd .u8 (c14.toNat : Int) 15)).bind fun c16 => (ask (byteOk (c15.toNat : Int)) (ask (byteOk (c16.toNat : Int)) (ask (addBOk v5.size v5 (bcons 92 (bcons 120 (bcons (c15.toNat : Int) (bcons (c16.toNat : Int) ByteArray.empty)))) 1) (ask (([(v5.size + (bcons 92 (bcons 120 (bcons (c15.toNat : Int) (bcons (c16.toNat : Int) ByteArray.empty)))).size)] : List Nat) = [(v5 ++ (bcons 92 (bcons 120 (bcons (c15.toNat : Int) (bcons (c16.toNat : Int) ByteArray.empty))))).size]) (L49_0 n (v3, v4, (v5 ++ (bcons 92 (bcons 120 (bcons (c15.toNat : Int) (bcons (c16.toNat : Int) ByteArray.empty))))), (w64 ((k : Int) + 1))) ())))))))) else (ask (cutOk x11 (w64 (x11 + x13)) v3.size) (ask (addBOk v5.size v5 (v3.extract (Int.toNat x11) (Int.toNat (w64 (x11 + x13)))) 1) (ask (([(v5.size + (v3.extract (Int.toNat x11) (Int.toNat (w64 (x11 + x13)))).size)] : List Nat) = [(v5 ++ (v3.extract (Int.toNat x11) (Int.toNat (w64 (x11 + x13))))).size]) (L49_0 n (v3, v4, (v5 ++ (v3.extract (Int.toNat x11) (Int.toNat (w64 (x11 + x13))))), (w64 ((k : Int) + 1))) ()))))))))))) else (ask (([v5.size] : List Nat) = [v5.size]) (some (O49_0.x0 v5, ())))) := rfl
theorem L49 {s : ByteArray} (hs : s.size ≤ 1048576) : ∀ (d n k i : Nat) (a : List UInt8), s.size - i ≤ d → d < n → (runesL s 0).drop k = runesL s i → k ≤ (runesL s 0).length → i ≤ s.size → a.length + 4 * (s.size - i) ≤ 50000000 →
    L49_0 n (s, (runesL s 0).map encR, (⟨a.toArray⟩ : ByteArray), (k : Int)) () = some (O49_0.x0 (⟨(a ++ qL s (runesL s i)).toArray⟩ : ByteArray), ()) := by
  have hll := runesL_length (s := s) s.size 0 (by omega)
  have done : ∀ (m k i : Nat) (a : List UInt8), (runesL s 0).drop k = runesL s i → ¬ i < s.size → k ≤ (runesL s 0).length → L49_0 (m + 1) (s, (runesL s 0).map encR, (⟨a.toArray⟩ : ByteArray), (k : Int)) () = some (O49_0.x0 (⟨(a ++ qL s (runesL s i)).toArray⟩ : ByteArray), ()) := by
    intro m k i a he hi hk
    rw [runesL_nil (i := i) (by omega)] at he
    have : (runesL s 0).length ≤ k := by
      have := congrArg List.length he
      rw [List.length_drop] at this
      simp at this; omega
    rw [L49_step, List.length_map, decide_eq_false (by omega), cond_false, ask_of rfl, runesL_nil (i := i) (by omega)]
    simp [qL]
  intro d
  induction d with
  | zero =>
    intro n k i a hd hn he hk hi ha
    obtain ⟨m, rfl⟩ : ∃ m, n = m + 1 := ⟨n - 1, by omega⟩
    exact done m k i a he (by omega) hk
  | succ d ih =>
    intro n k i a hd hn he hk hi ha
    obtain ⟨m, rfl⟩ : ∃ m, n = m + 1 := ⟨n - 1, by omega⟩
    by_cases h : i < s.size
    · have w1 := wd_pos s i
      have w2 := wd_le h
      have hq := qR_len s h
      have hk' : k < (runesL s 0).length := by
        apply Nat.lt_of_not_le
        intro hh
        rw [List.drop_eq_nil_of_le hh, runesL_cons h] at he
        exact List.cons_ne_nil _ _ he.symm
      rw [runesL_cons h, List.drop_eq_getElem_cons hk'] at he
      have hhd : (runesL s 0)[k] = (rn s i, i, wd s i) := (List.cons.inj he).1
      have htl := (List.cons.inj he).2
      have e0 : w64 ((k : Int) + 1) = ((k + 1 : Nat) : Int) := by rw [w64_id (by omega) (by omega)]; omega
      have ew : w64 ((i : Int) + (wd s i : Int)) = ((i + wd s i : Nat) : Int) := by rw [w64_id (by omega) (by omega)]; omega
      have hva : (⟨a.toArray⟩ : ByteArray).size = a.length := size_mk a
      have e : qL s (runesL s i) = qR s (rn s i, i, wd s i) ++ qL s (runesL s (i + wd s i)) := by rw [runesL_cons h]; rfl
      have key : L49_0 (m + 1) (s, (runesL s 0).map encR, (⟨a.toArray⟩ : ByteArray), (k : Int)) () = L49_0 m (s, (runesL s 0).map encR, (⟨(a ++ qR s (rn s i, i, wd s i)).toArray⟩ : ByteArray), ((k + 1 : Nat) : Int)) () := by
        rw [L49_step, List.length_map, decide_eq_true (by omega), cond_true, lidx_map, List.getElem?_eq_getElem hk', hhd, e0]
        simp only [Option.map_some, Option.bind_some, ask_of (lenR _), cellR0, cellR1, cellR2, asI64]
        by_cases h34 : rn s i = 34 ∨ rn s i = 92
        · have hn : ∃ c : Nat, rn s i = (c : Int) ∧ (c = 34 ∨ c = 92) := by
            rcases h34 with h | h
            · exact ⟨34, h, .inl rfl⟩
            · exact ⟨92, h, .inr rfl⟩
          obtain ⟨c, hc, hcv⟩ := hn
          have e8 : wu8 (c : Int) = (c : Int) := by rw [wu8_nat, Nat.mod_eq_of_lt (by omega)]
          rw [yes34 h34, cond_true, qR, if_pos h34, hc, e8, ask_of (bOk (by omega)), push (by rw [size_bcons, size_bcons, hva, size_empty]; omega), empty_mk, bcons_mk, bcons_mk, mk_app]
          rfl
        · rw [no34 h34, cond_false, qR, if_neg h34]
          by_cases h10 : rn s i = 10
          · rw [show (rn s i == 10) = true from beq_iff_eq.2 h10, cond_true, if_pos h10, push (by rw [size_bcons, size_bcons, hva, size_empty]; omega), empty_mk, bcons_mk, bcons_mk, mk_app]
            rfl
          · rw [show (rn s i == 10) = false from beq_eq_false_iff_ne.2 h10, cond_false, if_neg h10]
            by_cases h32 : rn s i < 32 ∨ rn s i = 127
            · obtain ⟨f1, f2⟩ := hi_fact (s.get! i).toNat (bt_lt i)
              rw [yes32 h32, cond_true, if_pos h32, sidx_get h, Option.bind_some, f1, f2]
              simp only [Option.bind_some]
              rw [ask_of (bOk (UInt8.toNat_lt _)), ask_of (bOk (UInt8.toNat_lt _)), push (by rw [size_bcons, size_bcons, size_bcons, size_bcons, hva, size_empty]; omega), empty_mk, bcons_mk, bcons_mk, bcons_mk, bcons_mk, mk_app]
              simp only [Int.toNat_natCast]
              simp
            · rw [no32 h32, cond_false, if_neg h32, ew, ask_of (show cutOk (i : Int) ((i + wd s i : Nat) : Int) s.size from ⟨by omega, by omega, by omega⟩), Int.toNat_natCast, Int.toNat_natCast, ext_list, push (by rw [hva, size_mk, piece_len s h]; omega), mk_app]
      rw [key, ih m (k + 1) (i + wd s i) _ (by omega) (by omega) htl (by omega) w2 (by rw [List.length_append]; omega), e, List.append_assoc]
    · exact done m k i a he h hk
theorem n49_eq {s : ByteArray} (hs : s.size ≤ 1048576) : n49 s = some (quoteB s) := by
  have hq := qL_len (s := s) s.size 0 (by omega) (by omega)
  have hL := L49 hs s.size 1000000000000 0 0 [34] (by omega) (by omega) rfl (by omega) (by omega) (by simp; omega)
  show ((n29 s).bind fun y2 => (ask (([(⟨[(34 : UInt8)].toArray⟩ : ByteArray).size] : List Nat) = [(⟨[(34 : UInt8)].toArray⟩ : ByteArray).size]) ((L49_0 1000000000000 (s, y2, (⟨[(34 : UInt8)].toArray⟩ : ByteArray), ((0 : Nat) : Int)) ()).bind fun p18 => match p18.1 with | .x0 z19 => (ask (addBOk z19.size z19 (⟨[(34 : UInt8)].toArray⟩ : ByteArray) 1) (some (z19 ++ (⟨[(34 : UInt8)].toArray⟩ : ByteArray))))))) = _
  rw [n29_eq hs, Option.bind_some, ask_of rfl, hL]
  show (ask (addBOk (⟨([34] ++ qL s (runesL s 0)).toArray⟩ : ByteArray).size (⟨([34] ++ qL s (runesL s 0)).toArray⟩ : ByteArray) (⟨[(34 : UInt8)].toArray⟩ : ByteArray) 1) (some ((⟨([34] ++ qL s (runesL s 0)).toArray⟩ : ByteArray) ++ (⟨[(34 : UInt8)].toArray⟩ : ByteArray)))) = _
  rw [ask_of (addB rfl (by rw [size_mk, size_mk]; simp; omega)), mk_app]
  unfold quoteB
  simp
end Ev

/- Plain law: TextQuotes, third part: what is quoted reads back. -/
set_option linter.unusedSimpArgs false
set_option linter.unusedVariables false
namespace Ev
open Go

/-- A quoted stretch, and what it stands for. -/
inductive Qd : List UInt8 → List UInt8 → Prop
  | nil : Qd [] []
  | raw {q v} (b : UInt8) (h : b ≠ 92) : Qd q v → Qd (b :: q) (b :: v)
  | esc {q v} (b : UInt8) (h : b = 34 ∨ b = 92) : Qd q v → Qd (92 :: b :: q) (b :: v)
  | nl {q v} : Qd q v → Qd (92 :: 110 :: q) (10 :: v)
  | hex {q v} (b : UInt8) : Qd q v → Qd (92 :: 120 :: hx (b.toNat / 16) :: hx (b.toNat % 16) :: q) (b :: v)
theorem Qd.app {q v q' v' : List UInt8} (h : Qd q v) (h' : Qd q' v') : Qd (q ++ q') (v ++ v') := by
  induction h with
  | nil => exact h'
  | raw b hb _ ih => exact .raw b hb ih
  | esc b hb _ ih => exact .esc b hb ih
  | nl _ ih => exact .nl ih
  | hex b _ ih => exact .hex b ih
theorem Qd.raws : ∀ (l : List UInt8), (∀ b ∈ l, b ≠ 92) → Qd l l
  | [], _ => .nil
  | b :: t, h => .raw b (h b List.mem_cons_self) (Qd.raws t fun x hx => h x (List.mem_cons_of_mem _ hx))
theorem head_bl {s : ByteArray} {i : Nat} (hi : i < s.size) : (bl s).drop i = s.get! i :: (bl s).drop (i + 1) := by
  have hl : i < (bl s).length := by rw [← size_list]; exact hi
  rw [List.drop_eq_getElem_cons hl]
  congr 1
  rw [get_bang_eq, List.getElem?_eq_getElem hl]
  rfl
theorem enc_bytes {c : Nat} (h1 : c ≠ 92) (h2 : c ≤ 1114111) : ∀ b ∈ (encN c).data.toList, b ≠ 92 := by
  have key : ∀ n : Nat, 128 ≤ n → n < 256 → UInt8.ofNat n ≠ 92 := by
    intro n q1 q2 e
    have := congrArg UInt8.toNat e
    rw [ofn (by omega)] at this
    have e92 : (92 : UInt8).toNat = 92 := rfl
    omega
  intro b hb
  unfold encN at hb
  split at hb
  · simp only [List.mem_cons, List.not_mem_nil, or_false] at hb
    subst hb
    intro e
    have := congrArg UInt8.toNat e
    rw [ofn (by omega)] at this
    exact h1 this
  split at hb
  · simp only [List.mem_cons, List.not_mem_nil, or_false] at hb
    rcases hb with rfl | rfl <;> exact key _ (by omega) (by omega)
  split at hb
  · simp only [List.mem_cons, List.not_mem_nil, or_false] at hb
    rcases hb with rfl | rfl | rfl <;> exact key _ (by omega) (by omega)
  · simp only [List.mem_cons, List.not_mem_nil, or_false] at hb
    rcases hb with rfl | rfl | rfl | rfl <;> exact key _ (by omega) (by omega)
theorem qd_rune {s : ByteArray} {i : Nat} (hi : i < s.size) : Qd (qR s (rn s i, i, wd s i)) (((bl s).take (i + wd s i)).drop i) := by
  have hr := rn_range s i
  have one : wd s i = 1 → ((bl s).take (i + wd s i)).drop i = [s.get! i] := by
    intro h
    rw [h, List.drop_take, head_bl hi, show i + 1 - i = 0 + 1 by omega]
    simp
  have small : ∀ c : Nat, rn s i = (c : Int) → c < 128 → wd s i = 1 ∧ bt s i = c := by
    intro c h h1
    have e : (Utf8.decode s i).1 = c := by
      unfold rn at h
      split at h <;> omega
    have := dec_small (s := s) (i := i) (by omega)
    refine ⟨congrArg Prod.snd this, ?_⟩
    rw [← e, this]
  unfold qR
  by_cases h34 : rn s i = 34 ∨ rn s i = 92
  · rw [if_pos h34]
    obtain ⟨c, hc, hcv⟩ : ∃ c : Nat, rn s i = (c : Int) ∧ (c = 34 ∨ c = 92) := by
      rcases h34 with h | h
      · exact ⟨34, h, .inl rfl⟩
      · exact ⟨92, h, .inr rfl⟩
    obtain ⟨h1, h2⟩ := small c hc (by omega)
    rw [one h1]
    have eb : s.get! i = UInt8.ofNat c := by
      apply UInt8.toNat_inj.1
      rw [ofn (by omega)]; exact h2
    show Qd [92, (rn s i).toNat.toUInt8] _
    rw [hc, toB, eb]
    refine .esc _ ?_ .nil
    rcases hcv with rfl | rfl
    · exact .inl rfl
    · exact .inr rfl
  · rw [if_neg h34]
    by_cases h10 : rn s i = 10
    · obtain ⟨h1, h2⟩ := small 10 h10 (by omega)
      rw [if_pos h10, one h1]
      have eb : s.get! i = 10 := by
        apply UInt8.toNat_inj.1
        exact h2
      rw [eb]
      exact .nl .nil
    · rw [if_neg h10]
      by_cases h32 : rn s i < 32 ∨ rn s i = 127
      · have hw : wd s i = 1 := by
          by_cases hneg : rn s i < 0
          · unfold rn at hneg
            split at hneg
            · rename_i e; exact congrArg Prod.snd e
            · omega
          · exact (small (rn s i).toNat (by omega) (by omega)).1
        rw [if_pos h32, one hw]
        exact .hex _ .nil
      · rw [if_neg h32]
        obtain ⟨c, hc⟩ : ∃ c : Nat, rn s i = (c : Int) := ⟨(rn s i).toNat, by omega⟩
        refine Qd.raws _ ?_
        show ∀ b ∈ ((bl s).take (i + wd s i)).drop i, b ≠ 92
        rw [enc_list hi hc]
        exact enc_bytes (by intro e; exact h34 (.inr (by omega))) (by omega)
theorem qd_list {s : ByteArray} : ∀ (d i : Nat), s.size - i ≤ d → i ≤ s.size → Qd (qL s (runesL s i)) ((bl s).drop i) := by
  have hsz : s.size = (bl s).length := size_list s
  intro d
  induction d with
  | zero =>
    intro i hd hi
    rw [runesL_nil (by omega), List.drop_eq_nil_of_le (by omega)]
    exact .nil
  | succ d ih =>
    intro i hd hi
    by_cases h : i < s.size
    · have w1 := wd_pos s i
      have w2 := wd_le h
      have := (qd_rune h).app (ih (i + wd s i) (by omega) w2)
      have e : (bl s).drop i = ((bl s).take (i + wd s i)).drop i ++ (bl s).drop (i + wd s i) := by
        have e1 : bl s = (bl s).take (i + wd s i) ++ (bl s).drop (i + wd s i) := (List.take_append_drop _ _).symm
        conv => lhs; rw [e1]
        rw [List.drop_append_of_le_length (by rw [List.length_take]; omega)]
      rw [runesL_cons h, e]
      exact this
    · rw [runesL_nil (by omega), List.drop_eq_nil_of_le (by omega)]
      exact .nil
/-! reading it back -/
theorem hex_fact : ∀ n : Nat, n < 256 → hexTwo [hx (n / 16), hx (n % 16)] = ((n : Int), false) := by decide +kernel
theorem n77_fact : ∀ m : Nat, m < 16 → n77 ((hx m).toNat : Int) = some (m : Int) := by decide +kernel
theorem n77_tot : ∀ n : Nat, n < 256 → (n77 (n : Int)).isSome = true ∧ (n77 (n : Int)).getD 0 < 16 ∧ -1 ≤ (n77 (n : Int)).getD 0 := by decide +kernel
theorem L46_step (v5 v6 v7 : ByteArray) (k : Nat) (n : Nat) : L46_0 (n + 1) (v5, v6, v7, (k : Int)) () = (bif (decide ((k : Int) < (v6.size : Int))) then ((sidx v6 (k : Int)).bind fun c9 => (bif ((c9.toNat : Int) != 92) then ((sidx v6 (k : Int)).bind fun c10 => (ask (byteOk (c10.toNat : Int)) (ask (addBOk v7.size v7 (bcons (c10.toNat : Int) ByteArray.empty) 1) (ask (([(v7.size + (bcons (c10.toNat : Int) ByteArray.empty).size)] : List Nat) = [(v7 ++ (bcons (c10.toNat : Int) ByteArray.empty)).size]) (L46_0 n (v5, v6, (v7 ++ (bcons (c10.toNat : Int) ByteArray.empty)), (w64 ((k : Int) + 1))) ()))))) else (bif (decide ((w64 ((k : Int) + 1)) ≥ (v6.size : Int))) then (ask (([v7.size] : List Nat) = [v7.size]) (some (O46_0.x0 (⟨#[]⟩ : ByteArray) 24 v7.size, ()))) else ((sidx v6 (w64 ((k : Int) + 1))).bind fun c14 => (bif ((c14.toNat : Int) == 110) then (ask (addBOk v7.size v7 (bcons 10 ByteArray.empty) 1) (ask (([(v7.size + (bcons 10 ByteArray.empty).size)] : List Nat) = [(v7 ++ (bcons 10 ByteArray.empty)).size]) (L46_0 n (v5, v6, (v7 ++ (bcons 10 ByteArray.empty)), (w64 ((w64 ((k : Int) + 1)) + 1))) ()))) else (bif ((c14.toNat : Int) == 120) then (ask (cutOk (w64 ((w64 ((k : Int) + 1)) + 1)) (v6.size : Int) v6.size) ((n76 (v6.extract (Int.toNat (w64 ((w64 ((k : Int) + 1)) + 1))) (Int.toNat (v6.size : Int)))).bind fun y15 => (bif (!y15.2) then (ask (([v7.size] : List Nat) = [v7.size]) (some (O46_0.x0 (⟨#[]⟩ : ByteArray) 24 v7.size, ()))) else (ask (byteOk y15.1) (ask (addBOk v7.size v7 (bcons y15.1 ByteArray.empty) 1) (ask (([(v7.size + (bcons y15.1 ByteArray.empty).size)] : List Nat) = [(v7 ++ (bcons y15.1 ByteArray.empty)).size]) (L46_0 n (v5, v6, (v7 ++ (bcons y15.1 ByteArray.empty)), (w64 ((w64 ((w64 ((k : Int) + 1)) + 2)) + 1))) ()))))))) else ((sidx v6 (w64 ((k : Int) + 1))).bind fun c16 => (ask (byteOk (c16.toNat : Int)) (ask (addBOk v7.size v7 (bcons (c16.toNat : Int) ByteArray.empty) 1) (ask (([(v7.size + (bcons (c16.toNat : Int) ByteArray.empty).size)] : List Nat) = [(v7 ++ (bcons (c16.toNat : Int) ByteArray.empty)).size]) (L46_0 n (v5, v6, (v7 ++ (bcons (c16.toNat : Int) ByteArray.empty)), (w64 ((w64 ((k : Int) + 1)) + 1))) ()))))))))))) else (ask (([v7.size] : List Nat) = [v7.size]) (some (O46_0.x1 v5 v7, ())))) := rfl
theorem L47_step (v5 v6 v7 : ByteArray) (k : Nat) (n : Nat) : L47_0 (n + 1) (v5, v6, v7, (k : Int)) () = (bif (decide ((k : Int) < (v7.size : Int))) then ((sidx v7 (k : Int)).bind fun c9 => (bif ((c9.toNat : Int) != 92) then ((sidx v7 (k : Int)).bind fun c10 => (ask (byteOk (c10.toNat : Int)) (ask (addBOk v6.size v6 (bcons (c10.toNat : Int) ByteArray.empty) 1) (ask (([(v6.size + (bcons (c10.toNat : Int) ByteArray.empty).size)] : List Nat) = [(v6 ++ (bcons (c10.toNat : Int) ByteArray.empty)).size]) (L47_0 n (v5, (v6 ++ (bcons (c10.toNat : Int) ByteArray.empty)), v7, (w64 ((k : Int) + 1))) ()))))) else (bif (decide ((w64 ((k : Int) + 1)) ≥ (v7.size : Int))) then (ask (([v6.size] : List Nat) = [v6.size]) (some (O47_0.x0 (⟨#[]⟩ : ByteArray) 24 v6.size, ()))) else ((sidx v7 (w64 ((k : Int) + 1))).bind fun c14 => (bif ((c14.toNat : Int) == 34) then ((sidx v7 (w64 ((k : Int) + 1))).bind fun c15 => (ask (byteOk (c15.toNat : Int)) (ask (addBOk v6.size v6 (bcons (c15.toNat : Int) ByteArray.empty) 1) (ask (([(v6.size + (bcons (c15.toNat : Int) ByteArray.empty).size)] : List Nat) = [(v6 ++ (bcons (c15.toNat : Int) ByteArray.empty)).size]) (L47_0 n (v5, (v6 ++ (bcons (c15.toNat : Int) ByteArray.empty)), v7, (w64 ((w64 ((k : Int) + 1)) + 1))) ()))))) else (bif ((c14.toNat : Int) == 92) then ((sidx v7 (w64 ((k : Int) + 1))).bind fun c16 => (ask (byteOk (c16.toNat : Int)) (ask (addBOk v6.size v6 (bcons (c16.toNat : Int) ByteArray.empty) 1) (ask (([(v6.size + (bcons (c16.toNat : Int) ByteArray.empty).size)] : List Nat) = [(v6 ++ (bcons (c16.toNat : Int) ByteArray.empty)).size]) (L47_0 n (v5, (v6 ++ (bcons (c16.toNat : Int) ByteArray.empty)), v7, (w64 ((w64 ((k : Int) + 1)) + 1))) ()))))) else (bif ((c14.toNat : Int) == 110) then (ask (addBOk v6.size v6 (bcons 10 ByteArray.empty) 1) (ask (([(v6.size + (bcons 10 ByteArray.empty).size)] : List Nat) = [(v6 ++ (bcons 10 ByteArray.empty)).size]) (L47_0 n (v5, (v6 ++ (bcons 10 ByteArray.empty)), v7, (w64 ((w64 ((k : Int) + 1)) + 1))) ()))) else (bif ((c14.toNat : Int) == 120) then (bif (decide ((w64 ((w64 ((k : Int) + 1)) + 2)) ≥ (v7.size : Int))) then (ask (([v6.size] : List Nat) = [v6.size]) (some (O47_0.x0 (⟨#[]⟩ : ByteArray) 24 v6.size, ()))) else ((sidx v7 (w64 ((w64 ((k : Int) + 1)) + 1))).bind fun c17 => ((n77 (c17.toNat : Int)).bind fun y18 => ((sidx v7 (w64 ((w64 ((k : Int) + 1)) + 2))).bind fun c19 => ((n77 (c19.toNat : Int)).bind fun y20 => (bif (bif (decide (y18 < 0)) then true else (decide (y20 < 0))) then (ask (([v6.size] : List Nat) = [v6.size]) (some (O47_0.x0 (⟨#[]⟩ : ByteArray) 24 v6.size, ()))) else (ask (byteOk (wu8 (w64 ((w64 (16 * y18)) + y20)))) (ask (addBOk v6.size v6 (bcons (wu8 (w64 ((w64 (16 * y18)) + y20))) ByteArray.empty) 1) (ask (([(v6.size + (bcons (wu8 (w64 ((w64 (16 * y18)) + y20))) ByteArray.empty).size)] : List Nat) = [(v6 ++ (bcons (wu8 (w64 ((w64 (16 * y18)) + y20))) ByteArray.empty)).size]) (L47_0 n (v5, (v6 ++ (bcons (wu8 (w64 ((w64 (16 * y18)) + y20))) ByteArray.empty)), v7, (w64 ((w64 ((w64 ((k : Int) + 1)) + 2)) + 1))) ())))))))))) else (ask (([v6.size] : List Nat) = [v6.size]) (some (O47_0.x0 (⟨#[]⟩ : ByteArray) 24 v6.size, ()))))))))))) else (ask (([v6.size] : List Nat) = [v6.size]) (some (O47_0.x1 v5 v6, ())))) := rfl

theorem bl_mk (l : List UInt8) : bl (⟨l.toArray⟩ : ByteArray) = l := toList_mk l
theorem ext_rest (b : List UInt8) (k : Nat) : (⟨b.toArray⟩ : ByteArray).extract k b.length = (⟨(b.drop k).toArray⟩ : ByteArray) := by
  rw [ext_list, bl_mk, List.take_length]
theorem n76_two (c0 c1 : UInt8) (r : List UInt8) : n76 (⟨(c0 :: c1 :: r).toArray⟩ : ByteArray) = some (wu8 (hexTwo [c0, c1]).1, !(hexTwo [c0, c1]).2) := by
  have hsz : (⟨(c0 :: c1 :: r).toArray⟩ : ByteArray).size = r.length + 2 := by rw [size_mk]; rfl
  have e : (⟨(c0 :: c1 :: r).toArray⟩ : ByteArray).extract (Int.toNat 0) (Int.toNat 2) = (⟨[c0, c1].toArray⟩ : ByteArray) := by
    show (⟨(c0 :: c1 :: r).toArray⟩ : ByteArray).extract 0 2 = _
    rw [ext_list, bl_mk]; rfl
  have e2 : n102 ((⟨[c0, c1].toArray⟩ : ByteArray), 16, 8) = some (hexTwo [c0, c1]) := by
    show ask ((16 : Int) = 16 ∧ (8 : Int) = 8 ∧ (⟨[c0, c1].toArray⟩ : ByteArray).size = 2) (some (hexTwo (⟨[c0, c1].toArray⟩ : ByteArray).data.toList)) = _
    rw [ask_of ⟨rfl, rfl, rfl⟩]
  show (bif (decide (((⟨(c0 :: c1 :: r).toArray⟩ : ByteArray).size : Int) < 2)) then (some (0, false)) else (ask (cutOk (0 : Int) 2 (⟨(c0 :: c1 :: r).toArray⟩ : ByteArray).size) ((n102 (((⟨(c0 :: c1 :: r).toArray⟩ : ByteArray).extract (Int.toNat 0) (Int.toNat 2)), 16, 8)).bind fun y3 => (bif y3.2 then (some ((wu8 y3.1), false)) else (some ((wu8 y3.1), true)))))) = _
  rw [decide_eq_false (by rw [hsz]; omega), cond_false, ask_of ⟨by omega, by omega, by rw [hsz]; omega⟩, e, e2, Option.bind_some]
  cases (hexTwo [c0, c1]).2 <;> rfl
theorem n76_tot (l : List UInt8) : ∃ v f, n76 (⟨l.toArray⟩ : ByteArray) = some (v, f) ∧ (f = true → byteOk v ∧ 2 ≤ l.length) := by
  match l with
  | [] => exact ⟨0, false, rfl, by simp⟩
  | [a] => exact ⟨0, false, rfl, by simp⟩
  | c0 :: c1 :: r =>
    refine ⟨_, _, n76_two c0 c1 r, fun _ => ⟨?_, by simp⟩⟩
    have : wu8 (hexTwo [c0, c1]).1 = (hexTwo [c0, c1]).1 % 256 := by
      simp only [wu8, IntKind.wrap, IntKind.bits, IntKind.signed]; simp
    rw [this]
    exact ⟨by omega, by omega⟩
theorem mk_sidx {b : List UInt8} {k : Nat} {c : UInt8} (h : b[k]? = some c) : sidx (⟨b.toArray⟩ : ByteArray) (k : Int) = some c := sidx_bl (by rw [bl_mk]; exact h)
theorem is92 {c : UInt8} (h : c = 92) : ((c.toNat : Int) != 92) = false := by subst h; rfl
theorem no92 {c : UInt8} (h : c ≠ 92) : ((c.toNat : Int) != 92) = true := by
  rw [bne_iff_ne]; intro e; apply h; apply UInt8.toNat_inj.1; show c.toNat = 92; omega
theorem w1 {k : Nat} (h : k ≤ 8388610) : w64 ((k : Int) + 1) = ((k + 1 : Nat) : Int) := by rw [w64_id (by omega) (by omega)]; omega
theorem w2 {k : Nat} (h : k ≤ 8388610) : w64 ((k : Int) + 2) = ((k + 2 : Nat) : Int) := by rw [w64_id (by omega) (by omega)]; omega
theorem one_b (c : UInt8) : bcons (c.toNat : Int) ByteArray.empty = (⟨[c].toArray⟩ : ByteArray) := by
  rw [empty_mk, bcons_mk, toB]; simp
theorem L46_qd {s : ByteArray} {q v : List UInt8} (h : Qd q v) : ∀ (b a : List UInt8) (n k : Nat), b.drop k = q → b.length ≤ 8388608 → k ≤ b.length → a.length ≤ k → q.length < n →
    L46_0 n (s, (⟨b.toArray⟩ : ByteArray), (⟨a.toArray⟩ : ByteArray), (k : Int)) () = some (O46_0.x1 s (⟨(a ++ v).toArray⟩ : ByteArray), ()) := by
  induction h with
  | nil =>
    intro b a n k hd hb hk ha hn
    obtain ⟨m, rfl⟩ : ∃ m, n = m + 1 := ⟨n - 1, by omega⟩
    have : b.length ≤ k := List.drop_eq_nil_iff.1 hd
    rw [L46_step, size_mk, decide_eq_false (by omega), cond_false, ask_of rfl, List.append_nil]
  | raw c hc _ ih =>
    intro b a n k hd hb hk ha hn
    obtain ⟨m, rfl⟩ : ∃ m, n = m + 1 := ⟨n - 1, by simp at hn; omega⟩
    obtain ⟨g1, g2⟩ := drop_get hd
    have hkl : k < b.length := (List.getElem?_eq_some_iff.1 g1).1
    simp only [List.length_cons] at hn
    rw [L46_step, size_mk, decide_eq_true (by omega), cond_true, mk_sidx g1]
    simp only [Option.bind_some]
    rw [no92 hc, cond_true, ask_of (bOk (UInt8.toNat_lt _)), one_b, push (by rw [size_mk, size_mk]; simp; omega), mk_app, w1 (by omega), ih b (a ++ [c]) m (k + 1) g2 hb (by omega) (by simp; omega) (by omega), List.append_assoc]
    rfl
  | esc c hc _ ih =>
    intro b a n k hd hb hk ha hn
    obtain ⟨m, rfl⟩ : ∃ m, n = m + 1 := ⟨n - 1, by simp at hn; omega⟩
    obtain ⟨g1, g2⟩ := drop_get hd
    obtain ⟨g3, g4⟩ := drop_get g2
    have hkl : k + 1 < b.length := (List.getElem?_eq_some_iff.1 g3).1
    simp only [List.length_cons] at hn
    have n1 : ((c.toNat : Int) == 110) = false := by rcases hc with rfl | rfl <;> rfl
    have n2 : ((c.toNat : Int) == 120) = false := by rcases hc with rfl | rfl <;> rfl
    rw [L46_step, size_mk, decide_eq_true (by omega), cond_true, mk_sidx g1]
    simp only [Option.bind_some]
    rw [is92 rfl, cond_false, w1 (by omega), decide_eq_false (by omega), cond_false, mk_sidx g3]
    simp only [Option.bind_some]
    rw [n1, n2, cond_false, cond_false, ask_of (bOk (UInt8.toNat_lt _)), one_b, push (by rw [size_mk, size_mk]; simp; omega), mk_app, w1 (by omega), ih b (a ++ [c]) m (k + 1 + 1) g4 hb (by omega) (by simp; omega) (by omega), List.append_assoc]
    rfl
  | nl _ ih =>
    intro b a n k hd hb hk ha hn
    obtain ⟨m, rfl⟩ : ∃ m, n = m + 1 := ⟨n - 1, by simp at hn; omega⟩
    obtain ⟨g1, g2⟩ := drop_get hd
    obtain ⟨g3, g4⟩ := drop_get g2
    have hkl : k + 1 < b.length := (List.getElem?_eq_some_iff.1 g3).1
    simp only [List.length_cons] at hn
    rw [L46_step, size_mk, decide_eq_true (by omega), cond_true, mk_sidx g1]
    simp only [Option.bind_some]
    rw [is92 rfl, cond_false, w1 (by omega), decide_eq_false (by omega), cond_false, mk_sidx g3]
    simp only [Option.bind_some]
    rw [show (((110 : UInt8).toNat : Int) == 110) = true from rfl, cond_true, empty_mk, bcons_mk, push (by rw [size_mk, size_mk]; simp; omega), mk_app, w1 (by omega), ih b (a ++ [(10 : Int).toNat.toUInt8]) m (k + 1 + 1) g4 hb (by omega) (by simp; omega) (by omega), List.append_assoc]
    rfl
  | hex c _ ih =>
    intro b a n k hd hb hk ha hn
    obtain ⟨m, rfl⟩ : ∃ m, n = m + 1 := ⟨n - 1, by simp at hn; omega⟩
    obtain ⟨g1, g2⟩ := drop_get hd
    obtain ⟨g3, g4⟩ := drop_get g2
    obtain ⟨g5, g6⟩ := drop_get g4
    obtain ⟨g7, g8⟩ := drop_get g6
    have hkl : k + 1 + 1 + 1 < b.length := (List.getElem?_eq_some_iff.1 g7).1
    have hc : c.toNat < 256 := UInt8.toNat_lt _
    simp only [List.length_cons] at hn
    rw [L46_step, size_mk, decide_eq_true (by omega), cond_true, mk_sidx g1]
    simp only [Option.bind_some]
    rw [is92 rfl, cond_false, w1 (by omega), decide_eq_false (by omega), cond_false, mk_sidx g3]
    simp only [Option.bind_some]
    rw [show (((120 : UInt8).toNat : Int) == 110) = false from rfl, show (((120 : UInt8).toNat : Int) == 120) = true from rfl, cond_false, cond_true, w1 (by omega), ask_of (show cutOk ((k + 1 + 1 : Nat) : Int) (b.length : Int) b.length from ⟨by omega, by omega, by omega⟩), Int.toNat_natCast, Int.toNat_natCast, ext_rest, g4, n76_two, hex_fact _ hc]
    simp only [Option.bind_some, Bool.not_false, Bool.not_true, cond_false]
    rw [wu8_nat, Nat.mod_eq_of_lt hc, ask_of (bOk hc), one_b, push (by rw [size_mk, size_mk]; simp; omega), mk_app, w2 (by omega), w1 (by omega), ih b (a ++ [c]) m (k + 1 + 2 + 1) g8 hb (by omega) (by simp; omega) (by omega), List.append_assoc]
    rfl
abbrev Tot46 (s : ByteArray) (m : Nat) (p : Option (O46_0 × Unit)) : Prop := ∃ o, p = some (o, ()) ∧ ((∃ z, o = O46_0.x0 (⟨#[]⟩ : ByteArray) 24 z) ∨ ∃ v : List UInt8, o = O46_0.x1 s (⟨v.toArray⟩ : ByteArray) ∧ v.length ≤ m)
theorem L46_tot (s : ByteArray) (b : List UInt8) (hb : b.length ≤ 8388608) : ∀ (d n k : Nat) (a : List UInt8), b.length - k ≤ d → d < n → k ≤ b.length → a.length ≤ k → Tot46 s b.length (L46_0 n (s, (⟨b.toArray⟩ : ByteArray), (⟨a.toArray⟩ : ByteArray), (k : Int)) ()) := by
  intro d
  induction d with
  | zero =>
    intro n k a hd hn hk ha
    obtain ⟨m, rfl⟩ : ∃ m, n = m + 1 := ⟨n - 1, by omega⟩
    rw [L46_step, size_mk, decide_eq_false (by omega), cond_false, ask_of (by first | trivial | rfl)]
    exact ⟨_, rfl, .inr ⟨a, rfl, by omega⟩⟩
  | succ d ih =>
    intro n k a hd hn hk ha
    obtain ⟨m, rfl⟩ : ∃ m, n = m + 1 := ⟨n - 1, by omega⟩
    by_cases h : k < b.length
    · have g1 : b[k]? = some b[k] := List.getElem?_eq_getElem h
      rw [L46_step, size_mk, decide_eq_true (by omega), cond_true, mk_sidx g1]
      simp only [Option.bind_some]
      by_cases h92 : b[k] = 92
      · rw [is92 h92, cond_false, w1 (by omega)]
        by_cases h1 : k + 1 < b.length
        · have g3 : b[k + 1]? = some b[k + 1] := List.getElem?_eq_getElem h1
          rw [decide_eq_false (by omega), cond_false, mk_sidx g3]
          simp only [Option.bind_some]
          cases (((b[k + 1]).toNat : Int) == 110) with
          | true =>
            rw [cond_true, empty_mk, bcons_mk, push (by rw [size_mk, size_mk]; simp; omega), mk_app, w1 (by omega)]
            exact ih m (k + 1 + 1) _ (by omega) (by omega) (by omega) (by simp; omega)
          | false =>
            rw [cond_false]
            cases (((b[k + 1]).toNat : Int) == 120) with
            | true =>
              rw [cond_true, w1 (by omega), ask_of (show cutOk ((k + 1 + 1 : Nat) : Int) (b.length : Int) b.length from ⟨by omega, by omega, by omega⟩), Int.toNat_natCast, Int.toNat_natCast, ext_rest]
              obtain ⟨v, f, e, hf⟩ := n76_tot (b.drop (k + 1 + 1))
              rw [e]
              simp only [Option.bind_some]
              cases f with
              | false =>
                rw [Bool.not_false, cond_true, ask_of (by first | trivial | rfl)]
                exact ⟨_, rfl, .inl ⟨_, rfl⟩⟩
              | true =>
                obtain ⟨hv, h2⟩ := hf rfl
                rw [List.length_drop] at h2
                rw [Bool.not_true, cond_false, ask_of hv, empty_mk, bcons_mk, push (by rw [size_mk, size_mk]; simp; omega), mk_app, w2 (by omega), w1 (by omega)]
                exact ih m (k + 1 + 2 + 1) _ (by omega) (by omega) (by omega) (by simp; omega)
            | false =>
              rw [cond_false, ask_of (bOk (UInt8.toNat_lt _)), one_b, push (by rw [size_mk, size_mk]; simp; omega), mk_app, w1 (by omega)]
              exact ih m (k + 1 + 1) _ (by omega) (by omega) (by omega) (by simp; omega)
        · rw [decide_eq_true (by omega), cond_true, ask_of (by first | trivial | rfl)]
          exact ⟨_, rfl, .inl ⟨_, rfl⟩⟩
      · rw [no92 h92, cond_true, ask_of (bOk (UInt8.toNat_lt _)), one_b, push (by rw [size_mk, size_mk]; simp; omega), mk_app, w1 (by omega)]
        exact ih m (k + 1) _ (by omega) (by omega) (by omega) (by simp; omega)
    · rw [L46_step, size_mk, decide_eq_false (by omega), cond_false, ask_of (by first | trivial | rfl)]
      exact ⟨_, rfl, .inr ⟨a, rfl, by omega⟩⟩
/-! the reference's -/
theorem w_hex {c : UInt8} : wu8 (w64 ((w64 (16 * ((c.toNat / 16 : Nat) : Int))) + ((c.toNat % 16 : Nat) : Int))) = (c.toNat : Int) := by
  have hc : c.toNat < 256 := UInt8.toNat_lt _
  rw [w64_id (show (-9223372036854775808 : Int) ≤ 16 * ((c.toNat / 16 : Nat) : Int) by omega) (by omega), w64_id (by omega) (by omega), show 16 * ((c.toNat / 16 : Nat) : Int) + ((c.toNat % 16 : Nat) : Int) = ((c.toNat : Nat) : Int) by omega, wu8_nat, Nat.mod_eq_of_lt hc]
theorem wu8_ok (x : Int) : byteOk (wu8 x) := by
  have : wu8 x = x % 256 := by
    simp only [wu8, IntKind.wrap, IntKind.bits, IntKind.signed]; simp
  rw [this]; exact ⟨by omega, by omega⟩
theorem L47_qd {s : ByteArray} {q v : List UInt8} (h : Qd q v) : ∀ (b a : List UInt8) (n k : Nat), b.drop k = q → b.length ≤ 8388608 → k ≤ b.length → a.length ≤ k → q.length < n →
    L47_0 n (s, (⟨a.toArray⟩ : ByteArray), (⟨b.toArray⟩ : ByteArray), (k : Int)) () = some (O47_0.x1 s (⟨(a ++ v).toArray⟩ : ByteArray), ()) := by
  induction h with
  | nil =>
    intro b a n k hd hb hk ha hn
    obtain ⟨m, rfl⟩ : ∃ m, n = m + 1 := ⟨n - 1, by omega⟩
    have : b.length ≤ k := List.drop_eq_nil_iff.1 hd
    rw [L47_step, decide_eq_false (by rw [size_mk]; omega), cond_false, ask_of rfl, List.append_nil]
  | raw c hc _ ih =>
    intro b a n k hd hb hk ha hn
    obtain ⟨m, rfl⟩ : ∃ m, n = m + 1 := ⟨n - 1, by simp at hn; omega⟩
    obtain ⟨g1, g2⟩ := drop_get hd
    have hkl : k < b.length := (List.getElem?_eq_some_iff.1 g1).1
    simp only [List.length_cons] at hn
    rw [L47_step, decide_eq_true (by rw [size_mk]; omega), cond_true, mk_sidx g1]
    simp only [Option.bind_some]
    rw [no92 hc, cond_true, ask_of (bOk (UInt8.toNat_lt _)), one_b, push (by rw [size_mk, size_mk]; simp; omega), mk_app, w1 (by omega), ih b (a ++ [c]) m (k + 1) g2 hb (by omega) (by simp; omega) (by omega), List.append_assoc]
    rfl
  | @esc q' v' c hc _ ih =>
    intro b a n k hd hb hk ha hn
    obtain ⟨m, rfl⟩ : ∃ m, n = m + 1 := ⟨n - 1, by simp at hn; omega⟩
    obtain ⟨g1, g2⟩ := drop_get hd
    obtain ⟨g3, g4⟩ := drop_get g2
    have hkl : k + 1 < b.length := (List.getElem?_eq_some_iff.1 g3).1
    simp only [List.length_cons] at hn
    rw [L47_step, decide_eq_true (by rw [size_mk]; omega), cond_true, mk_sidx g1]
    simp only [Option.bind_some]
    rw [is92 rfl, cond_false, w1 (by omega), decide_eq_false (by rw [size_mk]; omega), cond_false, mk_sidx g3]
    simp only [Option.bind_some]
    have fin : (ask (byteOk (c.toNat : Int)) (ask (addBOk (⟨a.toArray⟩ : ByteArray).size (⟨a.toArray⟩ : ByteArray) (bcons (c.toNat : Int) ByteArray.empty) 1) (ask (([((⟨a.toArray⟩ : ByteArray).size + (bcons (c.toNat : Int) ByteArray.empty).size)] : List Nat) = [((⟨a.toArray⟩ : ByteArray) ++ (bcons (c.toNat : Int) ByteArray.empty)).size]) (L47_0 m (s, ((⟨a.toArray⟩ : ByteArray) ++ (bcons (c.toNat : Int) ByteArray.empty)), (⟨b.toArray⟩ : ByteArray), (w64 (((k + 1 : Nat) : Int) + 1))) ())))) = some (O47_0.x1 s (⟨(a ++ c :: v').toArray⟩ : ByteArray), ()) := by
      rw [ask_of (bOk (UInt8.toNat_lt _)), one_b, push (by rw [size_mk, size_mk]; simp; omega), mk_app, w1 (by omega), ih b (a ++ [c]) m (k + 1 + 1) g4 hb (by omega) (by simp; omega) (by omega), List.append_assoc]
      rfl
    rcases hc with rfl | rfl
    · rw [show (((34 : UInt8).toNat : Int) == 34) = true from rfl, cond_true]
      exact fin
    · rw [show (((92 : UInt8).toNat : Int) == 34) = false from rfl, show (((92 : UInt8).toNat : Int) == 92) = true from rfl, cond_false, cond_true]
      exact fin
  | nl _ ih =>
    intro b a n k hd hb hk ha hn
    obtain ⟨m, rfl⟩ : ∃ m, n = m + 1 := ⟨n - 1, by simp at hn; omega⟩
    obtain ⟨g1, g2⟩ := drop_get hd
    obtain ⟨g3, g4⟩ := drop_get g2
    have hkl : k + 1 < b.length := (List.getElem?_eq_some_iff.1 g3).1
    simp only [List.length_cons] at hn
    rw [L47_step, decide_eq_true (by rw [size_mk]; omega), cond_true, mk_sidx g1]
    simp only [Option.bind_some]
    rw [is92 rfl, cond_false, w1 (by omega), decide_eq_false (by rw [size_mk]; omega), cond_false, mk_sidx g3]
    simp only [Option.bind_some]
    rw [show (((110 : UInt8).toNat : Int) == 34) = false from rfl, show (((110 : UInt8).toNat : Int) == 92) = false from rfl, show (((110 : UInt8).toNat : Int) == 110) = true from rfl, cond_false, cond_false, cond_true, empty_mk, bcons_mk, push (by rw [size_mk, size_mk]; simp; omega), mk_app, w1 (by omega), ih b (a ++ [(10 : Int).toNat.toUInt8]) m (k + 1 + 1) g4 hb (by omega) (by simp; omega) (by omega), List.append_assoc]
    rfl
  | hex c _ ih =>
    intro b a n k hd hb hk ha hn
    obtain ⟨m, rfl⟩ : ∃ m, n = m + 1 := ⟨n - 1, by simp at hn; omega⟩
    obtain ⟨g1, g2⟩ := drop_get hd
    obtain ⟨g3, g4⟩ := drop_get g2
    obtain ⟨g5, g6⟩ := drop_get g4
    obtain ⟨g7, g8⟩ := drop_get g6
    have hkl : k + 1 + 1 + 1 < b.length := (List.getElem?_eq_some_iff.1 g7).1
    have hc : c.toNat < 256 := UInt8.toNat_lt _
    simp only [List.length_cons] at hn
    rw [L47_step, decide_eq_true (by rw [size_mk]; omega), cond_true, mk_sidx g1]
    simp only [Option.bind_some]
    rw [is92 rfl, cond_false, w1 (by omega), decide_eq_false (by rw [size_mk]; omega), cond_false, mk_sidx g3]
    simp only [Option.bind_some]
    rw [show (((120 : UInt8).toNat : Int) == 34) = false from rfl, show (((120 : UInt8).toNat : Int) == 92) = false from rfl, show (((120 : UInt8).toNat : Int) == 110) = false from rfl, show (((120 : UInt8).toNat : Int) == 120) = true from rfl, cond_false, cond_false, cond_false, cond_true, w2 (by omega), w1 (by omega), decide_eq_false (by rw [size_mk]; omega), cond_false, mk_sidx g5, mk_sidx (k := k + 1 + 2) g7]
    simp only [Option.bind_some]
    rw [n77_fact _ (by omega)]
    simp only [Option.bind_some]
    rw [n77_fact _ (by omega)]
    simp only [Option.bind_some]
    rw [decide_eq_false (show ¬ ((c.toNat / 16 : Nat) : Int) < 0 by omega), decide_eq_false (show ¬ ((c.toNat % 16 : Nat) : Int) < 0 by omega), cond_false, cond_false, w_hex, ask_of (bOk hc), one_b, push (by rw [size_mk, size_mk]; simp; omega), mk_app, w1 (by omega), ih b (a ++ [c]) m (k + 1 + 2 + 1) g8 hb (by omega) (by simp; omega) (by omega), List.append_assoc]
    rfl
abbrev Tot47 (s : ByteArray) (m : Nat) (p : Option (O47_0 × Unit)) : Prop := ∃ o, p = some (o, ()) ∧ ((∃ z, o = O47_0.x0 (⟨#[]⟩ : ByteArray) 24 z) ∨ ∃ v : List UInt8, o = O47_0.x1 s (⟨v.toArray⟩ : ByteArray) ∧ v.length ≤ m)
theorem n77_some (c : UInt8) : ∃ y, n77 (c.toNat : Int) = some y := by
  obtain ⟨h, _⟩ := n77_tot c.toNat (UInt8.toNat_lt _)
  exact Option.isSome_iff_exists.1 h
theorem L47_tot (s : ByteArray) (b : List UInt8) (hb : b.length ≤ 8388608) : ∀ (d n k : Nat) (a : List UInt8), b.length - k ≤ d → d < n → k ≤ b.length → a.length ≤ k → Tot47 s b.length (L47_0 n (s, (⟨a.toArray⟩ : ByteArray), (⟨b.toArray⟩ : ByteArray), (k : Int)) ()) := by
  intro d
  induction d with
  | zero =>
    intro n k a hd hn hk ha
    obtain ⟨m, rfl⟩ : ∃ m, n = m + 1 := ⟨n - 1, by omega⟩
    rw [L47_step, decide_eq_false (by rw [size_mk]; omega), cond_false, ask_of (by first | trivial | rfl)]
    exact ⟨_, rfl, .inr ⟨a, rfl, by omega⟩⟩
  | succ d ih =>
    intro n k a hd hn hk ha
    obtain ⟨m, rfl⟩ : ∃ m, n = m + 1 := ⟨n - 1, by omega⟩
    by_cases h : k < b.length
    · have g1 : b[k]? = some b[k] := List.getElem?_eq_getElem h
      rw [L47_step, decide_eq_true (by rw [size_mk]; omega), cond_true, mk_sidx g1]
      simp only [Option.bind_some]
      by_cases h92 : b[k] = 92
      · rw [is92 h92, cond_false, w1 (by omega)]
        by_cases h1 : k + 1 < b.length
        · have g3 : b[k + 1]? = some b[k + 1] := List.getElem?_eq_getElem h1
          have byte : Tot47 s b.length (ask (byteOk ((b[k + 1]).toNat : Int)) (ask (addBOk (⟨a.toArray⟩ : ByteArray).size (⟨a.toArray⟩ : ByteArray) (bcons ((b[k + 1]).toNat : Int) ByteArray.empty) 1) (ask (([((⟨a.toArray⟩ : ByteArray).size + (bcons ((b[k + 1]).toNat : Int) ByteArray.empty).size)] : List Nat) = [((⟨a.toArray⟩ : ByteArray) ++ (bcons ((b[k + 1]).toNat : Int) ByteArray.empty)).size]) (L47_0 m (s, ((⟨a.toArray⟩ : ByteArray) ++ (bcons ((b[k + 1]).toNat : Int) ByteArray.empty)), (⟨b.toArray⟩ : ByteArray), (w64 (((k + 1 : Nat) : Int) + 1))) ())))) := by
            rw [ask_of (bOk (UInt8.toNat_lt _)), one_b, push (by rw [size_mk, size_mk]; simp; omega), mk_app, w1 (by omega)]
            exact ih m (k + 1 + 1) _ (by omega) (by omega) (by omega) (by simp; omega)
          rw [decide_eq_false (by rw [size_mk]; omega), cond_false, mk_sidx g3]
          simp only [Option.bind_some]
          cases (((b[k + 1]).toNat : Int) == 34) with
          | true =>
            rw [cond_true]
            exact byte
          | false =>
          cases (((b[k + 1]).toNat : Int) == 92) with
          | true =>
            rw [cond_false, cond_true]
            exact byte
          | false =>
          rw [cond_false, cond_false]
          cases (((b[k + 1]).toNat : Int) == 110) with
          | true =>
            rw [cond_true, empty_mk, bcons_mk, push (by rw [size_mk, size_mk]; simp; omega), mk_app, w1 (by omega)]
            exact ih m (k + 1 + 1) _ (by omega) (by omega) (by omega) (by simp; omega)
          | false =>
            rw [cond_false]
            cases (((b[k + 1]).toNat : Int) == 120) with
            | true =>
              rw [cond_true, w2 (by omega), w1 (by omega)]
              by_cases h3 : k + 1 + 2 < b.length
              · have g5 : b[k + 1 + 1]? = some b[k + 1 + 1] := List.getElem?_eq_getElem (by omega)
                have g7 : b[k + 1 + 2]? = some b[k + 1 + 2] := List.getElem?_eq_getElem h3
                obtain ⟨y1, e1⟩ := n77_some b[k + 1 + 1]
                obtain ⟨y2, e2⟩ := n77_some b[k + 1 + 2]
                rw [decide_eq_false (by rw [size_mk]; omega), cond_false, mk_sidx g5, mk_sidx g7]
                simp only [Option.bind_some, e1, e2]
                cases (bif (decide (y1 < 0)) then true else (decide (y2 < 0))) with
                | true =>
                  rw [cond_true, ask_of (by first | trivial | rfl)]
                  exact ⟨_, rfl, .inl ⟨_, rfl⟩⟩
                | false =>
                  rw [cond_false, ask_of (wu8_ok _), empty_mk, bcons_mk, push (by rw [size_mk, size_mk]; simp; omega), mk_app, w1 (by omega)]
                  exact ih m (k + 1 + 2 + 1) _ (by omega) (by omega) (by omega) (by simp; omega)
              · rw [decide_eq_true (by rw [size_mk]; omega), cond_true, ask_of (by first | trivial | rfl)]
                exact ⟨_, rfl, .inl ⟨_, rfl⟩⟩
            | false =>
              rw [cond_false, ask_of (by first | trivial | rfl)]
              exact ⟨_, rfl, .inl ⟨_, rfl⟩⟩
        · rw [decide_eq_true (by rw [size_mk]; omega), cond_true, ask_of (by first | trivial | rfl)]
          exact ⟨_, rfl, .inl ⟨_, rfl⟩⟩
      · rw [no92 h92, cond_true, ask_of (bOk (UInt8.toNat_lt _)), one_b, push (by rw [size_mk, size_mk]; simp; omega), mk_app, w1 (by omega)]
        exact ih m (k + 1) _ (by omega) (by omega) (by omega) (by simp; omega)
    · rw [L47_step, decide_eq_false (by rw [size_mk]; omega), cond_false, ask_of (by first | trivial | rfl)]
      exact ⟨_, rfl, .inr ⟨a, rfl, by omega⟩⟩
end Ev

/- Plain law: TextQuotes. -/
set_option linter.unusedSimpArgs false
set_option linter.unusedVariables false
namespace Ev
open Go

def n46In (q : ByteArray) : Option (ByteArray × Int) := (ask (([0] : List Nat) = [ByteArray.empty.size]) ((L46_0 1000000000000 (q, (q.extract (Int.toNat 1) (Int.toNat (w64 ((q.size : Int) - 1)))), ByteArray.empty, 0) ()).bind fun p19 => match p19.1 with | .x0 z20 z21 z22 => (some (z20, z21)) | .x1 z23 z24 => ((n48 z24).bind fun y25 => (bif (!(sEq y25 z23)) then (some ((⟨#[]⟩ : ByteArray), 24)) else (some (z24, 0))))))
def n47In (q : ByteArray) : Option (ByteArray × Int) := (ask (([0] : List Nat) = [ByteArray.empty.size]) ((L47_0 1000000000000 (q, ByteArray.empty, (q.extract (Int.toNat 1) (Int.toNat (w64 ((q.size : Int) - 1)))), 0) ()).bind fun p23 => match p23.1 with | .x0 z24 z25 z26 => (some (z24, z25)) | .x1 z27 z28 => ((n49 z28).bind fun y29 => (bif (!(sEq y29 z27)) then (some ((⟨#[]⟩ : ByteArray), 24)) else (some (z28, 0))))))
def frame (q : ByteArray) (x : Option (ByteArray × Int)) : Option (ByteArray × Int) := (bif (decide ((q.size : Int) < 2)) then (some ((⟨#[]⟩ : ByteArray), 24)) else ((sidx q 0).bind fun c3 => (bif ((c3.toNat : Int) != 34) then (some ((⟨#[]⟩ : ByteArray), 24)) else ((sidx q (w64 ((q.size : Int) - 1))).bind fun c4 => (bif ((c4.toNat : Int) != 34) then (some ((⟨#[]⟩ : ByteArray), 24)) else (ask (cutOk 1 (w64 ((q.size : Int) - 1)) q.size) x))))))
theorem n46_frame (q : ByteArray) : n46 q = frame q (n46In q) := rfl
theorem n47_frame (q : ByteArray) : n47 q = frame q (n47In q) := rfl
theorem frame_or {q : ByteArray} (hq : q.size ≤ 8388608) (x : Option (ByteArray × Int)) : frame q x = some ((⟨#[]⟩ : ByteArray), 24) ∨ (2 ≤ q.size ∧ frame q x = x) := by
  unfold frame
  by_cases h : q.size < 2
  · rw [decide_eq_true (by omega), cond_true]; exact .inl rfl
  · have ew : w64 ((q.size : Int) - 1) = ((q.size - 1 : Nat) : Int) := by rw [w64_id (by omega) (by omega)]; omega
    have h0 := sidx_get (s := q) (k := 0) (by omega)
    rw [Int.natCast_zero] at h0
    rw [decide_eq_false (by omega), cond_false, h0, Option.bind_some]
    cases (((q.get! 0).toNat : Int) != 34) with
    | true => exact .inl rfl
    | false =>
      rw [cond_false, ew, sidx_get (by omega), Option.bind_some]
      cases (((q.get! (q.size - 1)).toNat : Int) != 34) with
      | true => exact .inl rfl
      | false =>
        rw [cond_false, ask_of ⟨by omega, by omega, by omega⟩]
        exact .inr ⟨by omega, rfl⟩
theorem quote_size (s : ByteArray) (hs : s.size ≤ 1048576) : (quoteB s).size ≤ 8388600 ∧ 2 ≤ (quoteB s).size := by
  have hq := qL_len (s := s) s.size 0 (by omega) (by omega)
  unfold quoteB
  rw [size_mk]
  simp only [List.length_cons, List.length_append, List.length_nil]
  omega
theorem frame_quote {s : ByteArray} (hs : s.size ≤ 1048576) (x : Option (ByteArray × Int)) : frame (quoteB s) x = x := by
  obtain ⟨h1, h2⟩ := quote_size s hs
  have hl : (quoteB s).size = (qL s (runesL s 0)).length + 2 := by
    unfold quoteB; rw [size_mk]; simp
  have ew : w64 (((quoteB s).size : Int) - 1) = (((quoteB s).size - 1 : Nat) : Int) := by rw [w64_id (by omega) (by omega)]; omega
  have e0 : sidx (quoteB s) 0 = some 34 := mk_sidx (k := 0) rfl
  have e1 : sidx (quoteB s) (((quoteB s).size - 1 : Nat) : Int) = some 34 := by
    rw [hl, show (qL s (runesL s 0)).length + 2 - 1 = (qL s (runesL s 0)).length + 1 by omega]
    refine mk_sidx ?_
    rw [List.getElem?_cons_succ, List.getElem?_append_right (Nat.le_refl _), Nat.sub_self]
    rfl
  unfold frame
  rw [decide_eq_false (by omega), cond_false, e0, Option.bind_some, show (((34 : UInt8).toNat : Int) != 34) = false from rfl, cond_false, ew, e1, Option.bind_some, show (((34 : UInt8).toNat : Int) != 34) = false from rfl, cond_false, ask_of ⟨by omega, by omega, by omega⟩]
theorem body_quote {s : ByteArray} (hs : s.size ≤ 1048576) : (quoteB s).extract (Int.toNat 1) (Int.toNat (w64 (((quoteB s).size : Int) - 1))) = (⟨(qL s (runesL s 0)).toArray⟩ : ByteArray) := by
  obtain ⟨h1, h2⟩ := quote_size s hs
  have hl : (quoteB s).size = (qL s (runesL s 0)).length + 2 := by
    unfold quoteB; rw [size_mk]; simp
  have ew : w64 (((quoteB s).size : Int) - 1) = (((quoteB s).size - 1 : Nat) : Int) := by rw [w64_id (by omega) (by omega)]; omega
  rw [ew, Int.toNat_natCast, hl, show (qL s (runesL s 0)).length + 2 - 1 = (qL s (runesL s 0)).length + 1 by omega, ext_list]
  show (⟨(((bl (⟨((34 : UInt8) :: (qL s (runesL s 0) ++ [34])).toArray⟩ : ByteArray)).take ((qL s (runesL s 0)).length + 1)).drop 1).toArray⟩ : ByteArray) = _
  rw [bl_mk, List.take_succ_cons, List.drop_succ_cons, List.drop_zero, List.take_left]
theorem n46_quote {s : ByteArray} (hs : s.size ≤ 1048576) : n46 (quoteB s) = some (s, 0) := by
  have hq := qL_len (s := s) s.size 0 (by omega) (by omega)
  have hqd := qd_list (s := s) s.size 0 (by omega) (by omega)
  rw [List.drop_zero] at hqd
  have hL := L46_qd (s := quoteB s) hqd (qL s (runesL s 0)) [] 1000000000000 0 rfl (by omega) (by omega) (by simp) (by omega)
  rw [n46_frame, frame_quote hs, n46In, body_quote hs, ask_of (show ([0] : List Nat) = [ByteArray.empty.size] from rfl), empty_mk, ← Int.natCast_zero, hL, List.nil_append, ba_mk]
  show ((n48 s).bind fun y25 => (bif (!(sEq y25 (quoteB s))) then (some ((⟨#[]⟩ : ByteArray), 24)) else (some (s, ((0 : Nat) : Int))))) = _
  rw [n48_eq hs, Option.bind_some, (sEq_iff _ _).2 rfl]
  rfl
theorem n47_quote {s : ByteArray} (hs : s.size ≤ 1048576) : n47 (quoteB s) = some (s, 0) := by
  have hq := qL_len (s := s) s.size 0 (by omega) (by omega)
  have hqd := qd_list (s := s) s.size 0 (by omega) (by omega)
  rw [List.drop_zero] at hqd
  have hL := L47_qd (s := quoteB s) hqd (qL s (runesL s 0)) [] 1000000000000 0 rfl (by omega) (by omega) (by simp) (by omega)
  rw [n47_frame, frame_quote hs, n47In, body_quote hs, ask_of (show ([0] : List Nat) = [ByteArray.empty.size] from rfl), empty_mk, ← Int.natCast_zero, hL, List.nil_append, ba_mk]
  show ((n49 s).bind fun y25 => (bif (!(sEq y25 (quoteB s))) then (some ((⟨#[]⟩ : ByteArray), 24)) else (some (s, ((0 : Nat) : Int))))) = _
  rw [n49_eq hs, Option.bind_some, (sEq_iff _ _).2 rfl]
  rfl
abbrev OrQ (q : ByteArray) (x : Option (ByteArray × Int)) : Prop := x = some ((⟨#[]⟩ : ByteArray), 24) ∨ ∃ v : ByteArray, v.size ≤ 1048576 ∧ quoteB v = q ∧ x = some (v, 0)
theorem body_list {q : ByteArray} (h2 : 2 ≤ q.size) (hq : q.size ≤ 1048576) : ∃ b : List UInt8, q.extract (Int.toNat 1) (Int.toNat (w64 ((q.size : Int) - 1))) = (⟨b.toArray⟩ : ByteArray) ∧ b.length ≤ 1048576 := by
  refine ⟨_, ext_list _ _ _, ?_⟩
  have hsz : q.size = (bl q).length := size_list q
  rw [List.length_drop, List.length_take]; omega
theorem n46_or {q : ByteArray} (hq : q.size ≤ 1048576) : OrQ q (n46 q) := by
  rw [n46_frame]
  rcases frame_or (q := q) (by omega) (n46In q) with h | ⟨h2, h⟩
  · exact .inl h
  · obtain ⟨b, hb, hl⟩ := body_list h2 hq
    rw [h, n46In, hb, ask_of (show ([0] : List Nat) = [ByteArray.empty.size] from rfl), empty_mk]
    obtain ⟨o, e, ho⟩ := L46_tot q b (by omega) b.length 1000000000000 0 [] (by omega) (by omega) (by omega) (by simp)
    rw [Int.natCast_zero] at e
    rw [e, Option.bind_some]
    rcases ho with ⟨z, rfl⟩ | ⟨v, rfl, hv⟩
    · exact .inl rfl
    · have hvs : (⟨v.toArray⟩ : ByteArray).size ≤ 1048576 := by rw [size_mk]; omega
      show OrQ q ((n48 (⟨v.toArray⟩ : ByteArray)).bind fun y25 => (bif (!(sEq y25 q)) then (some ((⟨#[]⟩ : ByteArray), 24)) else (some ((⟨v.toArray⟩ : ByteArray), 0))))
      rw [n48_eq hvs, Option.bind_some]
      cases hs : sEq (quoteB (⟨v.toArray⟩ : ByteArray)) q with
      | false => exact .inl rfl
      | true => exact .inr ⟨_, hvs, (sEq_iff _ _).1 hs, rfl⟩
theorem n47_or {q : ByteArray} (hq : q.size ≤ 1048576) : OrQ q (n47 q) := by
  rw [n47_frame]
  rcases frame_or (q := q) (by omega) (n47In q) with h | ⟨h2, h⟩
  · exact .inl h
  · obtain ⟨b, hb, hl⟩ := body_list h2 hq
    rw [h, n47In, hb, ask_of (show ([0] : List Nat) = [ByteArray.empty.size] from rfl), empty_mk]
    obtain ⟨o, e, ho⟩ := L47_tot q b (by omega) b.length 1000000000000 0 [] (by omega) (by omega) (by omega) (by simp)
    rw [Int.natCast_zero] at e
    rw [e, Option.bind_some]
    rcases ho with ⟨z, rfl⟩ | ⟨v, rfl, hv⟩
    · exact .inl rfl
    · have hvs : (⟨v.toArray⟩ : ByteArray).size ≤ 1048576 := by rw [size_mk]; omega
      show OrQ q ((n49 (⟨v.toArray⟩ : ByteArray)).bind fun y25 => (bif (!(sEq y25 q)) then (some ((⟨#[]⟩ : ByteArray), 24)) else (some ((⟨v.toArray⟩ : ByteArray), 0))))
      rw [n49_eq hvs, Option.bind_some]
      cases hs : sEq (quoteB (⟨v.toArray⟩ : ByteArray)) q with
      | false => exact .inl rfl
      | true => exact .inr ⟨_, hvs, (sEq_iff _ _).1 hs, rfl⟩
theorem unquote_both {q : ByteArray} (hq : q.size ≤ 1048576) : (n46 q = some ((⟨#[]⟩ : ByteArray), 24) ∧ n47 q = some ((⟨#[]⟩ : ByteArray), 24)) ∨ ∃ v : ByteArray, v.size ≤ 1048576 ∧ quoteB v = q ∧ n46 q = some (v, 0) ∧ n47 q = some (v, 0) := by
  rcases n46_or hq with h | ⟨v, h1, h2, h3⟩
  · rcases n47_or hq with h' | ⟨v, h1, h2, h3⟩
    · exact .inl ⟨h, h'⟩
    · have := n46_quote h1
      rw [h2] at this
      exact .inr ⟨v, h1, h2, this, h3⟩
  · have := n47_quote h1
    rw [h2] at this
    exact .inr ⟨v, h1, h2, h3, this⟩
theorem n39_eq (x : Int) : n39 x = some x := rfl
theorem plain13 (a0 a1 : ByteArray) (h0 : a0.size ≤ 1048576) (h1 : a1.size ≤ 1048576) : n13 (a0, a1) = some true := by
  show ((n46 a1).bind fun y3 => ((n47 a1).bind fun y4 => ((n48 a0).bind fun y5 => ((n46 y5).bind fun y6 => (bif (sEq y3.1 y4.1) then ((n39 y3.2).bind fun y7 => (bif (y7 == y4.2) then ((n49 a0).bind fun y8 => (bif (bif (sEq y5 y8) then (sEq y6.1 a0) else false) then ((n39 y6.2).bind fun y9 => (bif (y9 == 0) then ((n39 y3.2).bind fun y10 => (bif (y10 != 0) then ((n32 ()).bind fun y11 => (some y11)) else ((n48 y3.1).bind fun y12 => (bif (sEq y12 a1) then ((n32 ()).bind fun y13 => (some y13)) else (some false))))) else (some false))) else (some false))) else (some false))) else (some false)))))) = _
  have q0 := n46_quote h0
  rcases unquote_both h1 with ⟨e1, e2⟩ | ⟨v, hv, hq, e1, e2⟩
  · rw [e1, e2, Option.bind_some, Option.bind_some, n48_eq h0, Option.bind_some, q0, Option.bind_some, n49_eq h0]
    simp only [n39_eq, Option.bind_some, (sEq_iff _ _).2 rfl, cond_true, beq_self_eq_true, alive_true]
    rfl
  · rw [e1, e2, Option.bind_some, Option.bind_some, n48_eq h0, Option.bind_some, q0, Option.bind_some, n49_eq h0]
    simp only [n39_eq, Option.bind_some, (sEq_iff _ _).2 rfl, cond_true, beq_self_eq_true, alive_true, bne_self_eq_false, cond_false, n48_eq hv, hq]
end Ev
