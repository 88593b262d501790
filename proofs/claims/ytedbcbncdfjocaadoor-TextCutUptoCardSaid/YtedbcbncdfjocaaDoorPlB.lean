/- Plain laws: decimals. -/
import Derived.Test.YtedbcbncdfjocaaDoorPlA
namespace Ev
open Go
theorem wu64_id {n : Int} (h0 : 0 ≤ n) (h1 : n < 18446744073709551616) : wu64 n = n := by
  simp only [wu64, IntKind.wrap, IntKind.signed, IntKind.bits]
  simp
  omega
theorem wu8_id {n : Int} (h0 : 0 ≤ n) (h1 : n < 256) : wu8 n = n := by
  simp only [wu8, IntKind.wrap, IntKind.signed, IntKind.bits]
  simp
  omega
theorem catOk_of {a b : ByteArray} (h : a.size + b.size ≤ 9223372036854775807) : catOk a b := Nat.ble_eq_true_of_le h
theorem ask_of {p : Prop} [Decidable p] {β : Type} {x : Option β} (h : p) : ask p x = x := if_pos h
theorem nDigits_le : ∀ (k u : Nat), 1 ≤ k → u < 10 ^ k → Lib.nDigits u ≤ k
  | 0, u, h, _ => by omega
  | k + 1, u, _, h => by
    rw [Lib.nDigits]
    split
    · omega
    · have hk : 1 ≤ k := by
        rcases Nat.eq_zero_or_pos k with rfl | hk
        · simp at h; omega
        · exact hk
      have := nDigits_le k (u / 10) hk (by rw [Nat.pow_succ] at h; omega)
      omega
/-- The reference's digits of a number. -/
theorem digits_eq : ∀ (k u : Nat), 1 ≤ k → k ≤ 64 → u < 10 ^ k → u < 18446744073709551616 → n75 k (u : Int) = some ⟨(Lib.decDigits u).toArray⟩
  | 0, u, h, _, _, _ => by omega
  | k + 1, u, _, hk64, h, h64 => by
    rw [n75]
    by_cases hu : u < 10
    · rw [decide_eq_true (by omega : (u : Int) < 10), cond_true]
      have e1 : wu8 (wu64 (48 + (u : Int))) = 48 + u := by rw [wu64_id (by omega) (by omega), wu8_id (by omega) (by omega)]
      rw [e1, ask_of (by unfold byteOk; omega), Lib.decDigits_one hu]
      congr 1
    · rw [decide_eq_false (by omega : ¬ (u : Int) < 10), cond_false]
      have hk : 1 ≤ k := by
        rcases Nat.eq_zero_or_pos k with rfl | hk
        · simp at h; omega
        · exact hk
      have hpow : 10 ≤ 10 ^ k := by
        obtain ⟨m, rfl⟩ : ∃ m, k = m + 1 := ⟨k - 1, by omega⟩
        rw [Nat.pow_succ]
        have := Nat.pow_pos (n := m) (show 0 < 10 by omega)
        omega
      have h10 : u / 10 < 10 ^ k := by rw [Nat.pow_succ] at h; omega
      have e1 : wu64 ((u : Int).tdiv 10) = ((u / 10 : Nat) : Int) := by
        have : (u : Int).tdiv 10 = ((u / 10 : Nat) : Int) := by rw [Int.tdiv_eq_ediv_of_nonneg (by omega)]; omega
        rw [this, wu64_id (by omega) (by omega)]
      have e2 : (u : Int).tmod 10 = ((u % 10 : Nat) : Int) := by rw [Int.tmod_eq_emod_of_nonneg (by omega)]; omega
      rw [e1, e2, digits_eq k (u / 10) hk (by omega) h10 (by omega), Option.bind_some, digits_eq k (u % 10) hk (by omega) (by omega) (by omega), Option.bind_some]
      have s1 := Lib.decDigits_length (u / 10)
      have s2 := nDigits_le k (u / 10) hk h10
      have s3 := Lib.decDigits_length (u % 10)
      have s4 := nDigits_le k (u % 10) hk (by omega)
      rw [ask_of (catOk_of (by simp only [ByteArray.size, List.size_toArray]; omega))]
      conv => rhs; rw [Lib.decDigits, dif_neg hu]
      rw [Lib.decDigits_one (show u % 10 < 10 by omega)]
      congr 1
      try (apply ByteArray.ext; simp)
theorem w64_id {n : Int} (h0 : -9223372036854775808 ≤ n) (h1 : n ≤ 9223372036854775807) : w64 n = n := by
  simp only [w64, IntKind.wrap, IntKind.signed, IntKind.bits]
  simp
  omega
theorem digits64 {u : Nat} (h : u < 18446744073709551616) : n75 64 (u : Int) = some ⟨(Lib.decDigits u).toArray⟩ :=
  digits_eq 64 u (by omega) (Nat.le_refl _) (Nat.lt_of_lt_of_le h (by decide)) h
/-- The program's Decimal of a number, and the reference's. -/
theorem decimal_prog {n : Int} (h0 : -9223372036854775808 ≤ n) (h1 : n ≤ 9223372036854775807) : n44 n = some ⟨(Lib.itoa n).toArray⟩ := by
  have : (10 : Int) = 10 ∧ i64Ok n := ⟨rfl, Nat.ble_eq_true_of_le (by omega), Nat.ble_eq_true_of_le (by omega)⟩
  show (ask ((10 : Int) = 10 ∧ i64Ok n) (some (⟨(Lib.itoa n).toArray⟩ : ByteArray))).bind (fun y => some y) = _
  rw [ask_of this, Option.bind_some]
theorem decimal_ref {n : Int} (h0 : -9223372036854775808 ≤ n) (h1 : n ≤ 9223372036854775807) : n45 n = some ⟨(Lib.itoa n).toArray⟩ := by
  simp only [n45]
  by_cases hn : n < 0
  · rw [decide_eq_true hn, cond_true, w64_id (n := n + 1) (by omega) (by omega), w64_id (n := 0 - (n + 1)) (by omega) (by omega), wu64_id (n := 0 - (n + 1)) (by omega) (by omega), wu64_id (by omega) (by omega)]
    have e : 0 - (n + 1) + 1 = ((n.natAbs : Nat) : Int) := by omega
    have hb : n.natAbs < 18446744073709551616 := by omega
    rw [e, digits64 hb, Option.bind_some]
    have s1 := Lib.decDigits_length n.natAbs
    have s2 := nDigits_le 20 n.natAbs (by omega) (by omega)
    rw [ask_of (catOk_of (by simp only [ByteArray.size, List.size_toArray]; simp; omega))]
    unfold Lib.itoa
    rw [if_pos hn]
    congr 1
    try (apply ByteArray.ext; simp)
  · rw [decide_eq_false hn, cond_false, wu64_id (by omega) (by omega)]
    have e : n = ((n.toNat : Nat) : Int) := by omega
    rw [e, digits64 (by omega), Option.bind_some, ← e]
    unfold Lib.itoa
    rw [if_neg hn]
end Ev
