/- What functions of the program compute, as plain Lean functions, each with its proof by a proved reader; plain laws about them (PlzT). -/
import Derived.Test.YtknlopaheagepaaGreatDoorPlzO
import Derived.Test.YtknlopaheagepaaGreatDoorPlzArg
set_option linter.unusedSimpArgs false
set_option linter.unusedVariables false
namespace Ev
open Go
theorem nDigits_le : ∀ (k u : Nat), 1 ≤ k → u < 10 ^ k → Lib.nDigits u ≤ k
  | 0, u, h, _ => by omega
  | k + 1, u, _, h => by
    rw [Lib.nDigits]
    split
    · omega
    · have hk : 1 ≤ k := by
        rcases Nat.eq_zero_or_pos k with rfl | hk
        · simp at h; omega
        · exact hk
      have := nDigits_le k (u / 10) hk (by rw [Nat.pow_succ] at h; omega)
      omega
theorem digits_eq : ∀ (k u : Nat), 1 ≤ k → k ≤ 64 → u < 10 ^ k → u < 18446744073709551616 → n119 k (u : Int) = some ⟨(Lib.decDigits u).toArray⟩
  | 0, u, h, _, _, _ => by omega
  | k + 1, u, _, hk64, h, h64 => by
    rw [n119]
    by_cases hu : u < 10
    · rw [decide_eq_true (by omega : (u : Int) < 10), cond_true]
      have e1 : wu8 (wu64 (48 + (u : Int))) = 48 + u := by rw [wu64_id (by omega) (by omega), wu8_id (by omega) (by omega)]
      rw [e1, ask_of (by unfold byteOk; omega), Lib.decDigits_one hu]
      congr 1
    · rw [decide_eq_false (by omega : ¬ (u : Int) < 10), cond_false]
      have hk : 1 ≤ k := by
        rcases Nat.eq_zero_or_pos k with rfl | hk
        · simp at h; omega
        · exact hk
      have hpow : 10 ≤ 10 ^ k := by
        obtain ⟨m, rfl⟩ : ∃ m, k = m + 1 := ⟨k - 1, by omega⟩
        rw [Nat.pow_succ]
        have := Nat.pow_pos (n := m) (show 0 < 10 by omega)
        omega
      have h10 : u / 10 < 10 ^ k := by rw [Nat.pow_succ] at h; omega
      have e1 : wu64 ((u : Int).tdiv 10) = ((u / 10 : Nat) : Int) := by
        have : (u : Int).tdiv 10 = ((u / 10 : Nat) : Int) := by rw [Int.tdiv_eq_ediv_of_nonneg (by omega)]; omega
        rw [this, wu64_id (by omega) (by omega)]
      have e2 : (u : Int).tmod 10 = ((u % 10 : Nat) : Int) := by rw [Int.tmod_eq_emod_of_nonneg (by omega)]; omega
      rw [e1, e2, digits_eq k (u / 10) hk (by omega) h10 (by omega), Option.bind_some, digits_eq k (u % 10) hk (by omega) (by omega) (by omega), Option.bind_some]
      have s1 := Lib.decDigits_length (u / 10)
      have s2 := nDigits_le k (u / 10) hk h10
      have s3 := Lib.decDigits_length (u % 10)
      have s4 := nDigits_le k (u % 10) hk (by omega)
      rw [ask_of (catOk_of (by simp only [ByteArray.size, List.size_toArray]; omega))]
      conv => rhs; rw [Lib.decDigits, dif_neg hu]
      rw [Lib.decDigits_one (show u % 10 < 10 by omega)]
      congr 1
      try (apply ByteArray.ext; simp)
theorem digits64 {u : Nat} (h : u < 18446744073709551616) : n119 64 (u : Int) = some ⟨(Lib.decDigits u).toArray⟩ :=
  digits_eq 64 u (by omega) (Nat.le_refl _) (Nat.lt_of_lt_of_le h (by decide)) h
theorem decimal_prog {n : Int} (h0 : -9223372036854775808 ≤ n) (h1 : n ≤ 9223372036854775807) : n97 n = some ⟨(Lib.itoa n).toArray⟩ := by
  have : (10 : Int) = 10 ∧ i64Ok n := ⟨rfl, Nat.ble_eq_true_of_le (by omega), Nat.ble_eq_true_of_le (by omega)⟩
  show (ask ((10 : Int) = 10 ∧ i64Ok n) (some (⟨(Lib.itoa n).toArray⟩ : ByteArray))).bind (fun y => some y) = _
  rw [ask_of this, Option.bind_some]
theorem decimal_ref {n : Int} (h0 : -9223372036854775808 ≤ n) (h1 : n ≤ 9223372036854775807) : n99 n = some ⟨(Lib.itoa n).toArray⟩ := by
  simp only [n99]
  by_cases hn : n < 0
  · rw [decide_eq_true hn, cond_true, w64_id (n := n + 1) (by omega) (by omega), w64_id (n := 0 - (n + 1)) (by omega) (by omega), wu64_id (n := 0 - (n + 1)) (by omega) (by omega), wu64_id (by omega) (by omega)]
    have e : 0 - (n + 1) + 1 = ((n.natAbs : Nat) : Int) := by omega
    have hb : n.natAbs < 18446744073709551616 := by omega
    rw [e, digits64 hb, Option.bind_some]
    have s1 := Lib.decDigits_length n.natAbs
    have s2 := nDigits_le 20 n.natAbs (by omega) (by omega)
    rw [ask_of (catOk_of (by simp only [ByteArray.size, List.size_toArray]; simp; omega))]
    unfold Lib.itoa
    rw [if_pos hn]
    congr 1
    try (apply ByteArray.ext; simp)
  · rw [decide_eq_false hn, cond_false, wu64_id (by omega) (by omega)]
    have e : n = ((n.toNat : Nat) : Int) := by omega
    rw [e, digits64 (by omega), Option.bind_some, ← e]
    unfold Lib.itoa
    rw [if_neg hn]
theorem itoa_len {n : Int} (h0 : -9223372036854775808 ≤ n) (h1 : n ≤ 9223372036854775807) : 1 ≤ (Lib.itoa n).length ∧ (Lib.itoa n).length ≤ 21 := by
  have s1 := Lib.decDigits_length n.natAbs
  have s2 := nDigits_le 20 n.natAbs (by omega) (by omega)
  have s3 := Lib.decDigits_length n.toNat
  have s4 := nDigits_le 20 n.toNat (by omega) (by omega)
  have p : ∀ u, 1 ≤ Lib.nDigits u := fun u => by rw [Lib.nDigits]; split <;> omega
  have p1 := p n.natAbs
  have p2 := p n.toNat
  unfold Lib.itoa
  split
  · simp only [List.length_cons]; omega
  · omega
def dec (n : Int) : ByteArray := ⟨(Lib.itoa n).toArray⟩
theorem dec_size {n : Int} (h0 : -9223372036854775808 ≤ n) (h1 : n ≤ 9223372036854775807) : 1 ≤ (dec n).size ∧ (dec n).size ≤ 21 := itoa_len h0 h1
abbrev tTrue : ByteArray := ⟨#[116, 114, 117, 101]⟩
abbrev tFalse : ByteArray := ⟨#[102, 97, 108, 115, 101]⟩
abbrev tSep : ByteArray := ⟨#[44, 32]⟩
def mk0 (k : Int) : ByteArray := bif (k == 5) then ⟨#[40]⟩ else bif (k == 6) then ⟨#[91]⟩ else ⟨#[123]⟩
def mk1 (k : Int) : ByteArray := bif (k == 5) then ⟨#[41]⟩ else bif (k == 6) then ⟨#[93]⟩ else ⟨#[125]⟩
def comma (k : Int) (n : Nat) : ByteArray := bif (bif (k == 5) then ((n : Int) == 1) else false) then ⟨#[44]⟩ else noT
mutual
def V.txt : V → ByteArray
  | .mk k i m t l => bif (k == 1) then (bif (i == 1) then tTrue else tFalse) else (bif (k == 2) then dec i else (bif (k == 3) then ((dec i ++ (bif decide (m ≥ 0) then (⟨#[43]⟩ : ByteArray) else noT)) ++ dec m) ++ (⟨#[105]⟩ : ByteArray) else (bif (k == 4) then t else (mk0 k ++ V.txtL true l) ++ (comma k l.length ++ mk1 k))))
def V.txtL (first : Bool) : List V → ByteArray
  | [] => noT
  | v :: l => ((bif first then noT else tSep) ++ v.txt) ++ V.txtL false l
end
theorem app_assoc (a b c : ByteArray) : (a ++ b) ++ c = a ++ (b ++ c) := by apply ByteArray.ext; simp
theorem app_size (a b : ByteArray) : (a ++ b).size = a.size + b.size := by simp
theorem app_no (a : ByteArray) : a ++ noT = a := by apply ByteArray.ext; simp
theorem no_app (a : ByteArray) : noT ++ a = a := by apply ByteArray.ext; simp
mutual
theorem V.txt_size : ∀ v : V, v.ok → v.txt.size + 2 ≤ 64 * v.big
  | .mk k i m t l, h => by
    rw [V.ok] at h
    obtain ⟨_, ⟨a1, a2⟩, ⟨b1, b2⟩, hl⟩ := h
    have h1 := dec_size a1 a2
    have h2 := dec_size b1 b2
    have h3 := V.txtL_size true l hl
    rw [V.txt, V.big]
    cases (k == 1) with
    | true => cases (i == 1) <;> simp only [cond_true, cond_false] <;> show _ ≤ _ <;> (first | (show 4 + 2 ≤ _; omega) | (show 5 + 2 ≤ _; omega))
    | false =>
      cases (k == 2) with
      | true => simp only [cond_true, cond_false]; omega
      | false =>
        cases (k == 3) with
        | true =>
          simp only [cond_true, cond_false, app_size]
          have : (bif decide (m ≥ 0) then (⟨#[43]⟩ : ByteArray) else noT).size ≤ 1 := by cases decide (m ≥ 0) <;> (first | (show 0 ≤ 1; omega) | (show 1 ≤ 1; omega))
          have : (⟨#[105]⟩ : ByteArray).size = 1 := rfl
          omega
        | false =>
          cases (k == 4) with
          | true => simp only [cond_true, cond_false]; omega
          | false =>
            simp only [cond_false, app_size]
            have q1 : (mk0 k).size = 1 := by unfold mk0; cases (k == 5) <;> cases (k == 6) <;> rfl
            have q2 : (mk1 k).size = 1 := by unfold mk1; cases (k == 5) <;> cases (k == 6) <;> rfl
            have q3 : (comma k l.length).size ≤ 1 := by unfold comma; cases (bif (k == 5) then ((l.length : Int) == 1) else false) <;> (first | (show 0 ≤ 1; omega) | (show 1 ≤ 1; omega))
            omega
theorem V.txtL_size : ∀ (b : Bool) (l : List V), V.okL l → (V.txtL b l).size ≤ 64 * V.bigL l
  | b, [], _ => by rw [V.txtL]; show 0 ≤ _; omega
  | b, v :: l, h => by
    rw [V.okL] at h
    have h1 := V.txt_size v h.1
    have h2 := V.txtL_size false l h.2
    rw [V.txtL, V.bigL, app_size, app_size]
    have : (bif b then noT else tSep).size ≤ 2 := by cases b <;> (first | (show 0 ≤ 2; omega) | (show 2 ≤ 2; omega))
    omega
end
theorem addB {n : Nat} {a b : ByteArray} (hn : n = a.size) (h : a.size + b.size ≤ 1099511627776) : addBOk n a b 1 := ⟨hn, by unfold maxBytes; omega⟩
end Ev
