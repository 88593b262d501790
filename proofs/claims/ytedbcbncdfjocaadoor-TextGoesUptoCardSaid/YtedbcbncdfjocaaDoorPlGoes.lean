/- Plain law: TextGoes. -/
import Derived.Test.YtedbcbncdfjocaaDoorPlSpots
import Derived.Lib.MapLaws
set_option linter.unusedSimpArgs false
set_option linter.unusedVariables false
namespace Ev
open Go

def encN (c : Nat) : ByteArray := if c < 128 then { data := #[UInt8.ofNat c] } else if c < 2048 then { data := #[UInt8.ofNat (192 + c / 64), UInt8.ofNat (128 + c % 64)] } else if c < 65536 then { data := #[UInt8.ofNat (224 + c / 4096), UInt8.ofNat (128 + c / 64 % 64), UInt8.ofNat (128 + c % 64)] } else { data := #[UInt8.ofNat (240 + c / 262144), UInt8.ofNat (128 + c / 4096 % 64), UInt8.ofNat (128 + c / 64 % 64), UInt8.ofNat (128 + c % 64)] }
theorem encU (r : Int) : Utf8.encode r = encN (if Utf8.valid r = true then r.toNat else Utf8.runeError) := rfl
theorem enc_eq (r : Nat) (h : r ≤ 1114111) (h' : r < 55296 ∨ 57343 < r) : (Utf8.encode (r : Int)).data.toList = Lib.encodeRune (r : Int) := by
  have hv : Utf8.valid (r : Int) = true := by simp only [Utf8.valid]; simp; omega
  unfold Lib.encodeRune Lib.encodeRuneZ
  rw [encU, hv, if_pos rfl, Int.toNat_natCast]
  unfold encN
  have c1 : ∀ {α : Type} (x y : α), ¬ r < 128 → (if 0 ≤ (r : Int) ∧ (r : Int) ≤ 127 then x else y) = y := fun x y h => if_neg (by omega)
  have c2 : ∀ {α : Type} (x y : α), ¬ r < 2048 → (if 128 ≤ (r : Int) ∧ (r : Int) ≤ 2047 then x else y) = y := fun x y h => if_neg (by omega)
  have c3 : ∀ {α : Type} (x y : α), ¬ r < 65536 → (if (2048 ≤ (r : Int) ∧ (r : Int) < 55296) ∨ (57343 < (r : Int) ∧ (r : Int) ≤ 65535) then x else y) = y := fun x y h => if_neg (by omega)
  by_cases h1 : r < 128
  · rw [if_pos h1, if_pos (show 0 ≤ (r : Int) ∧ (r : Int) ≤ 127 by omega)]; simp
  · rw [if_neg h1, c1 _ _ h1]
    by_cases h2 : r < 2048
    · rw [if_pos h2, if_pos (show 128 ≤ (r : Int) ∧ (r : Int) ≤ 2047 by omega)]
      simp only [List.map_cons, List.map_nil]
      simp only [show ((192 : Int) + (r : Int) / 64).toNat = 192 + r / 64 by omega, show ((128 : Int) + (r : Int) % 64).toNat = 128 + r % 64 by omega, Nat.toUInt8, List.toList_toArray]
    · rw [if_neg h2, c2 _ _ h2]
      by_cases h3 : r < 65536
      · rw [if_pos h3, if_pos (show (2048 ≤ (r : Int) ∧ (r : Int) < 55296) ∨ (57343 < (r : Int) ∧ (r : Int) ≤ 65535) by omega)]
        simp only [List.map_cons, List.map_nil]
        simp only [show ((224 : Int) + (r : Int) / 4096).toNat = 224 + r / 4096 by omega, show ((128 : Int) + (r : Int) / 64 % 64).toNat = 128 + r / 64 % 64 by omega, show ((128 : Int) + (r : Int) % 64).toNat = 128 + r % 64 by omega, Nat.toUInt8, List.toList_toArray]
      · rw [if_neg h3, c3 _ _ h3, if_pos (show 65536 ≤ (r : Int) ∧ (r : Int) ≤ 1114111 by omega)]
        simp only [List.map_cons, List.map_nil]
        simp only [show ((240 : Int) + (r : Int) / 262144).toNat = 240 + r / 262144 by omega, show ((128 : Int) + (r : Int) / 4096 % 64).toNat = 128 + r / 4096 % 64 by omega, show ((128 : Int) + (r : Int) / 64 % 64).toNat = 128 + r / 64 % 64 by omega, show ((128 : Int) + (r : Int) % 64).toNat = 128 + r % 64 by omega, Nat.toUInt8, List.toList_toArray]
theorem rn_valid {s : ByteArray} {i : Nat} : (Utf8.decode s i).1 ≤ 1114111 ∧ ((Utf8.decode s i).1 < 55296 ∨ 57343 < (Utf8.decode s i).1) := by
  rw [← Lib.decodeL_drop, Lib.decodeL_N]
  have k0 := ((s.data.toList.drop i).getD 0 0).toNat_lt
  have k1 := ((s.data.toList.drop i).getD 1 0).toNat_lt
  have k2 := ((s.data.toList.drop i).getD 2 0).toNat_lt
  have k3 := ((s.data.toList.drop i).getD 3 0).toNat_lt
  rcases Lib.decodeN_shape (s.data.toList.drop i).length ((s.data.toList.drop i).getD 0 0).toNat ((s.data.toList.drop i).getD 1 0).toNat ((s.data.toList.drop i).getD 2 0).toNat ((s.data.toList.drop i).getD 3 0).toNat with h | h | h | h | h
  · rw [h.2]; exact ⟨by simp only; omega, by simp only; omega⟩
  · obtain ⟨a1, a2, a3, a4, e⟩ := h
    rw [e]; exact ⟨by simp only; omega, by simp only; omega⟩
  · obtain ⟨a1, a2, a3, a4, a5, a6, e⟩ := h
    rw [e]; exact ⟨by simp only; omega, by simp only; omega⟩
  · obtain ⟨a1, a2, a3, a4, a5, a6, a7, e⟩ := h
    rw [e]; exact ⟨by simp only; omega, by simp only; omega⟩
  · rw [h]; exact ⟨by simp, by simp⟩
theorem enc_rn {s : ByteArray} {i : Nat} (hi : i < s.size) (h : 0 ≤ rn s i) : Utf8.encode (rn s i) = s.extract i (i + wd s i) := by
  have hv : ¬ (Utf8.decode s i = (65533, 1)) := by
    intro e
    unfold rn at h
    rw [if_pos e] at h
    omega
  have hr : rn s i = ((Utf8.decode s i).1 : Int) := by
    unfold rn; rw [if_neg hv]
  have hne : s.data.toList.drop i ≠ [] := by
    have : (s.data.toList.drop i).length = s.size - i := by rw [List.length_drop, ← size_list]
    intro e
    rw [e] at this
    simp at this
    omega
  have e := Lib.encode_decode (s.data.toList.drop i) hne (by rw [Lib.decodeL_drop]; exact fun c => hv (Prod.ext c.1 c.2))
  rw [Lib.decodeL_drop] at e
  have hl : (Utf8.encode (rn s i)).data.toList = (s.extract i (i + wd s i)).data.toList := by
    rw [hr, enc_eq _ rn_valid.1 rn_valid.2, e]
    simp [wd]
  apply ByteArray.ext
  exact Array.toList_inj.1 hl
theorem L16_step (v4 : ByteArray) (v5 v6 : List D) (k : Nat) (v8 v9 v10 : Int) (n : Nat) : L16_0 (n + 1) (v4, v5, v6, (k : Int), v8, v9, v10) () = (bif (decide ((k : Int) < ((v5.length : Nat) : Int))) then ((lidx v5 (k : Int)).bind fun d11 => ask (d11.cells.length = 3) ((cellAt 0 d11).bind fun x12 => (asInt .i64 x12).bind fun x13 => ((cellAt 1 d11).bind fun x14 => (asInt .i64 x14).bind fun x15 => ((cellAt 2 d11).bind fun x16 => (asInt .i64 x16).bind fun x17 => (bif (!((x13 == v8) && ((x15 == v9) && ((x17 == v10) && true)))) then (some (O16_0.x0 false v8 v9 v10, ())) else ((lidx v5 (k : Int)).bind fun d22 => ask (d22.cells.length = 3) ((cellAt 0 d22).bind fun x23 => (asInt .i64 x23).bind fun x24 => ((n56 (v4, x24)).bind fun y25 => ((lidx v5 (k : Int)).bind fun d26 => ask (d26.cells.length = 3) ((cellAt 0 d26).bind fun x27 => (asInt .i64 x27).bind fun x28 => ((cellAt 1 d26).bind fun x29 => (asInt .i64 x29).bind fun x30 => ((cellAt 2 d26).bind fun x31 => (asInt .i64 x31).bind fun x32 => (bif (!((y25.1 == x28) && ((y25.2.1 == x30) && ((y25.2.2 == x32) && true)))) then (some (O16_0.x0 false v8 v9 v10, ())) else (bif (decide ((w64 ((k : Int) + 1)) < ((v5.length : Nat) : Int))) then ((lidx v5 (w64 ((k : Int) + 1))).bind fun d33 => ask (d33.cells.length = 3) ((cellAt 0 d33).bind fun x34 => (asInt .i64 x34).bind fun x35 => ((lidx v5 (k : Int)).bind fun d36 => ask (d36.cells.length = 3) ((cellAt 0 d36).bind fun x37 => (asInt .i64 x37).bind fun x38 => (bif (bif (decide (x35 ≤ x38)) then true else (decide (x35 > (v4.size : Int)))) then (some (O16_0.x0 false v8 v9 v10, ())) else ((lidx v5 (k : Int)).bind fun d39 => ask (d39.cells.length = 3) ((cellAt 0 d39).bind fun x40 => (asInt .i64 x40).bind fun x41 => (ask (cutOk x41 x35 v4.size) ((lidx v6 (k : Int)).bind fun d42 => ask (d42.cells.length = 1) ((cellAt 0 d42).bind fun x43 => (asInt .i32 x43).bind fun x44 => (bif (decide (x44 ≥ 0)) then ((lidx v6 (k : Int)).bind fun d45 => ask (d45.cells.length = 1) ((cellAt 0 d45).bind fun x46 => (asInt .i32 x46).bind fun x47 => (bif (!(sEq (Utf8.encode x47) (v4.extract (Int.toNat x41) (Int.toNat x35)))) then (some (O16_0.x0 false v8 v9 v10, ())) else ((lidx v6 (k : Int)).bind fun d48 => ask (d48.cells.length = 1) ((cellAt 0 d48).bind fun x49 => (asInt .i32 x49).bind fun x50 => (bif (decide (x50 < 0)) then (bif (((v4.extract (Int.toNat x41) (Int.toNat x35)).size : Int) != 1) then (some (O16_0.x0 false v8 v9 v10, ())) else ((lidx v6 (k : Int)).bind fun d51 => ask (d51.cells.length = 1) ((cellAt 0 d51).bind fun x52 => (asInt .i32 x52).bind fun x53 => (bif (x53 == 10) then (L16_0 n (v4, v5, v6, (w64 ((k : Int) + 1)), x35, (w64 (v9 + 1)), 1) ()) else (L16_0 n (v4, v5, v6, (w64 ((k : Int) + 1)), x35, v9, (w64 (v10 + 1))) ()))))) else ((lidx v6 (k : Int)).bind fun d54 => ask (d54.cells.length = 1) ((cellAt 0 d54).bind fun x55 => (asInt .i32 x55).bind fun x56 => (bif (x56 == 10) then (L16_0 n (v4, v5, v6, (w64 ((k : Int) + 1)), x35, (w64 (v9 + 1)), 1) ()) else (L16_0 n (v4, v5, v6, (w64 ((k : Int) + 1)), x35, v9, (w64 (v10 + 1))) ())))))))))) else ((lidx v6 (k : Int)).bind fun d57 => ask (d57.cells.length = 1) ((cellAt 0 d57).bind fun x58 => (asInt .i32 x58).bind fun x59 => (bif (decide (x59 < 0)) then (bif (((v4.extract (Int.toNat x41) (Int.toNat x35)).size : Int) != 1) then (some (O16_0.x0 false v8 v9 v10, ())) else ((lidx v6 (k : Int)).bind fun d60 => ask (d60.cells.length = 1) ((cellAt 0 d60).bind fun x61 => (asInt .i32 x61).bind fun x62 => (bif (x62 == 10) then (L16_0 n (v4, v5, v6, (w64 ((k : Int) + 1)), x35, (w64 (v9 + 1)), 1) ()) else (L16_0 n (v4, v5, v6, (w64 ((k : Int) + 1)), x35, v9, (w64 (v10 + 1))) ()))))) else ((lidx v6 (k : Int)).bind fun d63 => ask (d63.cells.length = 1) ((cellAt 0 d63).bind fun x64 => (asInt .i32 x64).bind fun x65 => (bif (x65 == 10) then (L16_0 n (v4, v5, v6, (w64 ((k : Int) + 1)), x35, (w64 (v9 + 1)), 1) ()) else (L16_0 n (v4, v5, v6, (w64 ((k : Int) + 1)), x35, v9, (w64 (v10 + 1))) ())))))))))))))))))) else ((lidx v5 (k : Int)).bind fun d66 => ask (d66.cells.length = 3) ((cellAt 0 d66).bind fun x67 => (asInt .i64 x67).bind fun x68 => (bif (bif (decide ((v4.size : Int) ≤ x68)) then true else (decide ((v4.size : Int) > (v4.size : Int)))) then (some (O16_0.x0 false v8 v9 v10, ())) else ((lidx v5 (k : Int)).bind fun d69 => ask (d69.cells.length = 3) ((cellAt 0 d69).bind fun x70 => (asInt .i64 x70).bind fun x71 => (ask (cutOk x71 (v4.size : Int) v4.size) ((lidx v6 (k : Int)).bind fun d72 => ask (d72.cells.length = 1) ((cellAt 0 d72).bind fun x73 => (asInt .i32 x73).bind fun x74 => (bif (decide (x74 ≥ 0)) then ((lidx v6 (k : Int)).bind fun d75 => ask (d75.cells.length = 1) ((cellAt 0 d75).bind fun x76 => (asInt .i32 x76).bind fun x77 => (bif (!(sEq (Utf8.encode x77) (v4.extract (Int.toNat x71) (Int.toNat (v4.size : Int))))) then (some (O16_0.x0 false v8 v9 v10, ())) else ((lidx v6 (k : Int)).bind fun d78 => ask (d78.cells.length = 1) ((cellAt 0 d78).bind fun x79 => (asInt .i32 x79).bind fun x80 => (bif (decide (x80 < 0)) then (bif (((v4.extract (Int.toNat x71) (Int.toNat (v4.size : Int))).size : Int) != 1) then (some (O16_0.x0 false v8 v9 v10, ())) else ((lidx v6 (k : Int)).bind fun d81 => ask (d81.cells.length = 1) ((cellAt 0 d81).bind fun x82 => (asInt .i32 x82).bind fun x83 => (bif (x83 == 10) then (L16_0 n (v4, v5, v6, (w64 ((k : Int) + 1)), (v4.size : Int), (w64 (v9 + 1)), 1) ()) else (L16_0 n (v4, v5, v6, (w64 ((k : Int) + 1)), (v4.size : Int), v9, (w64 (v10 + 1))) ()))))) else ((lidx v6 (k : Int)).bind fun d84 => ask (d84.cells.length = 1) ((cellAt 0 d84).bind fun x85 => (asInt .i32 x85).bind fun x86 => (bif (x86 == 10) then (L16_0 n (v4, v5, v6, (w64 ((k : Int) + 1)), (v4.size : Int), (w64 (v9 + 1)), 1) ()) else (L16_0 n (v4, v5, v6, (w64 ((k : Int) + 1)), (v4.size : Int), v9, (w64 (v10 + 1))) ())))))))))) else ((lidx v6 (k : Int)).bind fun d87 => ask (d87.cells.length = 1) ((cellAt 0 d87).bind fun x88 => (asInt .i32 x88).bind fun x89 => (bif (decide (x89 < 0)) then (bif (((v4.extract (Int.toNat x71) (Int.toNat (v4.size : Int))).size : Int) != 1) then (some (O16_0.x0 false v8 v9 v10, ())) else ((lidx v6 (k : Int)).bind fun d90 => ask (d90.cells.length = 1) ((cellAt 0 d90).bind fun x91 => (asInt .i32 x91).bind fun x92 => (bif (x92 == 10) then (L16_0 n (v4, v5, v6, (w64 ((k : Int) + 1)), (v4.size : Int), (w64 (v9 + 1)), 1) ()) else (L16_0 n (v4, v5, v6, (w64 ((k : Int) + 1)), (v4.size : Int), v9, (w64 (v10 + 1))) ()))))) else ((lidx v6 (k : Int)).bind fun d93 => ask (d93.cells.length = 1) ((cellAt 0 d93).bind fun x94 => (asInt .i32 x94).bind fun x95 => (bif (x95 == 10) then (L16_0 n (v4, v5, v6, (w64 ((k : Int) + 1)), (v4.size : Int), (w64 (v9 + 1)), 1) ()) else (L16_0 n (v4, v5, v6, (w64 ((k : Int) + 1)), (v4.size : Int), v9, (w64 (v10 + 1))) ())))))))))))))))))))))))))))))) else (some (O16_0.x1 v4 v8 v9 v10, ()))) := rfl
theorem L16 {s : ByteArray} (hs : s.size ≤ 1048576) : ∀ (d n k i l c : Nat), (spots s).length - k ≤ d → d < n → (spots s).drop k = spotsOf l c (runesL s i) → i ≤ s.size → l ≤ k + 1 → c ≤ k + 1 → k ≤ (spots s).length →
    ∃ l' c', L16_0 n (s, (spots s).map encS, (spots s).map encC, (k : Int), (i : Int), (l : Int), (c : Int)) () = some (O16_0.x1 s (s.size : Int) l' c', ()) := by
  have hle := spots_le s
  intro d
  induction d with
  | zero =>
    intro n k i l c hd hn he hi h1 h2 hk
    obtain ⟨m, rfl⟩ : ∃ m, n = m + 1 := ⟨n - 1, by omega⟩
    rw [List.drop_eq_nil_of_le (by omega)] at he
    have hi' : ¬ i < s.size := by
      intro h
      rw [runesL_cons h] at he
      simp [spotsOf] at he
    rw [L16_step, List.length_map, decide_eq_false (by omega), cond_false, show i = s.size by omega]
    exact ⟨_, _, rfl⟩
  | succ d ih =>
    intro n k i l c hd hn he hi h1 h2 hk
    obtain ⟨m, rfl⟩ : ∃ m, n = m + 1 := ⟨n - 1, by omega⟩
    by_cases h : i < s.size
    · have w1 := wd_pos s i
      have w2 := wd_le h
      have hk' : k < (spots s).length := by
        rw [runesL_cons h] at he
        apply Nat.lt_of_not_le
        intro hh
        rw [List.drop_eq_nil_of_le hh] at he
        simp [spotsOf] at he
      rw [runesL_cons h, spotsOf, List.drop_eq_getElem_cons hk'] at he
      have hhd : (spots s)[k] = (rn s i, i, l, c) := (List.cons.inj he).1
      have htl := (List.cons.inj he).2
      have hp : (spots s)[k]? = some (rn s i, i, l, c) := by rw [List.getElem?_eq_getElem hk', hhd]
      have hat := atS_spot hp
      have e0 : w64 ((k : Int) + 1) = ((k + 1 : Nat) : Int) := by rw [w64_id (by omega) (by omega)]; omega
      have e1 : w64 ((l : Int) + 1) = ((l + 1 : Nat) : Int) := by rw [w64_id (by omega) (by omega)]; omega
      have e2 : w64 ((c : Int) + 1) = ((c + 1 : Nat) : Int) := by rw [w64_id (by omega) (by omega)]; omega
      have key : ∀ (x : Int), x = ((i + wd s i : Nat) : Int) → L16_0 (m + 1) (s, (spots s).map encS, (spots s).map encC, (k : Int), (i : Int), (l : Int), (c : Int)) () = (bif (rn s i == 10) then (L16_0 m (s, (spots s).map encS, (spots s).map encC, ((k + 1 : Nat) : Int), x, ((l + 1 : Nat) : Int), 1) ()) else (L16_0 m (s, (spots s).map encS, (spots s).map encC, ((k + 1 : Nat) : Int), x, (l : Int), ((c + 1 : Nat) : Int)) ())) := by
        intro x hx
        have hcut : cutOk (i : Int) x s.size := by subst hx; exact ⟨by omega, by omega, by omega⟩
        have hext : s.extract (Int.toNat (i : Int)) (Int.toNat x) = s.extract i (i + wd s i) := by subst hx; rw [Int.toNat_natCast, Int.toNat_natCast]
        have henc : decide (rn s i ≥ 0) = true → sEq (Utf8.encode (rn s i)) (s.extract i (i + wd s i)) = true := fun hh => (sEq_iff _ _).2 (enc_rn h (by simpa using hh))
        have hbad : decide (rn s i < 0) = true → (((s.extract i (i + wd s i)).size : Int) != 1) = false := by
          intro hh
          have hw : wd s i = 1 := by
            unfold rn at hh
            split at hh
            · rename_i e; exact congrArg Prod.snd e
            · simp at hh; omega
          rw [hw]
          have : (s.extract i (i + 1)).size = 1 := by simp; omega
          rw [this]; rfl
        have hpos : decide (rn s i ≥ 0) = !(decide (rn s i < 0)) := by
          rw [Bool.eq_iff_iff]; simp
        by_cases hj : i + wd s i < s.size
        · have hk2 : k + 1 < (spots s).length := by
            apply Nat.lt_of_not_le
            intro hh
            rw [List.drop_eq_nil_of_le hh, runesL_cons hj] at htl
            split at htl <;> simp [spotsOf] at htl
          obtain ⟨q1, q2, q3, hq⟩ : ∃ q1 q2 q3, (spots s)[k + 1]? = some (q1, i + wd s i, q2, q3) := by
            rw [List.drop_eq_getElem_cons hk2, runesL_cons hj] at htl
            rw [List.getElem?_eq_getElem hk2]
            split at htl
            · rw [spotsOf] at htl
              rw [(List.cons.inj htl).1]; exact ⟨_, _, _, rfl⟩
            · rw [spotsOf] at htl
              rw [(List.cons.inj htl).1]; exact ⟨_, _, _, rfl⟩
          rw [L16_step, List.length_map, decide_eq_true (by omega), cond_true, e0, lidx_map, lidx_map, lidx_map, hp, hq, e1, e2]
          simp only [Option.map_some, Option.bind_some, ask_of (lenS _), ask_of (lenC _), cellS0, cellS1, cellS2, cellC0, asI64, asI32, n56_eq hs, hat, beq_self_eq_true, Bool.and_self, Bool.not_true, cond_false]
          rw [decide_eq_true (show ((k + 1 : Nat) : Int) < (((spots s).length : Nat) : Int) by omega), cond_true, ← hx]
          rw [decide_eq_false (show ¬ (x ≤ (i : Int)) by omega), decide_eq_false (show ¬ (x > (s.size : Int)) by omega), cond_false, cond_false, ask_of hcut, hext, hpos]
          cases hb : decide (rn s i < 0) with
          | true => simp only [Bool.not_true, cond_false, cond_true, hbad hb]
          | false => rw [hb] at hpos; simp only [Bool.not_false, cond_false, cond_true, henc hpos, Bool.not_true]
        · have hk2 : ¬ k + 1 < (spots s).length := by
            intro hh
            rw [List.drop_eq_getElem_cons hh, runesL_nil (by omega)] at htl
            split at htl <;> exact List.cons_ne_nil _ _ htl
          have hxs : x = (s.size : Int) := by omega
          rw [L16_step, List.length_map, decide_eq_true (by omega), cond_true, e0, lidx_map, lidx_map, lidx_map, hp, e1, e2]
          simp only [Option.map_some, Option.bind_some, ask_of (lenS _), ask_of (lenC _), cellS0, cellS1, cellS2, cellC0, asI64, asI32, n56_eq hs, hat, beq_self_eq_true, Bool.and_self, Bool.not_true, cond_false]
          rw [decide_eq_false (show ¬ (((k + 1 : Nat) : Int) < (((spots s).length : Nat) : Int)) by omega), cond_false, ← hxs]
          rw [decide_eq_false (show ¬ (x ≤ (i : Int)) by omega), decide_eq_false (show ¬ (x > x) by omega), cond_false, cond_false, ask_of hcut, hext, hpos]
          cases hb : decide (rn s i < 0) with
          | true => simp only [Bool.not_true, cond_false, cond_true, hbad hb]
          | false => rw [hb] at hpos; simp only [Bool.not_false, cond_false, cond_true, henc hpos, Bool.not_true]
      rw [key _ rfl]
      by_cases h10 : rn s i = 10
      · rw [if_pos h10] at htl
        rw [show (rn s i == 10) = true from beq_iff_eq.2 h10, cond_true]
        exact ih m (k + 1) (i + wd s i) (l + 1) 1 (by omega) (by omega) htl w2 (by omega) (by omega) (by omega)
      · rw [if_neg h10] at htl
        rw [show (rn s i == 10) = false from beq_eq_false_iff_ne.2 h10, cond_false]
        exact ih m (k + 1) (i + wd s i) l (c + 1) (by omega) (by omega) htl w2 (by omega) (by omega) (by omega)
    · have hk' : ¬ k < (spots s).length := by
        intro hh
        rw [List.drop_eq_getElem_cons hh, runesL_nil (by omega)] at he
        exact List.cons_ne_nil _ _ he
      rw [L16_step, List.length_map, decide_eq_false (by omega), cond_false, show i = s.size by omega]
      exact ⟨_, _, rfl⟩
theorem plain16 (a0 : ByteArray) (h : a0.size ≤ 1048576) : n16 a0 = some true := by
  obtain ⟨l', c', hL⟩ := L16 h (spots a0).length 1000000000000 0 0 1 1 (by have := spots_le a0; omega) (by have := spots_le a0; omega) rfl (by omega) (by omega) (by omega) (by omega)
  show ((n28 a0).bind fun y2 => ((n52 a0).bind fun y3 => (bif (((y2.1.length : Nat) : Int) != y3) then (some false) else (bif (decide ((a0.size : Int) > 0)) then (bif (((y2.1.length : Nat) : Int) == 0) then (some false) else ((L16_0 1000000000000 (a0, y2.1, y2.2, 0, 0, 1, 1) ()).bind fun p100 => match p100.1 with | .x0 z101 z102 z103 z104 => (some z101) | .x1 z105 z106 z107 z108 => (bif (z106 == (z105.size : Int)) then ((n32 ()).bind fun y109 => (some y109)) else (some false)))) else ((L16_0 1000000000000 (a0, y2.1, y2.2, 0, 0, 1, 1) ()).bind fun p206 => match p206.1 with | .x0 z207 z208 z209 z210 => (some z207) | .x1 z211 z212 z213 z214 => (bif (z212 == (z211.size : Int)) then ((n32 ()).bind fun y215 => (some y215)) else (some false))))))) = _
  rw [n28_eq h, Option.bind_some, n52_eq h, Option.bind_some]
  simp only [List.length_map, spots_length, bne_self_eq_false, cond_false]
  rw [show ((0 : Int)) = ((0 : Nat) : Int) from rfl, show ((1 : Int)) = ((1 : Nat) : Int) from rfl, hL, Option.bind_some]
  simp only [beq_self_eq_true, cond_true, alive_true, Option.bind_some]
  by_cases hz : 0 < a0.size
  · have : (runesL a0 0).length ≠ 0 := by rw [runesL_cons hz]; simp
    rw [show ((((runesL a0 0).length : Nat) : Int) == ((0 : Nat) : Int)) = false from beq_eq_false_iff_ne.2 (by omega), cond_false]
    cases decide ((a0.size : Int) > ((0 : Nat) : Int)) <;> rfl
  · rw [decide_eq_false (by omega), cond_false]
end Ev
