/- What functions of the program compute, as plain Lean functions, each with its proof by a proved reader; plain laws about them (PlzW). -/
import Derived.Test.YtknlopaheagepaaGreatDoorPlzU
set_option linter.unusedSimpArgs false
set_option linter.unusedVariables false
namespace Ev
open Go
theorem catB {a b : ByteArray} (h : a.size + b.size ≤ 1099511627776) : catOk a b := catOk_of (by omega)
abbrev F61 := Int × Int × Int × ByteArray × List D → Option ByteArray
theorem L61_step (F : F61) (n : Nat) (l : List V) (i : Nat) (acc : ByteArray) (x1 x2 x3 : Int) (x4 : ByteArray) (v : V) (h : l[i]? = some v) (hi : i < l.length) :
    L61_1 F (n + 1) (acc, (i : Int), x1, x2, x3, x4, V.ds l) () = (bif (decide ((i : Int) > 0)) then (ask (catOk acc tSep) ((F v.tup).bind fun y29 => (ask (catOk (acc ++ tSep) y29) (L61_1 F n (((acc ++ tSep) ++ y29), (w64 ((i : Int) + 1)), x1, x2, x3, x4, V.ds l) ())))) else ((F v.tup).bind fun y41 => (ask (catOk acc y41) (L61_1 F n ((acc ++ y41), (w64 ((i : Int) + 1)), x1, x2, x3, x4, V.ds l) ())))) := by
  obtain ⟨k, im, mm, t, s⟩ := v
  rw [L61_1, lidx_ds, h, Option.map_some, Option.bind_some, V.d_mk, ds_length, decide_eq_true (by omega : (i : Int) < ((l.length : Nat) : Int)), cond_true]
  rfl
theorem L61_eq {F : F61} {l : List V} (hl : l.length ≤ 1048576) (hF : ∀ v ∈ l, F v.tup = some v.txt) (x1 x2 x3 : Int) (x4 : ByteArray) : ∀ (rest : List V) (n i : Nat) (acc : ByteArray), l.drop i = rest → rest.length < n → acc.size + (V.txtL (decide (i = 0)) rest).size ≤ 1099511627776 →
    L61_1 F n (acc, (i : Int), x1, x2, x3, x4, V.ds l) () = some (O61_1.x0 (acc ++ V.txtL (decide (i = 0)) rest) x1 x2 x3 x4 (V.ds l), ()) := by
  intro rest
  induction rest with
  | nil =>
    intro n i acc hr hn hb
    obtain ⟨n, rfl⟩ : ∃ m, n = m + 1 := ⟨n - 1, by simp at hn; omega⟩
    have := drop_nil hr
    rw [L61_1, ds_length, decide_eq_false (by omega), cond_false, V.txtL, app_no]
  | cons v rest ih =>
    intro n i acc hr hn hb
    obtain ⟨n, rfl⟩ : ∃ m, n = m + 1 := ⟨n - 1, by simp at hn; omega⟩
    obtain ⟨h1, h2, h3, h4⟩ := drop_cons hr
    have hf := hF v h4
    rw [V.txtL, app_size, app_size] at hb
    rw [L61_step F n l i acc x1 x2 x3 x4 v h1 h3, hf, V.txtL]
    cases i with
    | zero =>
      rw [show decide (((0 : Nat) : Int) > 0) = false from rfl, cond_false, Option.bind_some]
      simp only [decide_true, cond_true] at hb ⊢
      have hs0 : noT.size = 0 := rfl
      rw [ask_of (catB (b := v.txt) (by omega)), next_idx (by omega), ih n 1 _ h2 (by simp at hn; omega) (by rw [app_size]; show _ + (V.txtL false rest).size ≤ _; omega), no_app, app_assoc]
      rfl
    | succ j =>
      rw [show decide (((j + 1 : Nat) : Int) > 0) = true by rw [decide_eq_true]; omega, cond_true, Option.bind_some]
      simp only [show decide (j + 1 = 0) = false by simp, cond_false] at hb ⊢
      have hs2 : tSep.size = 2 := rfl
      rw [ask_of (catB (b := tSep) (by omega)), ask_of (catB (b := v.txt) (by rw [app_size]; omega)), next_idx (by omega), ih n (j + 1 + 1) _ h2 (by simp at hn; omega) (by rw [app_size, app_size]; simp only [show decide (j + 1 + 1 = 0) = false by simp]; omega)]
      simp only [show decide (j + 1 + 1 = 0) = false by simp, app_assoc]
theorem n61_eq : ∀ (k : Nat) (v : V), v.hgt ≤ k → v.big ≤ 1048576 → v.ok → v.formed = true → n61 k v.tup = some v.txt := by
  intro k
  induction k with
  | zero => intro v h; have := v.hgt_pos; omega
  | succ k ih =>
    intro v h hb hok hfo
    have hts := V.txt_size v hok
    obtain ⟨k0, i0, m0, t0, l0⟩ := v
    rw [V.hgt] at h
    have hb0 := hb
    rw [V.big] at hb
    rw [V.ok] at hok
    obtain ⟨_, ⟨a1, a2⟩, ⟨b1, b2⟩, hokl⟩ := hok
    have hll := V.len_bigL l0
    have hk := formed_kind hfo
    have hff := formed_facts hfo
    have d1 := dec_size a1 a2
    have d2 := dec_size b1 b2
    have g1 : n99 i0 = some (dec i0) := decimal_ref a1 a2
    have g2 : n99 m0 = some (dec m0) := decimal_ref b1 b2
    have htl := V.txtL_size true l0 hokl
    have hkk : k0 = 1 ∨ k0 = 2 ∨ k0 = 3 ∨ k0 = 4 ∨ k0 = 5 ∨ k0 = 6 ∨ k0 = 7 := by omega
    simp only [V.tup]
    rw [V.txt]
    have items : V.formedL (k0 == 7) none l0 = true → L61_1 (n61 k) 1000000000000 (noT, 0, k0, i0, m0, t0, V.ds l0) () = some (O61_1.x0 (V.txtL true l0) k0 i0 m0 t0 (V.ds l0), ()) := by
      intro hfl
      have s0 : noT.size = 0 := rfl
      have hL := L61_eq (F := n61 k) (l := l0) (by omega) (fun v hv => ih v (by have := V.mem_hgtL hv; omega) (by have := V.mem_bigL hv; omega) (okL_all hokl v hv) (formedL_all hfl v hv)) k0 i0 m0 t0 l0 1000000000000 0 noT (by simp) (by omega) (by simp only [decide_true]; omega)
      rw [show ((0 : Nat) : Int) = 0 from rfl] at hL
      simp only [decide_true, no_app] at hL
      exact hL
    rcases hkk with rfl | rfl | rfl | rfl | rfl | rfl | rfl
    · rw [n61]
      cases hi : (i0 == 1) <;> rfl
    · rw [n61, g1, Option.bind_some]
      rfl
    · rw [n61]
      have s105 : (⟨#[105]⟩ : ByteArray).size = 1 := rfl
      have s43 : (⟨#[43]⟩ : ByteArray).size = 1 := rfl
      have s0 : (⟨#[]⟩ : ByteArray).size = 0 := rfl
      simp only [show ((3 : Int) == 2) = false from rfl, show ((3 : Int) == 1) = false from rfl, show ((3 : Int) == 3) = true from rfl, cond_false, cond_true, g1, g2, Option.bind_some]
      cases hd : decide (m0 ≥ 0) with
      | true =>
        simp only [cond_true]
        rw [ask_of (catB (b := (⟨#[43]⟩ : ByteArray)) (by omega)), ask_of (catB (b := dec m0) (by rw [app_size]; omega)), ask_of (catB (b := (⟨#[105]⟩ : ByteArray)) (by rw [app_size, app_size]; omega))]
      | false =>
        simp only [cond_false]
        rw [ask_of (catB (b := (⟨#[]⟩ : ByteArray)) (by omega)), ask_of (catB (b := dec m0) (by rw [app_size]; omega)), ask_of (catB (b := (⟨#[105]⟩ : ByteArray)) (by rw [app_size, app_size]; omega))]
    · rw [n61]
      rfl
    · have hfl : V.formedL ((5 : Int) == 7) none l0 = true := by
        rcases hff with ⟨q, _⟩ | ⟨_, _, _, _, q⟩
        · omega
        · exact q
      rw [n61, items hfl]
      have s40 : (⟨#[40]⟩ : ByteArray).size = 1 := rfl
      have s41 : (⟨#[41]⟩ : ByteArray).size = 1 := rfl
      have s44 : (⟨#[44]⟩ : ByteArray).size = 1 := rfl
      simp only [show ((5 : Int) == 2) = false from rfl, show ((5 : Int) == 1) = false from rfl, show ((5 : Int) == 3) = false from rfl, show ((5 : Int) == 4) = false from rfl, show ((5 : Int) == 6) = false from rfl, show ((5 : Int) == 7) = false from rfl, cond_false, cond_true, Option.bind_some, ds_length]
      cases hc : (((l0.length : Nat) : Int) == 1) with
      | true =>
        have ec : comma 5 l0.length = (⟨#[44]⟩ : ByteArray) := by unfold comma; rw [hc]; rfl
        rw [ec, cond_true, ask_of (catB (b := (⟨#[44]⟩ : ByteArray)) (by omega)), ask_of (catB (b := V.txtL true l0 ++ (⟨#[44]⟩ : ByteArray)) (by rw [app_size]; omega)), ask_of (catB (b := (⟨#[41]⟩ : ByteArray)) (by rw [app_size, app_size]; omega)), show mk0 5 = (⟨#[40]⟩ : ByteArray) from rfl, show mk1 5 = (⟨#[41]⟩ : ByteArray) from rfl]
        simp only [app_assoc]
      | false =>
        have ec : comma 5 l0.length = noT := by unfold comma; rw [hc]; rfl
        rw [ec, cond_false, ask_of (catB (b := V.txtL true l0) (by omega)), ask_of (catB (b := (⟨#[41]⟩ : ByteArray)) (by rw [app_size]; omega)), no_app, show mk0 5 = (⟨#[40]⟩ : ByteArray) from rfl, show mk1 5 = (⟨#[41]⟩ : ByteArray) from rfl]
    · have hfl : V.formedL ((6 : Int) == 7) none l0 = true := by
        rcases hff with ⟨q, _⟩ | ⟨_, _, _, _, q⟩
        · omega
        · exact q
      rw [n61, items hfl]
      have s40 : (⟨#[91]⟩ : ByteArray).size = 1 := rfl
      have s41 : (⟨#[93]⟩ : ByteArray).size = 1 := rfl
      simp only [show ((6 : Int) == 2) = false from rfl, show ((6 : Int) == 1) = false from rfl, show ((6 : Int) == 3) = false from rfl, show ((6 : Int) == 4) = false from rfl, show ((6 : Int) == 6) = true from rfl, cond_false, cond_true, Option.bind_some]
      rw [show comma 6 l0.length = noT from rfl, ask_of (catB (b := V.txtL true l0) (by omega)), ask_of (catB (b := (⟨#[93]⟩ : ByteArray)) (by rw [app_size]; omega)), no_app, show mk0 6 = (⟨#[91]⟩ : ByteArray) from rfl, show mk1 6 = (⟨#[93]⟩ : ByteArray) from rfl]
    · have hfl : V.formedL ((7 : Int) == 7) none l0 = true := by
        rcases hff with ⟨q, _⟩ | ⟨_, _, _, _, q⟩
        · omega
        · exact q
      rw [n61, items hfl]
      have s40 : (⟨#[123]⟩ : ByteArray).size = 1 := rfl
      have s41 : (⟨#[125]⟩ : ByteArray).size = 1 := rfl
      simp only [show ((7 : Int) == 2) = false from rfl, show ((7 : Int) == 1) = false from rfl, show ((7 : Int) == 3) = false from rfl, show ((7 : Int) == 4) = false from rfl, show ((7 : Int) == 6) = false from rfl, show ((7 : Int) == 7) = true from rfl, cond_false, cond_true, Option.bind_some]
      rw [show comma 7 l0.length = noT from rfl, ask_of (catB (b := V.txtL true l0) (by omega)), ask_of (catB (b := (⟨#[125]⟩ : ByteArray)) (by rw [app_size]; omega)), no_app, show mk0 7 = (⟨#[123]⟩ : ByteArray) from rfl, show mk1 7 = (⟨#[125]⟩ : ByteArray) from rfl]
theorem txt_pos {v : V} (hok : v.ok) (hfo : v.formed = true) : 1 ≤ v.txt.size := by
  have hfo0 := hfo
  obtain ⟨k0, i0, m0, t0, l0⟩ := v
  rw [V.ok] at hok
  obtain ⟨_, ⟨a1, a2⟩, ⟨b1, b2⟩, hokl⟩ := hok
  have d1 := dec_size a1 a2
  have hk := formed_kind hfo
  have hkk : k0 = 1 ∨ k0 = 2 ∨ k0 = 3 ∨ k0 = 4 ∨ k0 = 5 ∨ k0 = 6 ∨ k0 = 7 := by omega
  rw [V.txt]
  rcases hkk with rfl | rfl | rfl | rfl | rfl | rfl | rfl
  · cases (i0 == 1)
    · show 1 ≤ tFalse.size
      decide
    · show 1 ≤ tTrue.size
      decide
  · exact d1.1
  · show 1 ≤ (((dec i0 ++ _) ++ dec m0) ++ (⟨#[105]⟩ : ByteArray)).size
    rw [app_size, app_size, app_size]; omega
  · have hsy : symB t0 = true := by
      rw [V.formed] at hfo
      simp only [show ((4 : Int) == 2) = false from rfl, show ((4 : Int) == 1) = false from rfl, show ((4 : Int) == 3) = false from rfl, show ((4 : Int) == 4) = true from rfl, cond_false, cond_true] at hfo
      cases hc : (bif (bif (i0 == 0) then (m0 == 0) else false) then (((l0.length : Nat) : Int) == 0) else false) with
      | false => rw [hc] at hfo; cases hfo
      | true => rw [hc] at hfo; exact hfo
    have hn : isName t0 = true := by
      unfold symB at hsy
      cases hi : isName t0 with
      | true => rfl
      | false => rw [hi] at hsy; cases hsy
    show 1 ≤ t0.size
    rcases Nat.eq_zero_or_pos t0.size with h0 | h0
    · unfold isName at hn
      rw [runesL_nil (by omega)] at hn
      cases hn
    · exact h0
  · show 1 ≤ ((mk0 5 ++ _) ++ _).size
    rw [app_size, app_size]; have : (mk0 5).size = 1 := rfl; omega
  · show 1 ≤ ((mk0 6 ++ _) ++ _).size
    rw [app_size, app_size]; have : (mk0 6).size = 1 := rfl; omega
  · show 1 ≤ ((mk0 7 ++ _) ++ _).size
    rw [app_size, app_size]; have : (mk0 7).size = 1 := rfl; omega
theorem plain8 {v : V} (hb : v.big ≤ 1048576) (hok : v.ok) : n8 v.tup = some true := by
  have h1 := check_eq hb
  have h2 := right_eq hb
  have h5 : v.right = true → v.small = true ∧ v.formed = true := fun h => (Bool.and_eq_true _ _ ▸ h : _ ∧ _)
  cases hr : v.right with
  | false =>
    rw [hr] at h1 h2
    obtain ⟨k, i, m, t, l⟩ := v
    simp only [V.tup, n8, n28, n29] at h1 h2 ⊢
    rw [h1, h2]
    simp only [Option.bind_some, cond_false, show ((40 : Int) != 0) = true from rfl, cond_true, Bool.not_false]
    rw [show sEq noT noT = true from (sEq_iff _ _).2 rfl]
    rfl
  | true =>
    rw [hr] at h1 h2
    obtain ⟨hs, hfo⟩ := h5 hr
    have hs2 := hgt_small hs
    have ht := V.txt_size v hok
    have hp := txt_pos hok hfo
    have hse : ByteArray.empty.size = 0 := rfl
    have h3 := n59_eq 64 v (by omega) hb hok hfo ByteArray.empty (by omega)
    have h4 := n61_eq 64 v (by omega) hb hok hfo
    rw [show ByteArray.empty ++ v.txt = v.txt from no_app _, hse] at h3
    have hstr : strOk v.txt := ⟨Nat.ble_eq_true_of_le hp, Nat.ble_eq_true_of_le (by omega)⟩
    generalize v.txt = T at *
    obtain ⟨k, i, m, t, l⟩ := v
    simp only [V.tup, n8, n28, n29] at h1 h2 h3 h4 ⊢
    rw [h1, h2, n59_flag, h3, h4]
    simp only [Option.bind_some, cond_false, cond_true, Bool.not_true, show ((0 : Int) != 0) = false from rfl]
    rw [ask_of (show True ∧ strOk T from ⟨trivial, hstr⟩), Option.bind_some]
    dsimp only
    rw [show sEq T T = true from (sEq_iff _ _).2 rfl]
    rfl
end Ev
