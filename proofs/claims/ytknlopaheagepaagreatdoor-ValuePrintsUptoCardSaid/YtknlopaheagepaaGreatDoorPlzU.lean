/- What functions of the program compute, as plain Lean functions, each with its proof by a proved reader; plain laws about them (PlzU). -/
import Derived.Test.YtknlopaheagepaaGreatDoorPlzT
set_option linter.unusedSimpArgs false
set_option linter.unusedVariables false
namespace Ev
open Go
theorem formedL_all : ∀ {s : Bool} {p : Option V} {l : List V}, V.formedL s p l = true → ∀ v ∈ l, v.formed = true
  | s, p, [], _, v, hv => by cases hv
  | s, p, x :: l, h, v, hv => by
    rw [V.formedL, Bool.and_eq_true, Bool.and_eq_true] at h
    rcases List.mem_cons.1 hv with rfl | hv
    · exact h.1.1
    · exact formedL_all h.2 v hv
theorem okL_all : ∀ {l : List V}, V.okL l → ∀ v ∈ l, v.ok
  | [], _, v, hv => by cases hv
  | x :: l, h, v, hv => by
    rw [V.okL] at h
    rcases List.mem_cons.1 hv with rfl | hv
    · exact h.1
    · exact okL_all h.2 v hv
abbrev F59 := ByteArray × Int × Int × Int × ByteArray × List D × Nat × Bool → Option (ByteArray × Nat)
def P59 (F : F59) (v : V) : Prop := ∀ buf : ByteArray, buf.size + v.txt.size ≤ 1099511627776 → F (buf, v.tup.1, v.tup.2.1, v.tup.2.2.1, v.tup.2.2.2.1, v.tup.2.2.2.2, buf.size, true) = some (buf ++ v.txt, (buf ++ v.txt).size)
theorem L59_step (F : F59) (n : Nat) (mk : ByteArray) (l : List V) (i : Nat) (len : Int) (buf : ByteArray) (x1 x2 x3 : Int) (x4 : ByteArray) (x5 : List D) (mp : List (Value × Value)) (k im mm : Int) (t : ByteArray) (s : List V) (h : l[i]? = some (.mk k im mm t s)) (hi : (i : Int) < len) :
    L59_1 F (n + 1) (mk, V.ds l, len, (i : Int), buf, x1, x2, x3, x4, x5, mp) () = (bif (decide ((i : Int) > 0)) then (ask (addBOk buf.size buf (⟨#[44, 32]⟩ : ByteArray) 1) ((F ((buf ++ (⟨#[44, 32]⟩ : ByteArray)), k, im, mm, t, V.ds s, (buf.size + (⟨#[44, 32]⟩ : ByteArray).size), true)).bind fun y37 => (ask (([y37.2] : List Nat) = [y37.1.size]) (L59_1 F n (mk, V.ds l, len, (w64 ((i : Int) + 1)), y37.1, x1, x2, x3, x4, x5, mp) ())))) else ((F (buf, k, im, mm, t, V.ds s, buf.size, true)).bind fun y38 => (ask (([y38.2] : List Nat) = [y38.1.size]) (L59_1 F n (mk, V.ds l, len, (w64 ((i : Int) + 1)), y38.1, x1, x2, x3, x4, x5, mp) ())))) := by
  rw [L59_1, lidx_ds, h, Option.map_some, Option.bind_some, V.d_mk, decide_eq_true hi, cond_true]
  rfl
theorem L59_eq {F : F59} {l : List V} (hl : l.length ≤ 1048576) (hF : ∀ v ∈ l, P59 F v) (mk : ByteArray) (x1 x2 x3 : Int) (x4 : ByteArray) (x5 : List D) (mp : List (Value × Value)) : ∀ (rest : List V) (n i : Nat) (buf : ByteArray), l.drop i = rest → rest.length < n → buf.size + (V.txtL (decide (i = 0)) rest).size ≤ 1099511627776 →
    L59_1 F n (mk, V.ds l, ((l.length : Nat) : Int), (i : Int), buf, x1, x2, x3, x4, x5, mp) () = some (O59_1.x0 mk (buf ++ V.txtL (decide (i = 0)) rest) x1 x2 x3 x4 x5 mp, ()) := by
  intro rest
  induction rest with
  | nil =>
    intro n i buf hr hn hb
    obtain ⟨n, rfl⟩ : ∃ m, n = m + 1 := ⟨n - 1, by simp at hn; omega⟩
    have := drop_nil hr
    rw [L59_1, decide_eq_false (by omega), cond_false, V.txtL, app_no]
    exact ask_of rfl
  | cons v rest ih =>
    intro n i buf hr hn hb
    obtain ⟨n, rfl⟩ : ∃ m, n = m + 1 := ⟨n - 1, by simp at hn; omega⟩
    obtain ⟨h1, h2, h3, h4⟩ := drop_cons hr
    have hf := hF v h4
    rw [V.txtL, app_size, app_size] at hb
    obtain ⟨k, im, mm, t, s⟩ := v
    unfold P59 at hf
    simp only [V.tup] at hf
    rw [L59_step F n mk l i _ buf x1 x2 x3 x4 x5 mp k im mm t s h1 (by omega), V.txtL]
    cases i with
    | zero =>
      rw [show decide (((0 : Nat) : Int) > 0) = false from rfl, cond_false]
      simp only [decide_true, cond_true] at hb ⊢
      have hs0 : noT.size = 0 := rfl
      rw [hf buf (by omega), Option.bind_some]
      dsimp only
      rw [ask_of rfl, next_idx (by omega), ih n 1 _ h2 (by simp at hn; omega) (by rw [app_size]; show _ + (V.txtL false rest).size ≤ _; omega), no_app, app_assoc]
      rfl
    | succ j =>
      rw [show decide (((j + 1 : Nat) : Int) > 0) = true by rw [decide_eq_true]; omega, cond_true]
      simp only [show decide (j + 1 = 0) = false by simp, cond_false] at hb ⊢
      have hs2 : tSep.size = 2 := rfl
      rw [ask_of (addB (b := tSep) rfl (by omega)), ← app_size, hf (buf ++ tSep) (by rw [app_size]; omega), Option.bind_some]
      dsimp only
      rw [ask_of rfl, next_idx (by omega), ih n (j + 1 + 1) _ h2 (by simp at hn; omega) (by rw [app_size, app_size]; simp only [show decide (j + 1 + 1 = 0) = false by simp]; omega)]
      simp only [show decide (j + 1 + 1 = 0) = false by simp, app_assoc]
theorem n59_flag : ∀ (k : Nat) (a0 : ByteArray) (a3 a4 a5 : Int) (a6 : ByteArray) (a7 : List D) (k1 : Nat), n59 k (a0, a3, a4, a5, a6, a7, k1, false) = n59 k (a0, a3, a4, a5, a6, a7, k1, true)
  | 0, _, _, _, _, _, _, _ => rfl
  | k + 1, _, _, _, _, _, _, _ => rfl
theorem formed_kind {k i m : Int} {t : ByteArray} {l : List V} (h : (V.mk k i m t l).formed = true) : 1 ≤ k ∧ k ≤ 7 := by
  rw [V.formed] at h
  by_cases h1 : k = 1
  · omega
  by_cases h2 : k = 2
  · omega
  by_cases h3 : k = 3
  · omega
  by_cases h4 : k = 4
  · omega
  by_cases h5 : k = 5
  · omega
  by_cases h6 : k = 6
  · omega
  by_cases h7 : k = 7
  · omega
  rw [beq_eq_false_iff_ne.2 h1, beq_eq_false_iff_ne.2 h2, beq_eq_false_iff_ne.2 h3, beq_eq_false_iff_ne.2 h4, beq_eq_false_iff_ne.2 h5, beq_eq_false_iff_ne.2 h6, beq_eq_false_iff_ne.2 h7] at h
  cases h
theorem n59_eq : ∀ (k : Nat) (v : V), v.hgt ≤ k → v.big ≤ 1048576 → v.ok → v.formed = true → P59 (n59 k) v := by
  intro k
  induction k with
  | zero => intro v h; have := v.hgt_pos; omega
  | succ k ih =>
    intro v h hb hok hfo buf hsz
    obtain ⟨k0, i0, m0, t0, l0⟩ := v
    rw [V.hgt] at h
    rw [V.big] at hb
    rw [V.ok] at hok
    obtain ⟨_, ⟨a1, a2⟩, ⟨b1, b2⟩, hokl⟩ := hok
    have hll := V.len_bigL l0
    have hk := formed_kind hfo
    have hff := formed_facts hfo
    have d1 := dec_size a1 a2
    have d2 := dec_size b1 b2
    have g1 : n97 i0 = some (dec i0) := decimal_prog a1 a2
    have g2 : n97 m0 = some (dec m0) := decimal_prog b1 b2
    have hkk : k0 = 1 ∨ k0 = 2 ∨ k0 = 3 ∨ k0 = 4 ∨ k0 = 5 ∨ k0 = 6 ∨ k0 = 7 := by omega
    simp only [V.tup]
    rw [V.txt] at hsz ⊢
    rcases hkk with rfl | rfl | rfl | rfl | rfl | rfl | rfl
    · rw [n59]
      cases hi : (i0 == 1) with
      | true => 
        rw [hi] at hsz
        have hs : buf.size + tTrue.size ≤ 1099511627776 := hsz
        show (ask (addBOk buf.size buf tTrue 1) (some ((buf ++ tTrue), (buf.size + tTrue.size)))) = _
        rw [ask_of (addB rfl hs), ← app_size]
        rfl
      | false => 
        rw [hi] at hsz
        have hs : buf.size + tFalse.size ≤ 1099511627776 := hsz
        show (ask (addBOk buf.size buf tFalse 1) (some ((buf ++ tFalse), (buf.size + tFalse.size)))) = _
        rw [ask_of (addB rfl hs), ← app_size]
        rfl
    · rw [n59]
      have hs : buf.size + (dec i0).size ≤ 1099511627776 := hsz
      show ((n97 i0).bind fun y10 => (ask (addBOk buf.size buf y10 1) (some ((buf ++ y10), (buf.size + y10.size))))) = _
      rw [g1, Option.bind_some, ask_of (addB rfl hs), ← app_size]
      rfl
    · rw [n59]
      have hs : buf.size + (((dec i0 ++ (bif decide (m0 ≥ 0) then (⟨#[43]⟩ : ByteArray) else noT)) ++ dec m0) ++ (⟨#[105]⟩ : ByteArray)).size ≤ 1099511627776 := hsz
      rw [app_size, app_size, app_size] at hs
      have s105 : (⟨#[105]⟩ : ByteArray).size = 1 := rfl
      have s43 : (⟨#[43]⟩ : ByteArray).size = 1 := rfl
      have s0 : noT.size = 0 := rfl
      have e43 : bcons 43 ByteArray.empty = (⟨#[43]⟩ : ByteArray) := rfl
      have e105 : bcons 105 ByteArray.empty = (⟨#[105]⟩ : ByteArray) := rfl
      simp only [show ((3 : Int) == 2) = false from rfl, show ((3 : Int) == 1) = false from rfl, show ((3 : Int) == 4) = false from rfl, show ((3 : Int) == 3) = true from rfl, cond_false, cond_true, e43, e105, g1, g2, Option.bind_some]
      cases hd : decide (m0 ≥ 0) with
      | true =>
        rw [hd] at hs
        simp only [cond_true] at hs ⊢
        rw [ask_of (addB rfl (by omega)), ask_of (addB (app_size _ _).symm (by rw [app_size]; omega)), ask_of (addB (app_size _ _).symm (by rw [app_size, app_size]; omega)), ask_of (addB (app_size _ _).symm (by rw [app_size, app_size, app_size]; omega)), ← app_size]
        simp only [app_assoc]
      | false =>
        rw [hd] at hs
        simp only [cond_false] at hs ⊢
        rw [ask_of (addB rfl (by omega)), ask_of (addB (app_size _ _).symm (by rw [app_size]; omega)), ask_of (addB (app_size _ _).symm (by rw [app_size, app_size]; omega)), ← app_size, app_no]
        simp only [app_assoc]
    · rw [n59]
      have hs : buf.size + t0.size ≤ 1099511627776 := hsz
      show (ask (addBOk buf.size buf t0 1) (some ((buf ++ t0), (buf.size + t0.size)))) = _
      rw [ask_of (addB rfl hs), ← app_size]
      rfl
    · rw [n59]
      have hfl : V.formedL ((5 : Int) == 7) none l0 = true := by
        rcases hff with ⟨q, _⟩ | ⟨_, _, _, _, q⟩
        · omega
        · exact q
      have hs : buf.size + ((mk0 5 ++ V.txtL true l0) ++ (comma 5 l0.length ++ mk1 5)).size ≤ 1099511627776 := hsz
      rw [app_size, app_size, app_size] at hs
      have s0 : (mk0 5).size = 1 := rfl
      have s1 : (mk1 5).size = 1 := rfl
      have e0 : bcons ((((40 : UInt8)).toNat : Nat) : Int) ByteArray.empty = mk0 5 := rfl
      have e1 : bcons ((((41 : UInt8)).toNat : Nat) : Int) ByteArray.empty = mk1 5 := rfl
      have e44 : bcons 44 ByteArray.empty = (⟨#[44]⟩ : ByteArray) := rfl
      have x0 : sidx (⟨#[40, 41]⟩ : ByteArray) 0 = some 40 := rfl
      have x1 : sidx (⟨#[40, 41]⟩ : ByteArray) 1 = some 41 := rfl
      have hL := L59_eq (F := n59 k) (l := l0) (by omega) (fun v hv => ih v (by have := V.mem_hgtL hv; omega) (by have := V.mem_bigL hv; omega) (okL_all hokl v hv) (formedL_all hfl v hv)) (⟨#[40, 41]⟩ : ByteArray) 5 i0 m0 t0 (V.ds l0) ([((.int .i64 5), (.string (⟨#[40, 41]⟩ : ByteArray))), ((.int .i64 6), (.string (⟨#[91, 93]⟩ : ByteArray))), ((.int .i64 7), (.string (⟨#[123, 125]⟩ : ByteArray)))] : List (Value × Value)) l0 1000000000000 0 (buf ++ mk0 5) (by simp) (by omega) (by rw [app_size]; simp only [decide_true]; omega)
      rw [show ((0 : Nat) : Int) = 0 from rfl] at hL
      simp only [decide_true] at hL
      simp only [show ((5 : Int) == 2) = false from rfl, show ((5 : Int) == 1) = false from rfl, show ((5 : Int) == 4) = false from rfl, show ((5 : Int) == 3) = false from rfl, show ((5 : Int) == 5) = true from rfl, cond_false, cond_true, x0, Option.bind_some]
      rw [ask_of (show byteOk _ from ⟨by decide, by decide⟩), e0, ask_of (addB rfl (by omega)), ask_of (by rw [app_size]), ds_length, hL, Option.bind_some]
      dsimp only
      simp only [show ((5 : Int) == 2) = false from rfl, show ((5 : Int) == 1) = false from rfl, show ((5 : Int) == 4) = false from rfl, show ((5 : Int) == 3) = false from rfl, show ((5 : Int) == 5) = true from rfl, cond_false, cond_true, x1, Option.bind_some, ds_length]
      cases hc : (((l0.length : Nat) : Int) == 1) with
      | true =>
        have ec : comma 5 l0.length = (⟨#[44]⟩ : ByteArray) := by unfold comma; rw [hc]; rfl
        have s44 : (⟨#[44]⟩ : ByteArray).size = 1 := rfl
        rw [ec] at hs ⊢
        rw [cond_true, e44, ask_of (addB rfl (by rw [app_size, app_size]; omega)), ask_of (show byteOk _ from ⟨by decide, by decide⟩), e1, ask_of (addB (app_size _ _).symm (by rw [app_size, app_size, app_size]; omega)), ← app_size]
        simp only [app_assoc]
      | false =>
        have ec : comma 5 l0.length = noT := by unfold comma; rw [hc]; rfl
        rw [ec] at hs ⊢
        rw [cond_false, ask_of (show byteOk _ from ⟨by decide, by decide⟩), e1, ask_of (addB rfl (by rw [app_size, app_size]; omega)), ← app_size, no_app]
        simp only [app_assoc]
    · rw [n59]
      have hfl : V.formedL ((6 : Int) == 7) none l0 = true := by
        rcases hff with ⟨q, _⟩ | ⟨_, _, _, _, q⟩
        · omega
        · exact q
      have hs : buf.size + ((mk0 6 ++ V.txtL true l0) ++ (comma 6 l0.length ++ mk1 6)).size ≤ 1099511627776 := hsz
      rw [app_size, app_size, app_size] at hs
      have s0 : (mk0 6).size = 1 := rfl
      have s1 : (mk1 6).size = 1 := rfl
      have e0 : bcons ((((91 : UInt8)).toNat : Nat) : Int) ByteArray.empty = mk0 6 := rfl
      have e1 : bcons ((((93 : UInt8)).toNat : Nat) : Int) ByteArray.empty = mk1 6 := rfl
      have e44 : bcons 44 ByteArray.empty = (⟨#[44]⟩ : ByteArray) := rfl
      have x0 : sidx (⟨#[91, 93]⟩ : ByteArray) 0 = some 91 := rfl
      have x1 : sidx (⟨#[91, 93]⟩ : ByteArray) 1 = some 93 := rfl
      have hL := L59_eq (F := n59 k) (l := l0) (by omega) (fun v hv => ih v (by have := V.mem_hgtL hv; omega) (by have := V.mem_bigL hv; omega) (okL_all hokl v hv) (formedL_all hfl v hv)) (⟨#[91, 93]⟩ : ByteArray) 6 i0 m0 t0 (V.ds l0) ([((.int .i64 5), (.string (⟨#[40, 41]⟩ : ByteArray))), ((.int .i64 6), (.string (⟨#[91, 93]⟩ : ByteArray))), ((.int .i64 7), (.string (⟨#[123, 125]⟩ : ByteArray)))] : List (Value × Value)) l0 1000000000000 0 (buf ++ mk0 6) (by simp) (by omega) (by rw [app_size]; simp only [decide_true]; omega)
      rw [show ((0 : Nat) : Int) = 0 from rfl] at hL
      simp only [decide_true] at hL
      simp only [show ((6 : Int) == 2) = false from rfl, show ((6 : Int) == 1) = false from rfl, show ((6 : Int) == 4) = false from rfl, show ((6 : Int) == 3) = false from rfl, show ((6 : Int) == 5) = false from rfl, show ((6 : Int) == 6) = true from rfl, cond_false, cond_true, x0, Option.bind_some]
      rw [ask_of (show byteOk _ from ⟨by decide, by decide⟩), e0, ask_of (addB rfl (by omega)), ask_of (by rw [app_size]), ds_length, hL, Option.bind_some]
      dsimp only
      simp only [show ((6 : Int) == 2) = false from rfl, show ((6 : Int) == 1) = false from rfl, show ((6 : Int) == 4) = false from rfl, show ((6 : Int) == 3) = false from rfl, show ((6 : Int) == 5) = false from rfl, show ((6 : Int) == 6) = true from rfl, cond_false, cond_true, x1, Option.bind_some, ds_length]
      have ec : comma 6 l0.length = noT := rfl
      rw [ec] at hs ⊢
      rw [ask_of (show byteOk _ from ⟨by decide, by decide⟩), e1, ask_of (addB rfl (by rw [app_size, app_size]; omega)), ← app_size, no_app]
      simp only [app_assoc]
    · rw [n59]
      have hfl : V.formedL ((7 : Int) == 7) none l0 = true := by
        rcases hff with ⟨q, _⟩ | ⟨_, _, _, _, q⟩
        · omega
        · exact q
      have hs : buf.size + ((mk0 7 ++ V.txtL true l0) ++ (comma 7 l0.length ++ mk1 7)).size ≤ 1099511627776 := hsz
      rw [app_size, app_size, app_size] at hs
      have s0 : (mk0 7).size = 1 := rfl
      have s1 : (mk1 7).size = 1 := rfl
      have e0 : bcons ((((123 : UInt8)).toNat : Nat) : Int) ByteArray.empty = mk0 7 := rfl
      have e1 : bcons ((((125 : UInt8)).toNat : Nat) : Int) ByteArray.empty = mk1 7 := rfl
      have e44 : bcons 44 ByteArray.empty = (⟨#[44]⟩ : ByteArray) := rfl
      have x0 : sidx (⟨#[123, 125]⟩ : ByteArray) 0 = some 123 := rfl
      have x1 : sidx (⟨#[123, 125]⟩ : ByteArray) 1 = some 125 := rfl
      have hL := L59_eq (F := n59 k) (l := l0) (by omega) (fun v hv => ih v (by have := V.mem_hgtL hv; omega) (by have := V.mem_bigL hv; omega) (okL_all hokl v hv) (formedL_all hfl v hv)) (⟨#[123, 125]⟩ : ByteArray) 7 i0 m0 t0 (V.ds l0) ([((.int .i64 5), (.string (⟨#[40, 41]⟩ : ByteArray))), ((.int .i64 6), (.string (⟨#[91, 93]⟩ : ByteArray))), ((.int .i64 7), (.string (⟨#[123, 125]⟩ : ByteArray)))] : List (Value × Value)) l0 1000000000000 0 (buf ++ mk0 7) (by simp) (by omega) (by rw [app_size]; simp only [decide_true]; omega)
      rw [show ((0 : Nat) : Int) = 0 from rfl] at hL
      simp only [decide_true] at hL
      simp only [show ((7 : Int) == 2) = false from rfl, show ((7 : Int) == 1) = false from rfl, show ((7 : Int) == 4) = false from rfl, show ((7 : Int) == 3) = false from rfl, show ((7 : Int) == 5) = false from rfl, show ((7 : Int) == 6) = false from rfl, show ((7 : Int) == 7) = true from rfl, cond_false, cond_true, x0, Option.bind_some]
      rw [ask_of (show byteOk _ from ⟨by decide, by decide⟩), e0, ask_of (addB rfl (by omega)), ask_of (by rw [app_size]), ds_length, hL, Option.bind_some]
      dsimp only
      simp only [show ((7 : Int) == 2) = false from rfl, show ((7 : Int) == 1) = false from rfl, show ((7 : Int) == 4) = false from rfl, show ((7 : Int) == 3) = false from rfl, show ((7 : Int) == 5) = false from rfl, show ((7 : Int) == 6) = false from rfl, show ((7 : Int) == 7) = true from rfl, cond_false, cond_true, x1, Option.bind_some, ds_length]
      have ec : comma 7 l0.length = noT := rfl
      rw [ec] at hs ⊢
      rw [ask_of (show byteOk _ from ⟨by decide, by decide⟩), e1, ask_of (addB rfl (by rw [app_size, app_size]; omega)), ← app_size, no_app]
      simp only [app_assoc]
end Ev
