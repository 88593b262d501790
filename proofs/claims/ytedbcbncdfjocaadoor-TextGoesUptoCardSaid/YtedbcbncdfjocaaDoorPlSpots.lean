/- Plain law: TextSpots. -/
import Derived.Test.YtedbcbncdfjocaaDoorPlRunes
set_option linter.unusedSimpArgs false
set_option linter.unusedVariables false
namespace Ev
open Go

/-- Line and column of a place. -/
def atOf (off : Int) : Nat → Nat → List Ru → Nat × Nat
  | l, c, [] => (l, c)
  | l, c, r :: t => if (r.2.1 : Int) < off then (if r.1 = 10 then atOf off (l + 1) 1 t else atOf off l (c + 1) t) else (l, c)
def clamp (s : ByteArray) (a : Int) : Int := if (s.size : Int) < (if 0 > a then 0 else a) then (s.size : Int) else (if 0 > a then 0 else a)
theorem L59_step (v6 : Int) (v7 : List D) (k : Nat) (v9 v10 v11 v12 v13 v14 : Int) (n : Nat) : L59_0 (n + 1) (v6, v7, (k : Int), v9, v10, v11, v12, v13, v14) () = (bif (decide ((k : Int) < ((v7.length : Nat) : Int))) then ((lidx v7 (k : Int)).bind fun d15 => ask (d15.cells.length = 3) ((cellAt 1 d15).bind fun x16 => (asInt .i64 x16).bind fun x17 => (bif (decide (x17 < v6)) then ((lidx v7 (k : Int)).bind fun d18 => ask (d18.cells.length = 3) ((cellAt 0 d18).bind fun x19 => (asInt .i64 x19).bind fun x20 => (bif (x20 == 10) then (L59_0 n (v6, v7, (w64 ((k : Int) + 1)), v9, v10, v11, v12, (w64 (v13 + 1)), 1) ()) else (L59_0 n (v6, v7, (w64 ((k : Int) + 1)), v9, v10, v11, v12, v13, (w64 (v14 + 1))) ())))) else (some (O59_0.x0 v9 v10 v11 v12 v13 v14, ()))))) else (some (O59_0.x0 v9 v10 v11 v12 v13 v14, ()))) := rfl
theorem L59 {l : List Ru} (hl : l.length ≤ 1048576) (off v9 v10 v11 v12 : Int) : ∀ (d n k ln c : Nat), l.length - k ≤ d → d < n → k ≤ l.length → ln ≤ k + 1 → c ≤ k + 1 →
    L59_0 n (off, l.map encR, (k : Int), v9, v10, v11, v12, (ln : Int), (c : Int)) () = some (O59_0.x0 v9 v10 v11 v12 ((atOf off ln c (l.drop k)).1 : Int) ((atOf off ln c (l.drop k)).2 : Int), ()) := by
  intro d
  induction d with
  | zero =>
    intro n k ln c hd hn hk h1 h2
    obtain ⟨m, rfl⟩ : ∃ m, n = m + 1 := ⟨n - 1, by omega⟩
    rw [L59_step, List.length_map, decide_eq_false (by omega), cond_false, List.drop_eq_nil_of_le (by omega), atOf]
  | succ d ih =>
    intro n k ln c hd hn hk h1 h2
    obtain ⟨m, rfl⟩ : ∃ m, n = m + 1 := ⟨n - 1, by omega⟩
    by_cases h : k < l.length
    · have e0 : w64 ((k : Int) + 1) = ((k + 1 : Nat) : Int) := by rw [w64_id (by omega) (by omega)]; omega
      have e1 : w64 ((ln : Int) + 1) = ((ln + 1 : Nat) : Int) := by rw [w64_id (by omega) (by omega)]; omega
      have e2 : w64 ((c : Int) + 1) = ((c + 1 : Nat) : Int) := by rw [w64_id (by omega) (by omega)]; omega
      rw [L59_step, List.length_map, decide_eq_true (by omega), cond_true, lidx_map, List.getElem?_eq_getElem h, e0, e1, e2, List.drop_eq_getElem_cons h, atOf]
      simp only [Option.map_some, Option.bind_some, ask_of (lenR _), cellR0, cellR1, asI64]
      by_cases hlt : ((l[k]).2.1 : Int) < off
      · rw [decide_eq_true hlt, cond_true, if_pos hlt]
        by_cases h10 : (l[k]).1 = 10
        · rw [show ((l[k]).1 == 10) = true from beq_iff_eq.2 h10, cond_true, if_pos h10]
          exact ih m (k + 1) (ln + 1) 1 (by omega) (by omega) (by omega) (by omega) (by omega)
        · rw [show ((l[k]).1 == 10) = false from beq_eq_false_iff_ne.2 h10, cond_false, if_neg h10]
          exact ih m (k + 1) ln (c + 1) (by omega) (by omega) (by omega) (by omega) (by omega)
      · rw [decide_eq_false hlt, cond_false, if_neg hlt]
    · rw [L59_step, List.length_map, decide_eq_false (by omega), cond_false, List.drop_eq_nil_of_le (by omega), atOf]
/-- The spot of a place. -/
def atS (s : ByteArray) (a : Int) : Int × Int × Int := (clamp s a, ((atOf (clamp s a) 1 1 (runesL s 0)).1 : Int), ((atOf (clamp s a) 1 1 (runesL s 0)).2 : Int))
theorem n59_eq {s : ByteArray} (hs : s.size ≤ 1048576) (a : Int) : n59 (s, a) = some (atS s a) := by
  have hle := runesL_length (s := s) s.size 0 (by omega)
  have h := L59 (l := runesL s 0) (by omega) (clamp s a) 0 0 0 (clamp s a) (runesL s 0).length 1000000000000 0 1 1 (by omega) (by omega) (by omega) (by omega) (by omega)
  show ((n29 s).bind fun y5 => ((L59_0 1000000000000 (clamp s a, y5, ((0 : Nat) : Int), 0, 0, 0, clamp s a, ((1 : Nat) : Int), ((1 : Nat) : Int)) ()).bind fun p27 => match p27.1 with | .x0 z28 z29 z30 z31 z32 z33 => (some (z31, z32, z33)))) = _
  rw [n29_eq hs, Option.bind_some, h]
  rfl
theorem run56 (off v10 v11 v12 v13 : Int) : ∀ (t : List Ru) (l c : Nat), t.length + l ≤ 1048580 → t.length + c ≤ 1048580 →
    ∃ b, (runY (W56_0 (σ := Unit) ()) (spotsOf l c t) (.inl (off, v10, v11, v12, v13, (l : Int), (c : Int)), ()) = some (b, (.inl (off, v10, v11, v12, v13, ((atOf off l c t).1 : Int), ((atOf off l c t).2 : Int)), ())) ∨ runY (W56_0 (σ := Unit) ()) (spotsOf l c t) (.inl (off, v10, v11, v12, v13, (l : Int), (c : Int)), ()) = some (b, (.inr (.x0 off v10 v11 v12 v13 ((atOf off l c t).1 : Int) ((atOf off l c t).2 : Int)), ())))
  | [], l, c, _, _ => ⟨true, .inl rfl⟩
  | r :: t, l, c, h1, h2 => by
    simp only [List.length_cons] at h1 h2
    have e1 : w64 ((l : Int) + 1) = ((l + 1 : Nat) : Int) := by rw [w64_id (by omega) (by omega)]; omega
    have e2 : w64 ((c : Int) + 1) = ((c + 1 : Nat) : Int) := by rw [w64_id (by omega) (by omega)]; omega
    have hW : W56_0 (σ := Unit) () [encS (r.1, r.2.1, l, c), encC (r.1, r.2.1, l, c)] (.inl (off, v10, v11, v12, v13, (l : Int), (c : Int)), ()) = (bif (decide ((r.2.1 : Int) ≥ off)) then (some (false, (Sum.inr (O56_0.x0 off v10 v11 v12 v13 (l : Int) (c : Int)), ()))) else (bif (r.1 == 10) then (some (true, (Sum.inl (off, v10, v11, v12, v13, (w64 ((l : Int) + 1)), 1), ()))) else (some (true, (Sum.inl (off, v10, v11, v12, v13, (l : Int), (w64 ((c : Int) + 1))), ()))))) := rfl
    rw [spotsOf, runY, hW, e1, e2, atOf]
    by_cases hlt : (r.2.1 : Int) < off
    · rw [decide_eq_false (by omega : ¬ (r.2.1 : Int) ≥ off), cond_false, if_pos hlt]
      by_cases h10 : r.1 = 10
      · rw [show (r.1 == 10) = true from beq_iff_eq.2 h10, cond_true, if_pos h10, if_pos h10, Option.bind_some, cond_true]
        exact run56 off v10 v11 v12 v13 t (l + 1) 1 (by omega) (by omega)
      · rw [show (r.1 == 10) = false from beq_eq_false_iff_ne.2 h10, cond_false, if_neg h10, if_neg h10, Option.bind_some, cond_true]
        exact run56 off v10 v11 v12 v13 t l (c + 1) (by omega) (by omega)
    · rw [decide_eq_true (by omega : (r.2.1 : Int) ≥ off), cond_true, if_neg hlt, Option.bind_some, cond_false]
      exact ⟨false, .inr rfl⟩
theorem n56_eq {s : ByteArray} (hs : s.size ≤ 1048576) (a : Int) : n56 (s, a) = some (atS s a) := by
  have hle := runesL_length (s := s) s.size 0 (by omega)
  show ((n83 (W56_0 ()) s (Sum.inl (clamp s a, 0, 0, 0, 0, ((1 : Nat) : Int), ((1 : Nat) : Int)), ())).bind fun p23 => match p23.2.1 with | .inl z24 => (some ((z24.1), (z24.2.2.2.2.2.1), (z24.2.2.2.2.2.2))) | .inr o32 => (match o32 with | .x0 z25 z26 z27 z28 z29 z30 z31 => (some (z25, z30, z31)))) = _
  rw [n83_eq _ hs]
  obtain ⟨b, h | h⟩ := run56 (clamp s a) 0 0 0 0 (runesL s 0) 1 1 (by omega) (by omega)
  · show (Option.map _ (runY (W56_0 (σ := Unit) ()) (spotsOf 1 1 (runesL s 0)) _)).bind _ = _
    rw [h]; rfl
  · show (Option.map _ (runY (W56_0 (σ := Unit) ()) (spotsOf 1 1 (runesL s 0)) _)).bind _ = _
    rw [h]; rfl
/-- The spot of a rune's beginning. -/
theorem at_spot {s : ByteArray} : ∀ (d i l c k : Nat) (p : Sp), s.size - i ≤ d → (spotsOf l c (runesL s i))[k]? = some p → i ≤ p.2.1 ∧ p.2.1 < s.size ∧ atOf (p.2.1 : Int) l c (runesL s i) = (p.2.2.1, p.2.2.2) := by
  intro d
  induction d with
  | zero =>
    intro i l c k p hd h
    rw [runesL_nil (by omega)] at h
    simp [spotsOf] at h
  | succ d ih =>
    intro i l c k p hd h
    by_cases hi : i < s.size
    · have w1 := wd_pos s i
      rw [runesL_cons hi, spotsOf] at h
      cases k with
      | zero =>
        simp only [List.getElem?_cons_zero, Option.some.injEq] at h
        subst h
        refine ⟨Nat.le_refl _, hi, ?_⟩
        rw [runesL_cons hi, atOf, if_neg (by simp)]
      | succ k =>
        simp only [List.getElem?_cons_succ] at h
        rw [runesL_cons hi, atOf]
        by_cases h10 : rn s i = 10
        · rw [if_pos h10] at h
          obtain ⟨q1, q2, q3⟩ := ih (i + wd s i) (l + 1) 1 k p (by omega) h
          refine ⟨by omega, q2, ?_⟩
          rw [if_pos (by simp only; omega), if_pos h10, q3]
        · rw [if_neg h10] at h
          obtain ⟨q1, q2, q3⟩ := ih (i + wd s i) l (c + 1) k p (by omega) h
          refine ⟨by omega, q2, ?_⟩
          rw [if_pos (by simp only; omega), if_neg h10, q3]
    · rw [runesL_nil (by omega)] at h
      simp [spotsOf] at h
theorem atS_spot {s : ByteArray} {k : Nat} {p : Sp} (h : (spots s)[k]? = some p) : atS s (p.2.1 : Int) = ((p.2.1 : Int), (p.2.2.1 : Int), (p.2.2.2 : Int)) := by
  obtain ⟨_, q2, q3⟩ := at_spot s.size 0 1 1 k p (by omega) h
  have hc : clamp s (p.2.1 : Int) = (p.2.1 : Int) := by unfold clamp; split <;> split at * <;> omega
  unfold atS
  rw [hc, q3]
/-- The first broken rune. -/
def firstBad : List Sp → Option Sp
  | [] => none
  | p :: t => if p.1 < 0 then some p else firstBad t
def plainS (s : ByteArray) : Int × Int × Int × Bool := match firstBad (spots s) with
  | some p => ((p.2.1 : Int), (p.2.2.1 : Int), (p.2.2.2 : Int), false)
  | none => (0, 0, 0, true)
theorem run57 (a b c : Int) (f : Bool) : ∀ (t : List Sp), ∃ g, runY (W57_0 (σ := Unit) ()) t (.inl (a, b, c, f), ()) = some (g, (match firstBad t with | some p => .inr (.x0 (p.2.1 : Int) (p.2.2.1 : Int) (p.2.2.2 : Int) false) | none => .inl (a, b, c, f)), ())
  | [] => ⟨true, rfl⟩
  | p :: t => by
    have hW : W57_0 (σ := Unit) () [encS p, encC p] (.inl (a, b, c, f), ()) = (bif (decide (p.1 < 0)) then (some (false, (Sum.inr (O57_0.x0 (p.2.1 : Int) (p.2.2.1 : Int) (p.2.2.2 : Int) false), ()))) else (some (true, (Sum.inl (a, b, c, f), ())))) := rfl
    rw [runY, hW, firstBad]
    by_cases h : p.1 < 0
    · rw [decide_eq_true h, cond_true, if_pos h, Option.bind_some, cond_false]
      exact ⟨false, rfl⟩
    · rw [decide_eq_false h, cond_false, if_neg h, Option.bind_some, cond_true]
      exact run57 a b c f t
theorem n57_eq {s : ByteArray} (hs : s.size ≤ 1048576) : n57 s = some (plainS s) := by
  show ((n83 (W57_0 ()) s (Sum.inl (0, 0, 0, false), ())).bind fun p17 => match p17.2.1 with | .inl z18 => (some (0, 0, 0, true)) | .inr o23 => (match o23 with | .x0 z19 z20 z21 z22 => (some (z19, z20, z21, z22)))) = _
  obtain ⟨g, h⟩ := run57 0 0 0 false (spots s)
  rw [n83_eq _ hs, h]
  unfold plainS
  cases firstBad (spots s) <;> rfl
theorem L58_step (v6 : ByteArray) (v7 : List D) (k : Nat) (v9 v10 v11 : Int) (n : Nat) : L58_0 (n + 1) (v6, v7, (k : Int), v9, v10, v11) () = (bif (decide ((k : Int) < ((v7.length : Nat) : Int))) then ((lidx v7 (k : Int)).bind fun d12 => ask (d12.cells.length = 3) ((cellAt 0 d12).bind fun x13 => (asInt .i64 x13).bind fun x14 => (bif (decide (x14 < 0)) then ((lidx v7 (k : Int)).bind fun d15 => ask (d15.cells.length = 3) ((cellAt 1 d15).bind fun x16 => (asInt .i64 x16).bind fun x17 => ((n59 (v6, x17)).bind fun y18 => (some (O58_0.x0 false y18.1 y18.2.1 y18.2.2, ()))))) else (L58_0 n (v6, v7, (w64 ((k : Int) + 1)), v9, v10, v11) ())))) else (some (O58_0.x1 v9 v10 v11, ()))) := rfl
theorem L58 {s : ByteArray} (hs : s.size ≤ 1048576) (v9 v10 v11 : Int) : ∀ (d n k : Nat), (spots s).length - k ≤ d → d < n → k ≤ (spots s).length → L58_0 n (s, (runesL s 0).map encR, (k : Int), v9, v10, v11) () = some (match firstBad ((spots s).drop k) with | some p => O58_0.x0 false (p.2.1 : Int) (p.2.2.1 : Int) (p.2.2.2 : Int) | none => O58_0.x1 v9 v10 v11, ()) := by
  have hle := spots_le s
  have hlen := spots_length s
  intro d
  induction d with
  | zero =>
    intro n k hd hn hk
    obtain ⟨m, rfl⟩ : ∃ m, n = m + 1 := ⟨n - 1, by omega⟩
    rw [L58_step, List.length_map, decide_eq_false (by omega), cond_false, List.drop_eq_nil_of_le (by omega)]
    rfl
  | succ d ih =>
    intro n k hd hn hk
    obtain ⟨m, rfl⟩ : ∃ m, n = m + 1 := ⟨n - 1, by omega⟩
    by_cases h : k < (spots s).length
    · have e0 : w64 ((k : Int) + 1) = ((k + 1 : Nat) : Int) := by rw [w64_id (by omega) (by omega)]; omega
      have hp : (spots s)[k]? = some (spots s)[k] := List.getElem?_eq_getElem h
      obtain ⟨r, hr, h1, h2⟩ := sp_ru 1 1 (runesL s 0) k _ hp
      rw [L58_step, List.length_map, decide_eq_true (by omega), cond_true, lidx_map, hr, e0, List.drop_eq_getElem_cons h, firstBad]
      simp only [Option.map_some, Option.bind_some, ask_of (lenR _), cellR0, cellR1, asI64]
      rw [h1, h2]
      by_cases hb : ((spots s)[k]).1 < 0
      · rw [decide_eq_true hb, cond_true, if_pos hb, n59_eq hs, Option.bind_some, atS_spot hp]
      · rw [decide_eq_false hb, cond_false, if_neg hb]
        exact ih m (k + 1) (by omega) (by omega) (by omega)
    · rw [L58_step, List.length_map, decide_eq_false (by omega), cond_false, List.drop_eq_nil_of_le (by omega)]
      rfl
theorem n58_eq {s : ByteArray} (hs : s.size ≤ 1048576) : n58 s = some (plainS s) := by
  have hle := spots_le s
  have h := L58 hs 0 0 0 (spots s).length 1000000000000 0 (by omega) (by omega) (by omega)
  show ((n29 s).bind fun y5 => ((L58_0 1000000000000 (s, y5, ((0 : Nat) : Int), 0, 0, 0) ()).bind fun p26 => match p26.1 with | .x0 z27 z28 z29 z30 => (some (z28, z29, z30, z27)) | .x1 z31 z32 z33 => (some (0, 0, 0, true)))) = _
  rw [n29_eq hs, Option.bind_some, h]
  unfold plainS
  rw [List.drop_zero]
  cases firstBad (spots s) <;> rfl
theorem plain17 (a0 : ByteArray) (a1 : Int) (h : a0.size ≤ 1048576) (w : (Lit.int .i64 a1).wf = true) : n17 (a0, a1) = some true := by
  simp only [n17, n57_eq h, n58_eq h, n56_eq h, n59_eq h, n52_eq h, n55_eq h, Option.bind_some, n31_same, cond_true, beq_self_eq_true, alive_true]
end Ev
