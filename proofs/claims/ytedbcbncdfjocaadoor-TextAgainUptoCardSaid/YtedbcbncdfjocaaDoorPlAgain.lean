/- What functions of the program compute, as plain Lean functions, each with its proof by the reader (PlAgain); printed by a tool of this work. -/
import Derived.Test.YtedbcbncdfjocaaDoorPlBig
import Derived.Test.YtedbcbncdfjocaaDoorLtAg
set_option linter.unusedSimpArgs false
set_option linter.unusedVariables false
namespace Ev
open Go
def runL {σ : Type} (Y : Yd σ) : Nat → List (List UInt8) → σ → Option (Bool × σ)
  | _, [], st => some (true, st)
  | v, l :: t, st => (Y [encN64 v, encB l] st).bind fun q => bif q.1 then runL Y (v + 1) t q.2 else some (false, q.2)
theorem L85_gen {σ : Type} (Y : Yd σ) (s : ByteArray) : ∀ (d n v : Nat) (l : List UInt8) (st : σ), l.length ≤ d → d < n → l.length ≤ 1048576 → v + l.length ≤ 1048577 →
    (L85_0 Y n (⟨l.toArray⟩, (v : Int), s) st).map (fun p => (ofO85 p.1, p.2)) = (runL Y v (linesF [] l) st).map (fun q => (s, q.2)) := by
  intro d
  induction d with
  | zero =>
    intro n v l st hd hn hl hv
    obtain ⟨m, rfl⟩ : ∃ m, n = m + 1 := ⟨n - 1, by omega⟩
    obtain rfl := List.length_eq_zero_iff.1 (Nat.le_zero.1 hd)
    rw [L85_step, show sEq (⟨([] : List UInt8).toArray⟩ : ByteArray) (⟨#[]⟩ : ByteArray) = true from (sEq_iff _ _).2 rfl, Bool.not_true, cond_false]
    rfl
  | succ d ih =>
    intro n v l st hd hn hl hv
    obtain ⟨m, rfl⟩ : ∃ m, n = m + 1 := ⟨n - 1, by omega⟩
    by_cases h : l = []
    · subst h
      rw [L85_step, show sEq (⟨([] : List UInt8).toArray⟩ : ByteArray) (⟨#[]⟩ : ByteArray) = true from (sEq_iff _ _).2 rfl, Bool.not_true, cond_false]
      rfl
    · have hne : sEq (⟨l.toArray⟩ : ByteArray) (⟨#[]⟩ : ByteArray) = false := by
        rw [Bool.eq_false_iff]
        intro hh
        have := congrArg ByteArray.size ((sEq_iff _ _).1 hh)
        rw [size_mk] at this
        exact h (List.length_eq_zero_iff.1 this)
      have hpos := List.length_pos_iff.2 h
      have hc := cut_len l
      have hc2 := hc.2 h
      have e1 : w64 ((v : Int) + 1) = ((v + 1 : Nat) : Int) := by rw [w64_id (by omega) (by omega)]; omega
      rw [L85_step, hne, Bool.not_false, cond_true, n86_cut (by omega), Option.bind_some, e1, lines_cut l [] (.inr h)]
      show Option.map _ ((Y [encN64 v, encB (Lib.cut l [10]).1] st).bind fun q5 => (bif (!q5.1) then (some (O85_0.x0 s, q5.2)) else (L85_0 Y m (⟨(Lib.cut l [10]).2.1.toArray⟩, ((v + 1 : Nat) : Int), s) q5.2))) = Option.map _ ((Y [encN64 v, encB ([] ++ (Lib.cut l [10]).1)] st).bind fun q => bif q.1 then runL Y (v + 1) (linesF [] (Lib.cut l [10]).2.1) q.2 else some (false, q.2))
      rw [List.nil_append]
      cases Y [encN64 v, encB (Lib.cut l [10]).1] st with
      | none => rfl
      | some q =>
        obtain ⟨b, st'⟩ := q
        cases b with
        | false => rfl
        | true => exact ih m (v + 1) (Lib.cut l [10]).2.1 st' (by omega) (by omega) (by omega) (by omega)
theorem n85_eq {σ : Type} (Y : Yd σ) {s : ByteArray} (hs : s.size ≤ 1048576) (st : σ) : n85 Y s st = (runL Y 1 (linesF [] (bl s)) st).map (fun q => (s, q.2)) := by
  have hsz : s.size = (bl s).length := size_list s
  have h := L85_gen Y s s.size 1000000000000 1 (bl s) st (by omega) (by omega) (by omega) (by omega)
  rw [ba_mk] at h
  show ((L85_0 Y 1000000000000 (s, ((1 : Nat) : Int), s) st).bind fun p8 => match p8.1 with | .x0 z9 => (some (z9, p8.2)) | .x1 z10 => (some (z10, p8.2))) = _
  rw [← h]
  show _ = Option.map _ (L85_0 Y 1000000000000 (s, ((1 : Nat) : Int), s) st)
  cases L85_0 Y 1000000000000 (s, ((1 : Nat) : Int), s) st with
  | none => rfl
  | some p =>
    obtain ⟨o, st'⟩ := p
    cases o <;> rfl
theorem cnt2 (s b : ByteArray) (k : Int) : ∀ (l : List Sp) (c : Nat), c + l.length ≤ 1048600 → ∃ g, runY (W15_2 (σ := Unit) s) l (.inl (k, b, (c : Int)), ()) = some (g, (if (c : Int) < k ∧ k ≤ ((c + l.length : Nat) : Int) then .inr (O15_2.x0 k b k) else .inl (k, b, ((c + l.length : Nat) : Int))), ())
  | [], c, _ => ⟨true, by
    rw [if_neg (by simp)]
    rfl⟩
  | p :: l, c, h => by
    simp only [List.length_cons] at h
    have e1 : w64 ((c : Int) + 1) = ((c + 1 : Nat) : Int) := by rw [w64_id (by omega) (by omega)]; omega
    have e : W15_2 (σ := Unit) s [encS p, encC p] (.inl (k, b, (c : Int)), ()) = (bif ((w64 ((c : Int) + 1)) == k) then (some (false, (Sum.inr (O15_2.x0 k b (w64 ((c : Int) + 1))), ()))) else (some (true, (Sum.inl (k, b, (w64 ((c : Int) + 1))), ())))) := rfl
    rw [runY, e, e1]
    by_cases hk : ((c + 1 : Nat) : Int) = k
    · rw [beq_iff_eq.2 hk, cond_true, Option.bind_some, cond_false, if_pos (by simp only [List.length_cons]; omega), hk]
      exact ⟨false, rfl⟩
    · rw [beq_eq_false_iff_ne.2 hk, cond_false, Option.bind_some, cond_true]
      obtain ⟨g, q⟩ := cnt2 s b k l (c + 1) (by omega)
      refine ⟨g, q.trans ?_⟩
      rw [show c + 1 + l.length = c + (p :: l).length by simp only [List.length_cons]; omega]
      by_cases hc : (c : Int) < k ∧ k ≤ ((c + (p :: l).length : Nat) : Int)
      · rw [if_pos hc, if_pos (by omega)]
      · rw [if_neg hc, if_neg (by omega)]
theorem cnt4 (s b : ByteArray) (k m : Int) : ∀ (l : List (List UInt8)) (v c : Nat), c + l.length ≤ 1048600 → ∃ g, runL (W15_4 (σ := Unit) s) v l (.inl (k, b, m, (c : Int)), ()) = some (g, (if (c : Int) < k ∧ k ≤ ((c + l.length : Nat) : Int) then .inr (O15_4.x0 k b m k) else .inl (k, b, m, ((c + l.length : Nat) : Int))), ())
  | [], v, c, _ => ⟨true, by
    rw [if_neg (by simp)]
    rfl⟩
  | p :: l, v, c, h => by
    simp only [List.length_cons] at h
    have e1 : w64 ((c : Int) + 1) = ((c + 1 : Nat) : Int) := by rw [w64_id (by omega) (by omega)]; omega
    have e : W15_4 (σ := Unit) s [encN64 v, encB p] (.inl (k, b, m, (c : Int)), ()) = (bif ((w64 ((c : Int) + 1)) == k) then (some (false, (Sum.inr (O15_4.x0 k b m (w64 ((c : Int) + 1))), ()))) else (some (true, (Sum.inl (k, b, m, (w64 ((c : Int) + 1))), ())))) := rfl
    rw [runL, e, e1]
    by_cases hk : ((c + 1 : Nat) : Int) = k
    · rw [beq_iff_eq.2 hk, cond_true, Option.bind_some, cond_false, if_pos (by simp only [List.length_cons]; omega), hk]
      exact ⟨false, rfl⟩
    · rw [beq_eq_false_iff_ne.2 hk, cond_false, Option.bind_some, cond_true]
      obtain ⟨g, q⟩ := cnt4 s b k m l (v + 1) (c + 1) (by omega)
      refine ⟨g, q.trans ?_⟩
      rw [show c + 1 + l.length = c + (p :: l).length by simp only [List.length_cons]; omega]
      by_cases hc : (c : Int) < k ∧ k ≤ ((c + (p :: l).length : Nat) : Int)
      · rw [if_pos hc, if_pos (by omega)]
      · rw [if_neg hc, if_neg (by omega)]
theorem cnt2v (s b : ByteArray) (k : Int) : ∀ (l : List Sp) (c : Nat), c + l.length ≤ 1048600 → runY (W15_2v1 (σ := Unit) s) l (.inl (k, b, (c : Int)), ()) = some (true, .inl (k, b, ((c + l.length : Nat) : Int)), ())
  | [], c, _ => rfl
  | p :: l, c, h => by
    simp only [List.length_cons] at h
    have e1 : w64 ((c : Int) + 1) = ((c + 1 : Nat) : Int) := by rw [w64_id (by omega) (by omega)]; omega
    have e : W15_2v1 (σ := Unit) s [encS p, encC p] (.inl (k, b, (c : Int)), ()) = (some (true, (Sum.inl (k, b, (w64 ((c : Int) + 1))), ()))) := rfl
    rw [runY, e, e1, Option.bind_some, cond_true]
    refine (cnt2v s b k l (c + 1) (by omega)).trans ?_
    rw [show c + 1 + l.length = c + (p :: l).length by simp only [List.length_cons]; omega]
theorem cnt4v (s b : ByteArray) (k m : Int) : ∀ (l : List (List UInt8)) (v c : Nat), c + l.length ≤ 1048600 → runL (W15_4v1 (σ := Unit) s) v l (.inl (k, b, m, (c : Int)), ()) = some (true, .inl (k, b, m, ((c + l.length : Nat) : Int)), ())
  | [], v, c, _ => rfl
  | p :: l, v, c, h => by
    simp only [List.length_cons] at h
    have e1 : w64 ((c : Int) + 1) = ((c + 1 : Nat) : Int) := by rw [w64_id (by omega) (by omega)]; omega
    have e : W15_4v1 (σ := Unit) s [encN64 v, encB p] (.inl (k, b, m, (c : Int)), ()) = (some (true, (Sum.inl (k, b, m, (w64 ((c : Int) + 1))), ()))) := rfl
    rw [runL, e, e1, Option.bind_some, cond_true]
    refine (cnt4v s b k m l (v + 1) (c + 1) (by omega)).trans ?_
    rw [show c + 1 + l.length = c + (p :: l).length by simp only [List.length_cons]; omega]
theorem plain15 (s : ByteArray) (k : Int) (hs : s.size ≤ 1048576) (_ : (Lit.int .i64 k).wf = true) : n15 (s, k) = some true := by
  have hN : (spots s).length = (runesL s 0).length := spots_length s
  have hNb : (runesL s 0).length ≤ 1048576 := by
    have := runesL_length (s := s) s.size 0 (by omega)
    omega
  have hLb : (linesF [] (bl s)).length ≤ 1048576 := by
    have := lines_len (bl s) []
    have hsz : s.size = (bl s).length := size_list s
    simp only [List.length_nil] at this
    omega
  obtain ⟨g1, r1⟩ := cnt2 s s k (spots s) 0 (by omega)
  have r4 := fun m => cnt4 s s k m (linesF [] (bl s)) 1 0 (by omega)
  have r2v := cnt2v s s k (spots s) 0 (by omega)
  have r4v := fun m => cnt4v s s k m (linesF [] (bl s)) 1 0 (by omega)
  rw [hN] at r1 r2v
  have e55 := n55_eq (s := s) (by omega)
  have e34 := n34_eq (s := s) (by omega)
  simp only [Nat.zero_add, Int.ofNat_zero, Int.natCast_zero] at r1 r4 r2v r4v
  generalize hNN : (runesL s 0).length = N at *
  generalize hLL : (linesF [] (bl s)).length = L at *
  have f1 := n83_eq (W15_2 (σ := Unit) s) (s := s) (by omega)
  have f2 := n85_eq (W15_4 (σ := Unit) s) hs
  have f3 := n83_eq (W15_2v1 (σ := Unit) s) (s := s) (by omega)
  have f4 := n85_eq (W15_4v1 (σ := Unit) s) hs
  by_cases h1 : (0 : Int) < k ∧ k ≤ (N : Int)
  · rw [if_pos h1] at r1
    by_cases h2 : (0 : Int) < k ∧ k ≤ (L : Int)
    · obtain ⟨g4, r4'⟩ := r4 k
      rw [if_pos h2] at r4'
      have c1 : (if k < (N : Int) then k else (N : Int)) = k := by split <;> omega
      have c2 : (if k < (L : Int) then k else (L : Int)) = k := by split <;> omega
      simp only [n15, f1, f2, f3, f4, r1, r4', r2v, r4v, Option.map_some, Option.bind_some, e55, e34, List.length_map, hLL, c1, c2, decide_eq_true (show k > 0 by omega), cond_true, bne_self_eq_false, cond_false, alive_true]
    · obtain ⟨g4, r4'⟩ := r4 k
      rw [if_neg h2] at r4'
      have c1 : (if k < (N : Int) then k else (N : Int)) = k := by split <;> omega
      have c2 : (if k < (L : Int) then k else (L : Int)) = (L : Int) := by split <;> omega
      simp only [n15, f1, f2, f3, f4, r1, r4', r2v, r4v, Option.map_some, Option.bind_some, e55, e34, List.length_map, hLL, c1, c2, decide_eq_true (show k > 0 by omega), cond_true, bne_self_eq_false, cond_false, alive_true]
  · rw [if_neg h1] at r1
    by_cases h2 : (0 : Int) < k ∧ k ≤ (L : Int)
    · obtain ⟨g4, r4'⟩ := r4 (N : Int)
      rw [if_pos h2] at r4'
      have c1 : (if k < (N : Int) then k else (N : Int)) = (N : Int) := by split <;> omega
      have c2 : (if k < (L : Int) then k else (L : Int)) = k := by split <;> omega
      simp only [n15, f1, f2, f3, f4, r1, r4', r2v, r4v, Option.map_some, Option.bind_some, e55, e34, List.length_map, hLL, c1, c2, decide_eq_true (show k > 0 by omega), cond_true, bne_self_eq_false, cond_false, alive_true]
    · obtain ⟨g4, r4'⟩ := r4 (N : Int)
      rw [if_neg h2] at r4'
      by_cases hk : k > 0
      · have c1 : (if k < (N : Int) then k else (N : Int)) = (N : Int) := by split <;> omega
        have c2 : (if k < (L : Int) then k else (L : Int)) = (L : Int) := by split <;> omega
        simp only [n15, f1, f2, f3, f4, r1, r4', r2v, r4v, Option.map_some, Option.bind_some, e55, e34, List.length_map, hLL, c1, c2, decide_eq_true hk, cond_true, bne_self_eq_false, cond_false, alive_true]
      · simp only [n15, f1, f2, f3, f4, r1, r4', r2v, r4v, Option.map_some, Option.bind_some, e55, e34, List.length_map, hLL, decide_eq_false hk, cond_true, bne_self_eq_false, cond_false, alive_true]
end Ev
