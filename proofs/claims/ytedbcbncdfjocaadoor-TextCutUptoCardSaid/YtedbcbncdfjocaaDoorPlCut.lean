/- Plain law: TextCut. -/
import Derived.Test.YtedbcbncdfjocaaDoorPlLines
import Derived.Test.YtedbcbncdfjocaaDoorPlPad
import Derived.Lib.MapLaws
set_option linter.unusedSimpArgs false
set_option linter.unusedVariables false
namespace Ev
open Go

theorem getD_drop (s : ByteArray) (i k : Nat) : ((bl s).drop i).getD k 0 = s.get! (i + k) := by
  rw [get_bang_eq, List.getD_eq_getElem?_getD, List.getElem?_drop]
theorem dec_small {s : ByteArray} {i : Nat} (h : (Utf8.decode s i).1 < 128) : Utf8.decode s i = (bt s i, 1) := by
  rw [← Lib.decodeL_drop, Lib.decodeL_N] at h ⊢
  rw [getD_drop s i 0] at h ⊢
  have k0 := bt_lt (s := s) i
  rcases Lib.decodeN_shape ((bl s).drop i).length (s.get! (i + 0)).toNat (((bl s).drop i).getD 1 0).toNat (((bl s).drop i).getD 2 0).toNat (((bl s).drop i).getD 3 0).toNat with q | q | q | q | q
  · rw [q.2]; rfl
  · obtain ⟨a1, a2, a3, a4, e⟩ := q
    rw [e] at h; simp only at h; omega
  · obtain ⟨a1, a2, a3, a4, a5, a6, e⟩ := q
    rw [e] at h; simp only at h; omega
  · obtain ⟨a1, a2, a3, a4, a5, a6, a7, e⟩ := q
    rw [e] at h; simp only at h; omega
  · rw [q] at h; simp at h
theorem dec_ascii {s : ByteArray} {i : Nat} (h : bt s i < 128) : Utf8.decode s i = (bt s i, 1) := by
  rw [← Lib.decodeL_drop, Lib.decodeL_N, getD_drop s i 0, Lib.decodeN_ascii _ _ _ _ _ (show (s.get! (i + 0)).toNat < 128 from h)]
  rfl
/-- A word: where it begins, where it ends, and two numbers told of it. -/
abbrev Wd := Nat × Nat × Int × Int
def encW (s : ByteArray) (w : Wd) : D := .agg [.val (.string (s.extract w.1 w.2.1)), .val (.int .i64 (w.1 : Int)), .val (.int .i64 w.2.2.1), .val (.int .i64 w.2.2.2)]
def bk (s : ByteArray) (j : Nat) : Prop := bt s j = 32 ∨ bt s j = 9 ∨ bt s j = 13
def wOk (s : ByteArray) (e : Nat) (w : Wd) : Prop := e ≤ w.1 ∧ w.1 < w.2.1 ∧ w.2.1 ≤ s.size ∧ (∀ j, e ≤ j → j < w.1 → bk s j) ∧ bt s w.1 ≠ 35
def chain (s : ByteArray) : Nat → List Wd → Nat → Prop
  | a, [], e => a = e
  | a, w :: t, e => wOk s a w ∧ chain s w.2.1 t e
theorem chain_snoc {s : ByteArray} {w : Wd} : ∀ (acc : List Wd) (a e : Nat), chain s a acc e → wOk s e w → chain s a (acc ++ [w]) w.2.1
  | [], a, e, h, hw => by
    obtain rfl : a = e := h
    exact ⟨hw, rfl⟩
  | x :: t, a, e, h, hw => ⟨h.1, chain_snoc t x.2.1 e h.2 hw⟩
def tailOk (s : ByteArray) (e : Nat) : Prop := (∀ j, e ≤ j → j < s.size → bk s j) ∨ (∃ j, e ≤ j ∧ j < s.size ∧ (∀ i, e ≤ i → i < j → bk s i) ∧ bt s j = 35 ∧ (j = 0 ∨ bk s (j - 1)))
theorem n69_dec (s : ByteArray) (i : Nat) : ∃ b, n69 ((Utf8.decode s i).1 : Int) = some b ∧ (b = true → bk s i ∧ (Utf8.decode s i).2 = 1) := by
  refine ⟨_, rfl, fun hb => ?_⟩
  have h : (Utf8.decode s i).1 = 32 ∨ (Utf8.decode s i).1 = 9 ∨ (Utf8.decode s i).1 = 13 := by
    simp only [cond_iff, beq_iff_eq] at hb
    omega
  have e := dec_small (s := s) (i := i) (by omega)
  rw [e] at h ⊢
  exact ⟨h, rfl⟩
theorem addOk_mapW (s : ByteArray) (acc : List Wd) (x : Wd) (h : (acc.length + 1) * 40 ≤ maxBytes) : addOk (acc.map (encW s)).length (acc.map (encW s)) [encW s x] 4 40 := addOk_map (encW s) 4 40 (fun _ => rfl) acc x h
theorem L35_step (v3 v4 : Int) (v5 : ByteArray) (v6 : List D) (v7 v8 v9 v10 : Int) (v11 : ByteArray) (v12 k13 : Nat) (n : Nat) : L35_0 (n + 1) (v3, v4, v5, v6, v7, v8, v9, v10, v11, v12, k13) () = (bif decide (v12 < v11.size) then ((n69 ((Utf8.decode v11 v12).1 : Int)).bind fun y14 => (bif y14 then (bif (decide (v10 ≥ 0)) then (ask (cutOk v10 (v12 : Int) v5.size) (ask (addOk v6.length v6 ([.agg [.val (.string (v5.extract (Int.toNat v10) (Int.toNat (v12 : Int)))), .val (.int .i64 v7), .val (.int .i64 v8), .val (.int .i64 v9)]] : List D) 4 40) (ask (([k13, (v6.length + ([.agg [.val (.string (v5.extract (Int.toNat v10) (Int.toNat (v12 : Int)))), .val (.int .i64 v7), .val (.int .i64 v8), .val (.int .i64 v9)]] : List D).length)] : List Nat) = [k13, (v6 ++ ([.agg [.val (.string (v5.extract (Int.toNat v10) (Int.toNat (v12 : Int)))), .val (.int .i64 v7), .val (.int .i64 v8), .val (.int .i64 v9)]] : List D)).length]) (L35_0 n (v3, (w64 (v4 + 1)), v5, (v6 ++ ([.agg [.val (.string (v5.extract (Int.toNat v10) (Int.toNat (v12 : Int)))), .val (.int .i64 v7), .val (.int .i64 v8), .val (.int .i64 v9)]] : List D)), v7, v8, v9, (-1), v11, (v12 + (Utf8.decode v11 v12).2), k13) ())))) else (ask (([k13, v6.length] : List Nat) = [k13, v6.length]) (L35_0 n (v3, (w64 (v4 + 1)), v5, v6, v7, v8, v9, (-1), v11, (v12 + (Utf8.decode v11 v12).2), k13) ()))) else (bif (bif (decide (v10 < 0)) then (((Utf8.decode v11 v12).1 : Int) == 35) else false) then (ask (([k13, v6.length] : List Nat) = [k13, v6.length]) (some (O35_0.x0 v6 v5 v6 v7 v8 v9 v10 v11 (v12 + (Utf8.decode v11 v12).2) k13, ()))) else (bif (decide (v10 < 0)) then (ask (([k13, v6.length] : List Nat) = [k13, v6.length]) (L35_0 n (v3, (w64 (v4 + 1)), v5, v6, (v12 : Int), v3, (w64 (v4 + 1)), (v12 : Int), v11, (v12 + (Utf8.decode v11 v12).2), k13) ())) else (ask (([k13, v6.length] : List Nat) = [k13, v6.length]) (L35_0 n (v3, (w64 (v4 + 1)), v5, v6, v7, v8, v9, v10, v11, (v12 + (Utf8.decode v11 v12).2), k13) ())))))) else (ask (([k13, v6.length] : List Nat) = [k13, v6.length]) (some (O35_0.x1 v5 v6 v7 v8 v9 v10 v11 v12 k13, ())))) := rfl
def fin35 (p : Option (O35_0 × Unit)) : Option (List D) := p.bind fun p34 => match p34.1 with | .x0 z35 z36 z37 z38 z39 z40 z41 z42 z43 z44 => (some z35) | .x1 z45 z46 z47 z48 z49 z50 z51 z52 z53 => (bif (decide (z50 ≥ 0)) then (ask (cutOk z50 (z45.size : Int) z45.size) (ask (addOk z46.length z46 ([.agg [.val (.string (z45.extract (Int.toNat z50) (Int.toNat (z45.size : Int)))), .val (.int .i64 z47), .val (.int .i64 z48), .val (.int .i64 z49)]] : List D) 4 40) (some (z46 ++ ([.agg [.val (.string (z45.extract (Int.toNat z50) (Int.toNat (z45.size : Int)))), .val (.int .i64 z47), .val (.int .i64 z48), .val (.int .i64 z49)]] : List D))))) else (some z46))
theorem n35_fin (s : ByteArray) (a : Int) : n35 (s, a) = fin35 (L35_0 1000000000000 (a, 0, s, [], 0, 0, 0, (-1), s, 0, 0) ()) := by
  show (ask (([0, 0] : List Nat) = [0, ([] : List D).length]) (fin35 (L35_0 1000000000000 (a, 0, s, ([] : List D), 0, 0, 0, (-1), s, 0, 0) ()))) = _
  rw [ask_of (show ([0, 0] : List Nat) = [0, ([] : List D).length] from rfl)]
/-- Where the walk stands: between words, or in one. -/
def st35 (s : ByteArray) (e i : Nat) (v7 cur : Int) : Prop := (cur = -1 ∧ (∀ j, e ≤ j → j < i → bk s j) ∧ (e < i ∨ i = 0)) ∨ (∃ st : Nat, cur = (st : Int) ∧ v7 = (st : Int) ∧ e ≤ st ∧ st < i ∧ (∀ j, e ≤ j → j < st → bk s j) ∧ bt s st ≠ 35)
theorem L35 {s : ByteArray} (hs : s.size ≤ 1048576) (ln : Int) (k13 : Nat) : ∀ (d n i : Nat) (v4 v7 v8 v9 cur : Int) (acc : List Wd) (e : Nat), s.size - i ≤ d → d < n → i ≤ s.size → acc.length ≤ i → chain s 0 acc e → e ≤ i → st35 s e i v7 cur →
    ∃ acc' e', fin35 (L35_0 n (ln, v4, s, acc.map (encW s), v7, v8, v9, cur, s, i, k13) ()) = some (acc'.map (encW s)) ∧ chain s 0 acc' e' ∧ tailOk s e' ∧ acc'.length ≤ s.size + 1 := by
  have done : ∀ (m i : Nat) (v4 v7 v8 v9 cur : Int) (acc : List Wd) (e : Nat), i = s.size → acc.length ≤ i → chain s 0 acc e → e ≤ i → st35 s e i v7 cur →
      ∃ acc' e', fin35 (L35_0 (m + 1) (ln, v4, s, acc.map (encW s), v7, v8, v9, cur, s, i, k13) ()) = some (acc'.map (encW s)) ∧ chain s 0 acc' e' ∧ tailOk s e' ∧ acc'.length ≤ s.size + 1 := by
    intro m i v4 v7 v8 v9 cur acc e hi ha hc he hst
    rw [L35_step, decide_eq_false (by omega), cond_false, ask_of rfl]
    show ∃ acc' e', (bif (decide (cur ≥ 0)) then (ask (cutOk cur (s.size : Int) s.size) (ask (addOk (acc.map (encW s)).length (acc.map (encW s)) ([.agg [.val (.string (s.extract (Int.toNat cur) (Int.toNat (s.size : Int)))), .val (.int .i64 v7), .val (.int .i64 v8), .val (.int .i64 v9)]] : List D) 4 40) (some (acc.map (encW s) ++ ([.agg [.val (.string (s.extract (Int.toNat cur) (Int.toNat (s.size : Int)))), .val (.int .i64 v7), .val (.int .i64 v8), .val (.int .i64 v9)]] : List D))))) else (some (acc.map (encW s)))) = _ ∧ _
    rcases hst with ⟨hcur, hb, _⟩ | ⟨st, hcur, h7, h1, h2, hb, h35⟩
    · subst hcur
      refine ⟨acc, e, by simp, hc, .inl (fun j q1 q2 => hb j q1 (by omega)), by omega⟩
    · subst hcur; subst h7
      rw [decide_eq_true (by omega), cond_true, ask_of (show cutOk (st : Int) (s.size : Int) s.size from ⟨by omega, by omega, by omega⟩), Int.toNat_natCast, Int.toNat_natCast]
      show ∃ acc' e', (ask (addOk (acc.map (encW s)).length (acc.map (encW s)) [encW s (st, s.size, v8, v9)] 4 40) (some (acc.map (encW s) ++ [encW s (st, s.size, v8, v9)]))) = _ ∧ _
      rw [ask_of (addOk_mapW s acc _ (by unfold maxBytes; omega)), map_snoc]
      refine ⟨_, _, rfl, chain_snoc acc 0 e hc (show wOk s e (st, s.size, v8, v9) from ⟨h1, by simp only; omega, Nat.le_refl _, hb, h35⟩), .inl (fun j q1 q2 => absurd q1 (by simp only; omega)), by simp; omega⟩
  intro d
  induction d with
  | zero =>
    intro n i v4 v7 v8 v9 cur acc e hd hn hi ha hc he hst
    obtain ⟨m, rfl⟩ : ∃ m, n = m + 1 := ⟨n - 1, by omega⟩
    exact done m i v4 v7 v8 v9 cur acc e (by omega) ha hc he hst
  | succ d ih =>
    intro n i v4 v7 v8 v9 cur acc e hd hn hi ha hc he hst
    obtain ⟨m, rfl⟩ : ∃ m, n = m + 1 := ⟨n - 1, by omega⟩
    by_cases h : i < s.size
    · have w1 := wd_pos s i
      have w2 := wd_le h
      obtain ⟨b, hb, hbk⟩ := n69_dec s i
      rw [L35_step, decide_eq_true h, cond_true, hb, Option.bind_some]
      cases b with
      | true =>
        obtain ⟨hbk, hw⟩ := hbk rfl
        have hw' : wd s i = 1 := hw
        rw [cond_true, hw]
        rcases hst with ⟨hcur, hbl, hei⟩ | ⟨st, hcur, h7, h1, h2, hbl, h35⟩
        · subst hcur
          rw [decide_eq_false (by omega), cond_false, ask_of rfl]
          exact ih m (i + 1) _ _ _ _ (-1) acc e (by omega) (by omega) (by omega) (by omega) hc (by omega) (.inl ⟨rfl, fun j q1 q2 => by
            by_cases hj : j = i
            · rw [hj]; exact hbk
            · exact hbl j q1 (by omega), .inl (by omega)⟩)
        · subst hcur; subst h7
          rw [decide_eq_true (by omega), cond_true, ask_of (show cutOk (st : Int) (i : Int) s.size from ⟨by omega, by omega, by omega⟩), Int.toNat_natCast, Int.toNat_natCast]
          show ∃ acc' e', fin35 (ask (addOk (acc.map (encW s)).length (acc.map (encW s)) [encW s (st, i, v8, v9)] 4 40) (ask (([k13, ((acc.map (encW s)).length + ([encW s (st, i, v8, v9)] : List D).length)] : List Nat) = [k13, (acc.map (encW s) ++ [encW s (st, i, v8, v9)]).length]) (L35_0 m (ln, (w64 (v4 + 1)), s, (acc.map (encW s) ++ [encW s (st, i, v8, v9)]), (st : Int), v8, v9, (-1), s, (i + 1), k13) ()))) = _ ∧ _
          rw [ask_of (addOk_mapW s acc _ (by unfold maxBytes; omega)), ask_of (toks_one (encW s) acc _ k13), map_snoc]
          exact ih m (i + 1) _ _ _ _ (-1) (acc ++ [(st, i, v8, v9)]) i (by omega) (by omega) (by omega) (by simp; omega) (chain_snoc acc 0 e hc (show wOk s e (st, i, v8, v9) from ⟨h1, h2, hi, hbl, h35⟩)) (by omega) (.inl ⟨rfl, fun j q1 q2 => by
            obtain rfl : j = i := by omega
            exact hbk, .inl (by omega)⟩)
      | false =>
        rw [cond_false]
        rcases hst with ⟨hcur, hbl, hei⟩ | ⟨st, hcur, h7, h1, h2, hbl, h35⟩
        · subst hcur
          rw [decide_eq_true (show (-1 : Int) < 0 by omega), cond_true]
          by_cases h35 : (Utf8.decode s i).1 = 35
          · have e35 := dec_small (s := s) (i := i) (by omega)
            rw [show (((Utf8.decode s i).1 : Int) == 35) = true from beq_iff_eq.2 (by omega), cond_true, ask_of rfl]
            refine ⟨acc, e, rfl, hc, .inr ⟨i, he, h, hbl, ?_, ?_⟩, by omega⟩
            · rw [e35] at h35; exact h35
            · rcases hei with q | q
              · exact .inr (hbl (i - 1) (by omega) (by omega))
              · exact .inl q
          · rw [show (((Utf8.decode s i).1 : Int) == 35) = false from beq_eq_false_iff_ne.2 (by omega), cond_false, cond_true, ask_of rfl]
            exact ih m (i + wd s i) _ _ _ _ (i : Int) acc e (by omega) (by omega) w2 (by omega) hc (by omega) (.inr ⟨i, rfl, rfl, he, by omega, hbl, fun q => h35 (by rw [dec_ascii (by omega)]; exact q)⟩)
        · subst hcur; subst h7
          rw [decide_eq_false (show ¬ (st : Int) < 0 by omega), cond_false, cond_false, cond_false, ask_of rfl]
          exact ih m (i + wd s i) _ _ _ _ (st : Int) acc e (by omega) (by omega) w2 (by omega) hc (by omega) (.inr ⟨st, rfl, rfl, h1, by omega, hbl, h35⟩)
    · exact done m i v4 v7 v8 v9 cur acc e (by omega) ha hc he hst
theorem n35_ok {s : ByteArray} (hs : s.size ≤ 1048576) (a : Int) : ∃ acc e, n35 (s, a) = some (acc.map (encW s)) ∧ chain s 0 acc e ∧ tailOk s e ∧ acc.length ≤ s.size + 1 := by
  rw [n35_fin]
  exact L35 hs a 0 s.size 1000000000000 0 0 0 0 0 (-1) [] 0 (by omega) (by omega) (by omega) (by simp) rfl (by omega) (.inl ⟨rfl, fun j q1 q2 => by omega, .inr rfl⟩)
theorem L10_2_step (v12 : ByteArray) (v13 : List D) (v14 v15 : Int) (k : Nat) (n : Nat) : L10_2 (n + 1) (v12, v13, v14, v15, (k : Int)) () = (bif (decide ((k : Int) < v15)) then ((sidx v12 (k : Int)).bind fun c17 => (bif (bif ((c17.toNat : Int) == 35) then (v14 == ((v13.length : Nat) : Int)) else false) then (bif ((k : Int) == 0) then ((n32 ()).bind fun y18 => (some (O10_2.x0 y18, ()))) else ((sidx v12 (w64 ((k : Int) - 1))).bind fun c20 => (bif ((c20.toNat : Int) == 32) then ((n32 ()).bind fun y21 => (some (O10_2.x0 y21, ()))) else ((sidx v12 (w64 ((k : Int) - 1))).bind fun c22 => (bif ((c22.toNat : Int) == 9) then ((n32 ()).bind fun y23 => (some (O10_2.x0 y23, ()))) else ((sidx v12 (w64 ((k : Int) - 1))).bind fun c24 => (bif ((c24.toNat : Int) == 13) then ((n32 ()).bind fun y25 => (some (O10_2.x0 y25, ()))) else (bif (bif (bif ((c17.toNat : Int) != 32) then ((c17.toNat : Int) != 9) else false) then ((c17.toNat : Int) != 13) else false) then (some (O10_2.x0 false, ())) else (L10_2 n (v12, v13, v14, v15, (w64 ((k : Int) + 1))) ()))))))))) else (bif (bif (bif ((c17.toNat : Int) != 32) then ((c17.toNat : Int) != 9) else false) then ((c17.toNat : Int) != 13) else false) then (some (O10_2.x0 false, ())) else (L10_2 n (v12, v13, v14, v15, (w64 ((k : Int) + 1))) ())))) else (some (O10_2.x1 v12 v13 v14 v15, ()))) := rfl
theorem L10_step (v4 : ByteArray) (v5 : List D) (v6 : Int) (k : Nat) (n : Nat) : L10_0 (n + 1) (v4, v5, v6, (k : Int)) () = (bif (decide ((k : Int) ≤ ((v5.length : Nat) : Int))) then (bif (decide ((k : Int) < ((v5.length : Nat) : Int))) then ((lidx v5 (k : Int)).bind fun d8 => ask (d8.cells.length = 4) ((cellAt 1 d8).bind fun x9 => (asInt .i64 x9).bind fun x10 => (bif (bif (decide (x10 < v6)) then true else (decide (x10 > (v4.size : Int)))) then (some (O10_0.x0 false, ())) else ((L10_2 1000000000000 (v4, v5, (k : Int), x10, v6) ()).bind fun p30 => match p30.1 with | .x0 z31 => (some (O10_0.x0 z31, p30.2)) | .x1 z32 z33 z34 z35 => (bif (z34 == ((z33.length : Nat) : Int)) then (some (O10_0.x1 , p30.2)) else ((lidx z33 z34).bind fun d36 => ask (d36.cells.length = 4) ((cellAt 0 d36).bind fun x37 => (asStr x37).bind fun x38 => (bif (sEq x38 (⟨#[]⟩ : ByteArray)) then (some (O10_0.x0 false, p30.2)) else ((sidx x38 0).bind fun c39 => (bif (bif ((c39.toNat : Int) == 35) then true else (decide ((w64 (z35 + (x38.size : Int))) > (z32.size : Int)))) then (some (O10_0.x0 false, p30.2)) else (ask (cutOk z35 (w64 (z35 + (x38.size : Int))) z32.size) (bif (!(sEq (z32.extract (Int.toNat z35) (Int.toNat (w64 (z35 + (x38.size : Int))))) x38)) then (some (O10_0.x0 false, p30.2)) else (L10_0 n (z32, z33, (w64 (z35 + (x38.size : Int))), (w64 (z34 + 1))) p30.2))))))))))))) else (bif (bif (decide ((v4.size : Int) < v6)) then true else (decide ((v4.size : Int) > (v4.size : Int)))) then (some (O10_0.x0 false, ())) else ((L10_2 1000000000000 (v4, v5, (k : Int), (v4.size : Int), v6) ()).bind fun p58 => match p58.1 with | .x0 z59 => (some (O10_0.x0 z59, p58.2)) | .x1 z60 z61 z62 z63 => (bif (z62 == ((z61.length : Nat) : Int)) then (some (O10_0.x1 , p58.2)) else ((lidx z61 z62).bind fun d64 => ask (d64.cells.length = 4) ((cellAt 0 d64).bind fun x65 => (asStr x65).bind fun x66 => (bif (sEq x66 (⟨#[]⟩ : ByteArray)) then (some (O10_0.x0 false, p58.2)) else ((sidx x66 0).bind fun c67 => (bif (bif ((c67.toNat : Int) == 35) then true else (decide ((w64 (z63 + (x66.size : Int))) > (z60.size : Int)))) then (some (O10_0.x0 false, p58.2)) else (ask (cutOk z63 (w64 (z63 + (x66.size : Int))) z60.size) (bif (!(sEq (z60.extract (Int.toNat z63) (Int.toNat (w64 (z63 + (x66.size : Int))))) x66)) then (some (O10_0.x0 false, p58.2)) else (L10_0 n (z60, z61, (w64 (z63 + (x66.size : Int))), (w64 (z62 + 1))) p58.2)))))))))))) else (some (O10_0.x1 , ()))) := rfl

theorem bk_c {s : ByteArray} {k : Nat} (h : bk s k) : (((s.get! k).toNat : Int) == 35) = false ∧ (bif (bif (((s.get! k).toNat : Int) != 32) then (((s.get! k).toNat : Int) != 9) else false) then (((s.get! k).toNat : Int) != 13) else false) = false := by
  have h' : (s.get! k).toNat = 32 ∨ (s.get! k).toNat = 9 ∨ (s.get! k).toNat = 13 := h
  rcases h' with h | h | h <;> rw [h] <;> exact ⟨rfl, rfl⟩
theorem sidx_get {s : ByteArray} {k : Nat} (h : k < s.size) : sidx s (k : Int) = some (s.get! k) := by rw [sidx_nat, get_bang h]
theorem L10_2_ok {s : ByteArray} (hs : s.size ≤ 1048576) (ws : List D) (v14 : Int) {en : Nat} (hen : en ≤ s.size) : ∀ (d n k : Nat), en - k ≤ d → d < n → k ≤ en → (∀ j, k ≤ j → j < en → bk s j) → L10_2 n (s, ws, v14, (en : Int), (k : Int)) () = some (O10_2.x1 s ws v14 (en : Int), ()) := by
  intro d
  induction d with
  | zero =>
    intro n k hd hn hk hb
    obtain ⟨m, rfl⟩ : ∃ m, n = m + 1 := ⟨n - 1, by omega⟩
    rw [L10_2_step, decide_eq_false (by omega), cond_false]
  | succ d ih =>
    intro n k hd hn hk hb
    obtain ⟨m, rfl⟩ : ∃ m, n = m + 1 := ⟨n - 1, by omega⟩
    by_cases h : k < en
    · have e0 : w64 ((k : Int) + 1) = ((k + 1 : Nat) : Int) := by rw [w64_id (by omega) (by omega)]; omega
      obtain ⟨q1, q2⟩ := bk_c (hb k (Nat.le_refl _) h)
      rw [L10_2_step, decide_eq_true (by omega), cond_true, sidx_get (by omega), Option.bind_some, e0]
      simp only [q1, q2, cond_false]
      exact ih m (k + 1) (by omega) (by omega) (by omega) (fun j a b => hb j (by omega) b)
    · rw [L10_2_step, decide_eq_false (by omega), cond_false]
theorem L10_2_hash {s : ByteArray} (hs : s.size ≤ 1048576) (ws : List D) {j : Nat} (hj : j < s.size) (h35 : bt s j = 35) (hp : j = 0 ∨ bk s (j - 1)) : ∀ (d n k : Nat), j - k ≤ d → d < n → k ≤ j → (∀ i, k ≤ i → i < j → bk s i) → L10_2 n (s, ws, ((ws.length : Nat) : Int), (s.size : Int), (k : Int)) () = some (O10_2.x0 true, ()) := by
  have stop : ∀ m, L10_2 (m + 1) (s, ws, ((ws.length : Nat) : Int), (s.size : Int), (j : Int)) () = some (O10_2.x0 true, ()) := by
    intro m
    rw [L10_2_step, decide_eq_true (by omega), cond_true, sidx_get hj, Option.bind_some, show (((s.get! j).toNat : Int) == 35) = true from beq_iff_eq.2 (by show ((bt s j : Nat) : Int) = 35; omega), cond_true, beq_self_eq_true, cond_true, alive_true]
    by_cases h0 : j = 0
    · rw [show (((j : Int)) == 0) = true from beq_iff_eq.2 (by omega), cond_true]; rfl
    · have hb := hp.resolve_left h0
      have hb' : (s.get! (j - 1)).toNat = 32 ∨ (s.get! (j - 1)).toNat = 9 ∨ (s.get! (j - 1)).toNat = 13 := hb
      have ew : w64 ((j : Int) - 1) = ((j - 1 : Nat) : Int) := by rw [w64_id (by omega) (by omega)]; omega
      rw [show (((j : Int)) == 0) = false from beq_eq_false_iff_ne.2 (by omega), cond_false, ew, sidx_get (by omega)]
      simp only [Option.bind_some]
      rcases hb' with h | h | h <;> rw [h] <;> rfl
  intro d
  induction d with
  | zero =>
    intro n k hd hn hk hb
    obtain ⟨m, rfl⟩ : ∃ m, n = m + 1 := ⟨n - 1, by omega⟩
    obtain rfl : k = j := by omega
    exact stop m
  | succ d ih =>
    intro n k hd hn hk hb
    obtain ⟨m, rfl⟩ : ∃ m, n = m + 1 := ⟨n - 1, by omega⟩
    by_cases h : k < j
    · have e0 : w64 ((k : Int) + 1) = ((k + 1 : Nat) : Int) := by rw [w64_id (by omega) (by omega)]; omega
      obtain ⟨q1, q2⟩ := bk_c (hb k (Nat.le_refl _) h)
      rw [L10_2_step, decide_eq_true (by omega), cond_true, sidx_get (by omega), Option.bind_some, e0]
      simp only [q1, q2, cond_false]
      exact ih m (k + 1) (by omega) (by omega) (by omega) (fun i a b => hb i (by omega) b)
    · obtain rfl : k = j := by omega
      exact stop m
theorem sidx_ext {s : ByteArray} {a b : Nat} (h : a < b) (hb : b ≤ s.size) : sidx (s.extract a b) 0 = some (s.get! a) := by
  have h0 := sidx_nat (s.extract a b) 0
  have h1 := get_bang (s := s) (k := a) (by omega)
  rw [Int.natCast_zero] at h0
  rw [h0, get_list, ← h1, get_list]
  simp only [ByteArray.data_extract, Array.toList_extract, List.extract_eq_take_drop, List.getElem?_take, List.getElem?_drop]
  rw [if_pos (by omega), Nat.add_zero]
theorem cellW0 (s : ByteArray) (w : Wd) : cellAt 0 (encW s w) = some (.val (.string (s.extract w.1 w.2.1))) := rfl
theorem cellW1 (s : ByteArray) (w : Wd) : cellAt 1 (encW s w) = some (.val (.int .i64 (w.1 : Int))) := rfl
theorem lenW (s : ByteArray) (w : Wd) : (encW s w).cells.length = 4 := rfl
theorem L10 {s : ByteArray} (hs : s.size ≤ 1048576) (ws : List Wd) (hw : ws.length ≤ 1048577) {e : Nat} (ht : tailOk s e) (he : e ≤ s.size) : ∀ (d n k a : Nat), ws.length - k ≤ d → d < n → k ≤ ws.length → a ≤ s.size → chain s a (ws.drop k) e →
    L10_0 n (s, ws.map (encW s), (a : Int), (k : Int)) () = some (O10_0.x1, ()) ∨ L10_0 n (s, ws.map (encW s), (a : Int), (k : Int)) () = some (O10_0.x0 true, ()) := by
  have done : ∀ (m a : Nat), a ≤ s.size → chain s a [] e → L10_0 (m + 1) (s, ws.map (encW s), (a : Int), ((ws.length : Nat) : Int)) () = some (O10_0.x1, ()) ∨ L10_0 (m + 1) (s, ws.map (encW s), (a : Int), ((ws.length : Nat) : Int)) () = some (O10_0.x0 true, ()) := by
    intro m a ha hc
    obtain rfl : a = e := hc
    rw [L10_step, List.length_map, decide_eq_true (by omega), cond_true, decide_eq_false (by omega), cond_false, decide_eq_false (show ¬ (s.size : Int) < (a : Int) by omega), decide_eq_false (show ¬ (s.size : Int) > (s.size : Int) by omega), cond_false, cond_false]
    rcases ht with hb | ⟨j, h1, h2, h3, h4, h5⟩
    · have q := L10_2_ok hs (ws.map (encW s)) ((ws.length : Nat) : Int) (Nat.le_refl _) s.size 1000000000000 a (by omega) (by omega) ha hb
      rw [q, Option.bind_some]
      simp only [List.length_map, beq_self_eq_true, cond_true]
      exact .inl trivial
    · have q := L10_2_hash hs (ws.map (encW s)) h2 h4 h5 s.size 1000000000000 a (by omega) (by omega) h1 h3
      rw [List.length_map] at q
      rw [q]
      exact .inr rfl
  intro d
  induction d with
  | zero =>
    intro n k a hd hn hk ha hc
    obtain ⟨m, rfl⟩ : ∃ m, n = m + 1 := ⟨n - 1, by omega⟩
    obtain rfl : k = ws.length := by omega
    rw [List.drop_length] at hc
    exact done m a ha hc
  | succ d ih =>
    intro n k a hd hn hk ha hc
    obtain ⟨m, rfl⟩ : ∃ m, n = m + 1 := ⟨n - 1, by omega⟩
    by_cases h : k < ws.length
    · rw [List.drop_eq_getElem_cons h] at hc
      obtain ⟨⟨h1, h2, h3, h4, h5⟩, hc'⟩ := hc
      have e0 : w64 ((k : Int) + 1) = ((k + 1 : Nat) : Int) := by rw [w64_id (by omega) (by omega)]; omega
      have hsize : (s.extract (ws[k]).1 (ws[k]).2.1).size = (ws[k]).2.1 - (ws[k]).1 := by simp; omega
      have hget : lidx (ws.map (encW s)) (k : Int) = some (encW s ws[k]) := by rw [lidx_map, List.getElem?_eq_getElem h]; rfl
      have ew : w64 (((ws[k]).1 : Int) + (((ws[k]).2.1 - (ws[k]).1 : Nat) : Int)) = ((ws[k]).2.1 : Int) := by rw [w64_id (by omega) (by omega)]; omega
      have q := L10_2_ok hs (ws.map (encW s)) (k : Int) (show (ws[k]).1 ≤ s.size by omega) s.size 1000000000000 a (by omega) (by omega) h1 h4
      rw [L10_step, List.length_map, decide_eq_true (by omega), cond_true, decide_eq_true (by omega), cond_true, hget, Option.bind_some, ask_of (lenW _ _), cellW1, Option.bind_some, asI64, Option.bind_some, decide_eq_false (show ¬ ((ws[k]).1 : Int) < (a : Int) by omega), decide_eq_false (show ¬ ((ws[k]).1 : Int) > (s.size : Int) by omega), cond_false, cond_false, q, Option.bind_some]
      have hne : sEq (s.extract (ws[k]).1 (ws[k]).2.1) (⟨#[]⟩ : ByteArray) = false := by
        rw [Bool.eq_false_iff]; intro hh
        have := congrArg ByteArray.size ((sEq_iff _ _).1 hh)
        rw [hsize] at this
        exact absurd this (by show ¬ ((ws[k]).2.1 - (ws[k]).1 = 0); omega)
      have h0 : sidx (s.extract (ws[k]).1 (ws[k]).2.1) 0 = some (s.get! (ws[k]).1) := sidx_ext h2 h3
      have hb35 : (((s.get! (ws[k]).1).toNat : Int) == 35) = false := by
        rw [beq_eq_false_iff_ne]
        have : (s.get! (ws[k]).1).toNat ≠ 35 := h5
        omega
      dsimp only
      rw [List.length_map, show ((k : Int) == ((ws.length : Nat) : Int)) = false from beq_eq_false_iff_ne.2 (by omega), cond_false, hget, Option.bind_some, ask_of (lenW _ _), cellW0, Option.bind_some, asS, Option.bind_some, hne, cond_false, h0, Option.bind_some, hb35, cond_false, hsize, ew, decide_eq_false (show ¬ ((ws[k]).2.1 : Int) > (s.size : Int) by omega), cond_false, ask_of (show cutOk ((ws[k]).1 : Int) ((ws[k]).2.1 : Int) s.size from ⟨by omega, by omega, by omega⟩), Int.toNat_natCast, Int.toNat_natCast, (sEq_iff _ _).2 rfl, Bool.not_true, cond_false, e0]
      exact ih m (k + 1) (ws[k]).2.1 (by omega) (by omega) (by omega) h3 hc'
    · obtain rfl : k = ws.length := by omega
      rw [List.drop_length] at hc
      exact done m a ha hc
theorem chain_le {s : ByteArray} : ∀ (acc : List Wd) (a e : Nat), a ≤ s.size → chain s a acc e → e ≤ s.size
  | [], a, e, h, hc => by
    obtain rfl : a = e := hc
    exact h
  | w :: t, a, e, h, hc => chain_le t w.2.1 e hc.1.2.2.1 hc.2
theorem plain10 (a0 : ByteArray) (a1 : Int) (h : a0.size ≤ 1048576) (w : (Lit.int .i64 a1).wf = true) : n10 (a0, a1) = some true := by
  obtain ⟨acc, e, h1, h2, h3, h4⟩ := n35_ok h a1
  have q := L10 h acc (by omega) h3 (chain_le acc 0 e (by omega) h2) acc.length 1000000000000 0 0 (by omega) (by omega) (by omega) (by omega) h2
  show ((n35 (a0, a1)).bind fun y3 => ((L10_0 1000000000000 (a0, y3, ((0 : Nat) : Int), ((0 : Nat) : Int)) ()).bind fun p68 => match p68.1 with | .x0 z69 => (some z69) | .x1  => ((n32 ()).bind fun y70 => (some y70)))) = _
  rw [h1, Option.bind_some, alive_true]
  rcases q with q | q <;> rw [q] <;> rfl
end Ev
