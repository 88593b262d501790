/- What functions of the program compute, as plain Lean functions, each with its proof by the reader (PlWords); printed by a tool of this work. -/
import Derived.Test.YtedbcbncdfjocaaDoorPlBig
set_option linter.unusedSimpArgs false
set_option linter.unusedVariables false
namespace Ev
open Go
abbrev W3 := Nat × Nat × Nat
def blR (r : Int) : Bool := (bif (bif (r == 32) then true else (r == 9)) then true else (r == 13))
def wF (e : Nat) : List Ru → Nat → Option (Nat × Nat) → List W3
  | [], _, none => []
  | [], _, some (a, c) => [(a, e, c)]
  | r :: t, k, none => bif blR r.1 then wF e t (k + 1) none else bif (r.1 == 35) then [] else wF e t (k + 1) (some (r.2.1, k + 1))
  | r :: t, k, some (a, c) => bif blR r.1 then (a, r.2.1, c) :: wF e t (k + 1) none else wF e t (k + 1) (some (a, c))
def encP (s : ByteArray) (ln : Int) (w : W3) : D := .agg [.val (.string (s.extract w.1 w.2.1)), .val (.int .i64 (w.1 : Int)), .val (.int .i64 ln), .val (.int .i64 (w.2.2 : Int))]
def encQ (s : ByteArray) (w : W3) : D := .agg [.val (.string (s.extract w.1 w.2.1)), .val (.int .i64 (w.1 : Int)), .val (.int .i64 (w.2.2 : Int))]
theorem addOk_P (s : ByteArray) (ln : Int) (acc : List W3) (x : W3) (h : acc.length ≤ 67108900) : addOk (acc.map (encP s ln)).length (acc.map (encP s ln)) [encP s ln x] 4 40 := addOk_map (encP s ln) 4 40 (fun _ => rfl) acc x (by unfold maxBytes; omega)
theorem addOk_Q (s : ByteArray) (acc : List W3) (x : W3) (h : acc.length ≤ 67108900) : addOk (acc.map (encQ s)).length (acc.map (encQ s)) [encQ s x] 3 32 := addOk_map (encQ s) 3 32 (fun _ => rfl) acc x (by unfold maxBytes; omega)
theorem rn_dec (s : ByteArray) (i : Nat) : blR ((Utf8.decode s i).1 : Int) = blR (rn s i) ∧ (((Utf8.decode s i).1 : Int) == 35) = (rn s i == 35) := by
  unfold rn
  split
  · rename_i h
    rw [h]
    exact ⟨by decide, by decide⟩
  · exact ⟨rfl, rfl⟩
theorem LU35_step (v3 v4 : Int) (v5 : ByteArray) (v6 : List D) (v7 v8 v9 v10 : Int) (v11 : ByteArray) (v12 k13 : Nat) (n : Nat) : LU35_0 (n + 1) (v3, v4, v5, v6, v7, v8, v9, v10, v11, v12, k13) () = (bif decide (v12 < v11.size) then (bif blR ((Utf8.decode v11 v12).1 : Int) then (bif (decide (v10 ≥ 0)) then (ask (cutOk v10 (v12 : Int) v5.size) (ask (addOk v6.length v6 ([.agg [.val (.string (v5.extract (Int.toNat v10) (Int.toNat (v12 : Int)))), .val (.int .i64 v7), .val (.int .i64 v8), .val (.int .i64 v9)]] : List D) 4 40) (ask (([k13, (v6.length + ([.agg [.val (.string (v5.extract (Int.toNat v10) (Int.toNat (v12 : Int)))), .val (.int .i64 v7), .val (.int .i64 v8), .val (.int .i64 v9)]] : List D).length)] : List Nat) = [k13, (v6 ++ ([.agg [.val (.string (v5.extract (Int.toNat v10) (Int.toNat (v12 : Int)))), .val (.int .i64 v7), .val (.int .i64 v8), .val (.int .i64 v9)]] : List D)).length]) (LU35_0 n (v3, (w64 (v4 + 1)), v5, (v6 ++ ([.agg [.val (.string (v5.extract (Int.toNat v10) (Int.toNat (v12 : Int)))), .val (.int .i64 v7), .val (.int .i64 v8), .val (.int .i64 v9)]] : List D)), v7, v8, v9, (-1), v11, (v12 + (Utf8.decode v11 v12).2), k13) ())))) else (ask (([k13, v6.length] : List Nat) = [k13, v6.length]) (LU35_0 n (v3, (w64 (v4 + 1)), v5, v6, v7, v8, v9, (-1), v11, (v12 + (Utf8.decode v11 v12).2), k13) ()))) else (bif (bif (decide (v10 < 0)) then (((Utf8.decode v11 v12).1 : Int) == 35) else false) then (ask (([k13, v6.length] : List Nat) = [k13, v6.length]) (some (OU35_0.x0 v6 v5 v6 v7 v8 v9 v10 v11 (v12 + (Utf8.decode v11 v12).2) k13, ()))) else (bif (decide (v10 < 0)) then (ask (([k13, v6.length] : List Nat) = [k13, v6.length]) (LU35_0 n (v3, (w64 (v4 + 1)), v5, v6, (v12 : Int), v3, (w64 (v4 + 1)), (v12 : Int), v11, (v12 + (Utf8.decode v11 v12).2), k13) ())) else (ask (([k13, v6.length] : List Nat) = [k13, v6.length]) (LU35_0 n (v3, (w64 (v4 + 1)), v5, v6, v7, v8, v9, v10, v11, (v12 + (Utf8.decode v11 v12).2), k13) ()))))) else (ask (([k13, v6.length] : List Nat) = [k13, v6.length]) (some (OU35_0.x1 v5 v6 v7 v8 v9 v10 v11 v12 k13, ())))) := rfl
def finU (p : Option (OU35_0 × Unit)) : Option (List D) := p.bind fun p34 => match p34.1 with | .x0 z35 z36 z37 z38 z39 z40 z41 z42 z43 z44 => (ask (z35.length = z35.length) (some z35)) | .x1 z45 z46 z47 z48 z49 z50 z51 z52 z53 => (bif (decide (z50 ≥ 0)) then (ask (cutOk z50 (z45.size : Int) z45.size) (ask (addOk z46.length z46 ([.agg [.val (.string (z45.extract (Int.toNat z50) (Int.toNat (z45.size : Int)))), .val (.int .i64 z47), .val (.int .i64 z48), .val (.int .i64 z49)]] : List D) 4 40) (ask ((z46.length + ([.agg [.val (.string (z45.extract (Int.toNat z50) (Int.toNat (z45.size : Int)))), .val (.int .i64 z47), .val (.int .i64 z48), .val (.int .i64 z49)]] : List D).length) = (z46 ++ ([.agg [.val (.string (z45.extract (Int.toNat z50) (Int.toNat (z45.size : Int)))), .val (.int .i64 z47), .val (.int .i64 z48), .val (.int .i64 z49)]] : List D)).length) (some (z46 ++ ([.agg [.val (.string (z45.extract (Int.toNat z50) (Int.toNat (z45.size : Int)))), .val (.int .i64 z47), .val (.int .i64 z48), .val (.int .i64 z49)]] : List D)))))) else (ask (z46.length = z46.length) (some z46)))
theorem runU {s : ByteArray} (hs : s.size ≤ 67108864) (ln : Int) : ∀ (d n i k : Nat) (v7 v8 v9 v10 : Int) (acc : List W3) (cur : Option (Nat × Nat)), s.size - i ≤ d → d < n → i ≤ s.size → k ≤ i → acc.length ≤ i →
    (match cur with | none => v10 = -1 | some (a, c) => v10 = (a : Int) ∧ v7 = (a : Int) ∧ v8 = ln ∧ v9 = (c : Int) ∧ a ≤ i) →
    finU (LU35_0 n (ln, (k : Int), s, acc.map (encP s ln), v7, v8, v9, v10, s, i, 0) ()) = some ((acc ++ wF s.size (runesL s i) k cur).map (encP s ln)) := by
  have done : ∀ (m i k : Nat) (v7 v8 v9 v10 : Int) (acc : List W3) (cur : Option (Nat × Nat)), i = s.size → acc.length ≤ i →
    (match cur with | none => v10 = -1 | some (a, c) => v10 = (a : Int) ∧ v7 = (a : Int) ∧ v8 = ln ∧ v9 = (c : Int) ∧ a ≤ i) →
    finU (LU35_0 (m + 1) (ln, (k : Int), s, acc.map (encP s ln), v7, v8, v9, v10, s, i, 0) ()) = some ((acc ++ wF s.size (runesL s i) k cur).map (encP s ln)) := by
    intro m i k v7 v8 v9 v10 acc cur hi ha hc
    rw [LU35_step, decide_eq_false (by omega), cond_false, ask_of rfl, runesL_nil (by omega)]
    cases cur with
    | none =>
      simp only at hc
      subst hc
      simp only [finU, Option.bind_some]
      rw [decide_eq_false (by omega), cond_false, ask_of trivial]
      simp [wF]
    | some q =>
      obtain ⟨a, c⟩ := q
      simp only at hc
      obtain ⟨rfl, rfl, rfl, rfl, h5⟩ := hc
      simp only [finU, Option.bind_some]
      rw [decide_eq_true (by omega), cond_true]
      show (ask (cutOk (a : Int) (s.size : Int) s.size) (ask (addOk (acc.map (encP s v8)).length (acc.map (encP s v8)) [encP s v8 (a, s.size, c)] 4 40) (ask (((acc.map (encP s v8)).length + ([encP s v8 (a, s.size, c)] : List D).length) = (acc.map (encP s v8) ++ [encP s v8 (a, s.size, c)]).length) (some (acc.map (encP s v8) ++ [encP s v8 (a, s.size, c)]))))) = _
      rw [ask_of ⟨by omega, by omega, by omega⟩, ask_of (addOk_P s v8 acc _ (by omega)), ask_of (by simp), map_snoc]
      rfl
  intro d
  induction d with
  | zero =>
    intro n i k v7 v8 v9 v10 acc cur hd hn hi hk ha hc
    obtain ⟨m, rfl⟩ : ∃ m, n = m + 1 := ⟨n - 1, by omega⟩
    exact done m i k v7 v8 v9 v10 acc cur (by omega) ha hc
  | succ d ih =>
    intro n i k v7 v8 v9 v10 acc cur hd hn hi hk ha hc
    obtain ⟨m, rfl⟩ : ∃ m, n = m + 1 := ⟨n - 1, by omega⟩
    by_cases h : i < s.size
    · have w1 := wd_pos s i
      have w2 := wd_le h
      obtain ⟨q1, q2⟩ := rn_dec s i
      have e1 : w64 ((k : Int) + 1) = ((k + 1 : Nat) : Int) := by rw [w64_id (by omega) (by omega)]; omega
      rw [LU35_step, decide_eq_true h, cond_true, q1, q2, e1, runesL_cons h, show (Utf8.decode s i).2 = wd s i from rfl]
      cases hb : blR (rn s i) with
      | true =>
        rw [cond_true]
        cases cur with
        | none =>
          simp only at hc
          subst hc
          rw [decide_eq_false (by omega), cond_false, ask_of rfl, ih m (i + wd s i) (k + 1) v7 v8 v9 (-1) acc none (by omega) (by omega) w2 (by omega) (by omega) rfl]
          simp only [wF, hb, cond_true]
        | some q =>
          obtain ⟨a, c⟩ := q
          simp only at hc
          obtain ⟨rfl, rfl, rfl, rfl, h5⟩ := hc
          rw [decide_eq_true (by omega), cond_true]
          show finU (ask (cutOk (a : Int) (i : Int) s.size) (ask (addOk (acc.map (encP s v8)).length (acc.map (encP s v8)) [encP s v8 (a, i, c)] 4 40) (ask (([0, ((acc.map (encP s v8)).length + ([encP s v8 (a, i, c)] : List D).length)] : List Nat) = [0, (acc.map (encP s v8) ++ [encP s v8 (a, i, c)]).length]) (LU35_0 m (v8, ((k + 1 : Nat) : Int), s, acc.map (encP s v8) ++ [encP s v8 (a, i, c)], (a : Int), v8, (c : Int), (-1), s, i + wd s i, 0) ())))) = _
          rw [ask_of ⟨by omega, by omega, by omega⟩, ask_of (addOk_P s v8 acc _ (by omega)), ask_of (by simp), map_snoc, ih m (i + wd s i) (k + 1) (a : Int) v8 (c : Int) (-1) (acc ++ [(a, i, c)]) none (by omega) (by omega) w2 (by omega) (by simp; omega) rfl]
          simp only [wF, hb, cond_true, List.append_assoc, List.singleton_append]
      | false =>
        rw [cond_false]
        cases cur with
        | none =>
          simp only at hc
          subst hc
          rw [decide_eq_true (show (-1 : Int) < 0 by omega), cond_true]
          cases h35 : (rn s i == 35) with
          | true =>
            rw [cond_true, ask_of rfl]
            show ask _ (some (acc.map (encP s ln))) = _
            rw [ask_of rfl]
            simp only [wF, hb, h35, cond_true, cond_false, List.append_nil]
          | false =>
            rw [cond_false, cond_true, ask_of rfl, ih m (i + wd s i) (k + 1) (i : Int) ln ((k + 1 : Nat) : Int) (i : Int) acc (some (i, k + 1)) (by omega) (by omega) w2 (by omega) (by omega) ⟨rfl, rfl, rfl, rfl, by omega⟩]
            simp only [wF, hb, h35, cond_false]
        | some q =>
          obtain ⟨a, c⟩ := q
          simp only at hc
          obtain ⟨rfl, rfl, rfl, rfl, h5⟩ := hc
          rw [decide_eq_false (show ¬ (a : Int) < 0 by omega), cond_false, cond_false, cond_false, ask_of rfl, ih m (i + wd s i) (k + 1) (a : Int) v8 (c : Int) (a : Int) acc (some (a, c)) (by omega) (by omega) w2 (by omega) (by omega) ⟨rfl, rfl, rfl, rfl, by omega⟩]
          simp only [wF, hb, cond_false]
    · exact done m i k v7 v8 v9 v10 acc cur (by omega) ha hc
def wsOf (s : ByteArray) : List W3 := wF s.size (rus s) 0 none
theorem nU35_eq {s : ByteArray} (hs : s.size ≤ 67108864) (ln : Int) : nU35 (s, ln) = some ((wsOf s).map (encP s ln)) := by
  have h := runU hs ln s.size 1000000000000 0 0 0 0 0 (-1) [] none (by omega) (by omega) (by omega) (by omega) (by simp) rfl
  show (ask (([0, 0] : List Nat) = [0, ([] : List D).length]) (finU (LU35_0 1000000000000 (ln, ((0 : Nat) : Int), s, ([] : List W3).map (encP s ln), 0, 0, 0, (-1), s, 0, 0) ()))) = _
  rw [ask_of (show ([0, 0] : List Nat) = [0, ([] : List D).length] from rfl), h]
  rfl
theorem wF_len (e : Nat) : ∀ (l : List Ru) (k : Nat) (cur : Option (Nat × Nat)), (wF e l k cur).length ≤ l.length + 1
  | [], _, none => by simp [wF]
  | [], _, some (a, c) => by simp [wF]
  | r :: t, k, none => by
    simp only [wF, List.length_cons]
    cases blR r.1 with
    | true => have := wF_len e t (k + 1) none; rw [cond_true]; omega
    | false =>
      rw [cond_false]
      cases (r.1 == 35) with
      | true => simp
      | false => have := wF_len e t (k + 1) (some (r.2.1, k + 1)); rw [cond_false]; omega
  | r :: t, k, some (a, c) => by
    simp only [wF, List.length_cons]
    cases blR r.1 with
    | true => have := wF_len e t (k + 1) none; rw [cond_true, List.length_cons]; omega
    | false => have := wF_len e t (k + 1) (some (a, c)); rw [cond_false]; omega
theorem ask_True {α : Type} (x : Option α) : ask True x = x := ask_of trivial
theorem sidx_ext {s : ByteArray} {a b : Nat} (h : a < b) (hb : b ≤ s.size) : sidx (s.extract a b) 0 = some (s.get! a) := by
  have h0 := sidx_nat (s.extract a b) 0
  have h1 := get_bang (s := s) (k := a) (by omega)
  rw [Int.natCast_zero] at h0
  rw [h0, get_list, ← h1, get_list]
  simp only [ByteArray.data_extract, Array.toList_extract, List.extract_eq_take_drop, List.getElem?_take, List.getElem?_drop]
  rw [if_pos (by omega), Nat.add_zero]
theorem n70_eq (r : Int) : n70 r = some (blR r) := rfl
theorem L36_2_step (v12 : ByteArray) (v13 v14 : List D) (v15 : Int) (k17 k : Nat) (n : Nat) : L36_2 (n + 1) (v12, v13, v14, v15, (k : Int), k17) () = (bif (decide ((k : Int) < ((v13.length : Nat) : Int))) then ((lidx v13 (k : Int)).bind fun d18 => ask (d18.cells.length = 3) ((cellAt 0 d18).bind fun x19 => (asInt .i64 x19).bind fun x20 => ((n70 x20).bind fun y21 => (bif (!y21) then (ask (([k17, v14.length] : List Nat) = [k17, v14.length]) (L36_2 n (v12, v13, v14, v15, (w64 ((k : Int) + 1)), k17) ())) else (ask (([k17, v14.length] : List Nat) = [k17, v14.length]) (some (O36_2.x0 v12 v13 v14 v15 (k : Int) k17, ()))))))) else (ask (([k17, v14.length] : List Nat) = [k17, v14.length]) (some (O36_2.x0 v12 v13 v14 v15 (k : Int) k17, ())))) := rfl
theorem L36_step (v3 : ByteArray) (v4 v5 : List D) (k7 k : Nat) (n : Nat) : L36_0 (n + 1) (v3, v4, v5, (k : Int), k7) () = (bif (decide ((k : Int) < ((v4.length : Nat) : Int))) then ((lidx v4 (k : Int)).bind fun d8 => ask (d8.cells.length = 3) ((cellAt 0 d8).bind fun x9 => (asInt .i64 x9).bind fun x10 => ((n70 x10).bind fun y11 => (bif y11 then (ask (([k7, v5.length] : List Nat) = [k7, v5.length]) (L36_0 n (v3, v4, v5, (w64 ((k : Int) + 1)), k7) ())) else (ask (([k7, v5.length] : List Nat) = [k7, v5.length]) ((L36_2 1000000000000 (v3, v4, v5, (k : Int), (k : Int), k7) ()).bind fun p28 => match p28.1 with | .x0 z29 z30 z31 z32 z33 z34 => (bif (decide (z33 < ((z30.length : Nat) : Int))) then ((lidx z30 z33).bind fun d35 => ask (d35.cells.length = 3) ((cellAt 1 d35).bind fun x36 => (asInt .i64 x36).bind fun x37 => ((lidx z30 z32).bind fun d38 => ask (d38.cells.length = 3) ((cellAt 1 d38).bind fun x39 => (asInt .i64 x39).bind fun x40 => (ask (cutOk x40 x37 z29.size) ((sidx (z29.extract (Int.toNat x40) (Int.toNat x37)) 0).bind fun c41 => (bif ((c41.toNat : Int) == 35) then (ask (([z34, z31.length] : List Nat) = [z34, z31.length]) (some (O36_0.x0 z31 z31 z34, p28.2))) else ((lidx z30 z32).bind fun d45 => ask (d45.cells.length = 3) ((cellAt 1 d45).bind fun x46 => (asInt .i64 x46).bind fun x47 => (ask (addOk z31.length z31 ([.agg [.val (.string (z29.extract (Int.toNat x40) (Int.toNat x37))), .val (.int .i64 x47), .val (.int .i64 (w64 (z32 + 1)))]] : List D) 3 32) (ask (([z34, (z31.length + ([.agg [.val (.string (z29.extract (Int.toNat x40) (Int.toNat x37))), .val (.int .i64 x47), .val (.int .i64 (w64 (z32 + 1)))]] : List D).length)] : List Nat) = [z34, (z31 ++ ([.agg [.val (.string (z29.extract (Int.toNat x40) (Int.toNat x37))), .val (.int .i64 x47), .val (.int .i64 (w64 (z32 + 1)))]] : List D)).length]) (L36_0 n (z29, z30, (z31 ++ ([.agg [.val (.string (z29.extract (Int.toNat x40) (Int.toNat x37))), .val (.int .i64 x47), .val (.int .i64 (w64 (z32 + 1)))]] : List D)), z33, z34) p28.2)))))))))))) else ((lidx z30 z32).bind fun d48 => ask (d48.cells.length = 3) ((cellAt 1 d48).bind fun x49 => (asInt .i64 x49).bind fun x50 => (ask (cutOk x50 (z29.size : Int) z29.size) ((sidx (z29.extract (Int.toNat x50) (Int.toNat (z29.size : Int))) 0).bind fun c51 => (bif ((c51.toNat : Int) == 35) then (ask (([z34, z31.length] : List Nat) = [z34, z31.length]) (some (O36_0.x0 z31 z31 z34, p28.2))) else ((lidx z30 z32).bind fun d52 => ask (d52.cells.length = 3) ((cellAt 1 d52).bind fun x53 => (asInt .i64 x53).bind fun x54 => (ask (addOk z31.length z31 ([.agg [.val (.string (z29.extract (Int.toNat x50) (Int.toNat (z29.size : Int)))), .val (.int .i64 x54), .val (.int .i64 (w64 (z32 + 1)))]] : List D) 3 32) (ask (([z34, (z31.length + ([.agg [.val (.string (z29.extract (Int.toNat x50) (Int.toNat (z29.size : Int)))), .val (.int .i64 x54), .val (.int .i64 (w64 (z32 + 1)))]] : List D).length)] : List Nat) = [z34, (z31 ++ ([.agg [.val (.string (z29.extract (Int.toNat x50) (Int.toNat (z29.size : Int)))), .val (.int .i64 x54), .val (.int .i64 (w64 (z32 + 1)))]] : List D)).length]) (L36_0 n (z29, z30, (z31 ++ ([.agg [.val (.string (z29.extract (Int.toNat x50) (Int.toNat (z29.size : Int)))), .val (.int .i64 x54), .val (.int .i64 (w64 (z32 + 1)))]] : List D)), z33, z34) p28.2))))))))))))))))) else (ask (([k7, v5.length] : List Nat) = [k7, v5.length]) (some (O36_0.x1 v5 k7, ())))) := rfl
theorem L9_4_step (v44 v45 : List D) (k47 k : Nat) (n : Nat) : L9_4 (n + 1) (v44, v45, (k : Int), k47) () = (bif (decide ((k : Int) < ((v45.length : Nat) : Int))) then (bif (((v45.length : Nat) : Int) != ((v44.length : Nat) : Int)) then (ask (([k47, v45.length] : List Nat) = [k47, v45.length]) (some (O9_4.x0 false k47 v45.length, ()))) else ((lidx v45 (k : Int)).bind fun d51 => ask (d51.cells.length = 4) ((cellAt 0 d51).bind fun x52 => (asStr x52).bind fun x53 => ((lidx v44 (k : Int)).bind fun d54 => ask (d54.cells.length = 3) ((cellAt 0 d54).bind fun x55 => (asStr x55).bind fun x56 => (bif (!(sEq x53 x56)) then (ask (([k47, v45.length] : List Nat) = [k47, v45.length]) (some (O9_4.x0 false k47 v45.length, ()))) else (ask (([k47, v45.length] : List Nat) = [k47, v45.length]) (L9_4 n (v44, v45, (w64 ((k : Int) + 1)), k47) ())))))))) else (ask (([k47, v45.length] : List Nat) = [k47, v45.length]) (some (O9_4.x1 k47 v45.length, ())))) := rfl
theorem L9_4v3_step (v160 : List D) (v161 : Nat) (v163 v164 : List D) (k : Nat) (n : Nat) : L9_4v3 (n + 1) (v160, v161, (k : Int), v163, v164) () = (bif (decide ((k : Int) < ((v161 : Nat) : Int))) then (bif (((v161 : Nat) : Int) != ((v160.length : Nat) : Int)) then (some (O9_4v3.x0 false v163 v164, ())) else (ask (rowIn (k : Int) v161) (((v164)[(Int.toNat (k : Int))]?).bind fun d168 => ask (d168.cells.length = 4) ((cellAt 0 d168).bind fun x169 => (asStr x169).bind fun x170 => ((lidx v160 (k : Int)).bind fun d171 => ask (d171.cells.length = 3) ((cellAt 0 d171).bind fun x172 => (asStr x172).bind fun x173 => (bif (!(sEq x170 x173)) then (some (O9_4v3.x0 false v163 v164, ())) else (L9_4v3 n (v160, v161, (w64 ((k : Int) + 1)), v163, v164) ())))))))) else (some (O9_4v3.x1 v163 v164, ()))) := rfl
theorem L9_0v1_step (v94 : ByteArray) (v95 : Int) (v96 : Nat) (v97 v99 : List D) (k : Nat) (n : Nat) : L9_0v1 (n + 1) (v94, v95, v96, v97, (k : Int), v99) () = (bif (decide ((k : Int) < ((v96 : Nat) : Int))) then (ask (rowIn (k : Int) v96) (((v99)[(Int.toNat (k : Int))]?).bind fun d100 => ask (d100.cells.length = 4) ((cellAt 0 d100).bind fun x101 => (asStr x101).bind fun x102 => ((lidx v97 (k : Int)).bind fun d103 => ask (d103.cells.length = 3) ((cellAt 0 d103).bind fun x104 => (asStr x104).bind fun x105 => (bif (!(sEq x102 x105)) then (some (O9_0v1.x0 false v99, ())) else (ask (rowIn (k : Int) v96) (((v99)[(Int.toNat (k : Int))]?).bind fun d108 => ask (d108.cells.length = 4) ((cellAt 1 d108).bind fun x109 => (asInt .i64 x109).bind fun x110 => ((cellAt 2 d108).bind fun x111 => (asInt .i64 x111).bind fun x112 => ((cellAt 3 d108).bind fun x113 => (asInt .i64 x113).bind fun x114 => ((lidx v97 (k : Int)).bind fun d115 => ask (d115.cells.length = 3) ((cellAt 1 d115).bind fun x116 => (asInt .i64 x116).bind fun x117 => ((lidx v97 (k : Int)).bind fun d118 => ask (d118.cells.length = 3) ((cellAt 2 d118).bind fun x119 => (asInt .i64 x119).bind fun x120 => (bif (!((x110 == x117) && ((x112 == v95) && ((x114 == x120) && true)))) then (some (O9_0v1.x0 false v99, ())) else (ask (rowIn (k : Int) v96) (((v99)[(Int.toNat (k : Int))]?).bind fun d121 => ask (d121.cells.length = 4) (L9_0v1 n (v94, v95, v96, v97, (w64 ((k : Int) + 1)), (List.set v99 (Int.toNat (k : Int)) (D.put d121 0 ([.val (.string (⟨#[115, 112, 111, 105, 108, 116]⟩ : ByteArray)), .val (.int .i64 0), .val (.int .i64 0), .val (.int .i64 0)] : List D)))) ()))))))))))))))))))) else (some (O9_0v1.x1 v94 v95 v96 v97 v99, ()))) := rfl
theorem get_off {s : ByteArray} {k : Nat} (h : k < (rus s).length) : ∃ r : Ru, (rus s)[k]? = some r ∧ r.2.1 = offAt s k ∧ r.1 = rn s (offAt s k) ∧ offAt s k < s.size ∧ offAt s k < offAt s (k + 1) ∧ (rus s).drop k = r :: (rus s).drop (k + 1) := by
  obtain ⟨o, h1, h2, h3, h4, h5⟩ := ru_at h
  have := wd_pos s o
  subst h3
  refine ⟨_, h1, rfl, rfl, h2, by omega, ?_⟩
  rw [List.drop_eq_getElem_cons h]
  congr 1
  have := List.getElem?_eq_getElem h
  rw [h1] at this
  exact (Option.some.inj this).symm
def of36 : O36_0 → List D
  | .x0 z _ _ => z
  | .x1 z _ => z
theorem in36 {s : ByteArray} (hs : s.size ≤ 67108864) (v14 : List D) (v15 : Int) : ∀ (d n i : Nat), (rus s).length - i ≤ d → d < n → i ≤ (rus s).length → ∃ j, i ≤ j ∧ j ≤ (rus s).length ∧ (∀ l, i ≤ l → l < j → ∀ r, (rus s)[l]? = some r → blR r.1 = false) ∧ (j = (rus s).length ∨ ∀ r, (rus s)[j]? = some r → blR r.1 = true) ∧
    L36_2 n (s, (rus s).map encR, v14, v15, (i : Int), 0) () = some (O36_2.x0 s ((rus s).map encR) v14 v15 (j : Int) 0, ()) := by
  have hN := N_le hs
  intro d
  induction d with
  | zero =>
    intro n i hd hn hi
    obtain ⟨m, rfl⟩ : ∃ m, n = m + 1 := ⟨n - 1, by omega⟩
    refine ⟨i, Nat.le_refl _, hi, fun l h1 h2 => by omega, .inl (by omega), ?_⟩
    rw [L36_2_step, List.length_map, decide_eq_false (by omega), cond_false, ask_of rfl]
  | succ d ih =>
    intro n i hd hn hi
    obtain ⟨m, rfl⟩ : ∃ m, n = m + 1 := ⟨n - 1, by omega⟩
    by_cases h : i < (rus s).length
    · obtain ⟨r, h1, h2, h3, h4, h5, h6⟩ := get_off h
      rw [L36_2_step, List.length_map, decide_eq_true (by omega), cond_true, lidx_map, h1]
      simp only [Option.map_some, Option.bind_some, ask_of (lenR _), cellR0, asI64, n70_eq, w1k (show i ≤ 300000000 by omega)]
      cases hb : blR r.1 with
      | true =>
        rw [Bool.not_true, cond_false, ask_of trivial]
        exact ⟨i, Nat.le_refl _, hi, fun l h1 h2 => by omega, .inr fun r' hr' => by rw [h1] at hr'; cases hr'; exact hb, rfl⟩
      | false =>
        rw [Bool.not_false, cond_true, ask_of trivial]
        obtain ⟨j, q1, q2, q3, q4, q5⟩ := ih m (i + 1) (by omega) (by omega) (by omega)
        refine ⟨j, by omega, q2, fun l hl1 hl2 r' hr' => ?_, q4, q5⟩
        by_cases hl : l = i
        · subst hl; rw [h1] at hr'; cases hr'; exact hb
        · exact q3 l (by omega) hl2 r' hr'
    · refine ⟨i, Nat.le_refl _, hi, fun l h1 h2 => by omega, .inl (by omega), ?_⟩
      rw [L36_2_step, List.length_map, decide_eq_false (by omega), cond_false, ask_of rfl]
theorem wF_scan {s : ByteArray} {j a c : Nat} (hj : j ≤ (rus s).length) (he : j = (rus s).length ∨ ∀ r, (rus s)[j]? = some r → blR r.1 = true) : ∀ (d i : Nat), j - i ≤ d → i ≤ j → (∀ l, i ≤ l → l < j → ∀ r, (rus s)[l]? = some r → blR r.1 = false) →
    wF s.size ((rus s).drop i) i (some (a, c)) = (a, offAt s j, c) :: wF s.size ((rus s).drop j) j none := by
  have last : wF s.size ((rus s).drop j) j (some (a, c)) = (a, offAt s j, c) :: wF s.size ((rus s).drop j) j none := by
    by_cases h : j < (rus s).length
    · obtain ⟨r, h1, h2, h3, h4, h5, h6⟩ := get_off h
      have hb := (he.resolve_left (by omega)) r h1
      rw [h6, wF, wF, hb, cond_true, cond_true, h2]
    · obtain rfl : j = (rus s).length := by omega
      rw [List.drop_eq_nil_of_le (Nat.le_refl _), wF, wF]
      have : offAt s (rus s).length = s.size := by unfold offAt; rw [List.getElem?_eq_none (Nat.le_refl _)]
      rw [this]
  intro d
  induction d with
  | zero =>
    intro i hd hi hn
    obtain rfl : i = j := by omega
    exact last
  | succ d ih =>
    intro i hd hi hn
    by_cases hij : i = j
    · subst hij; exact last
    · obtain ⟨r, h1, h2, h3, h4, h5, h6⟩ := get_off (s := s) (k := i) (by omega)
      rw [h6, wF, hn i (Nat.le_refl _) (by omega) r h1, cond_false]
      exact ih (i + 1) (by omega) (by omega) (fun l q1 q2 => hn l (by omega) q2)
theorem offL {s : ByteArray} {i j : Nat} (h : i ≤ j) : offAt s i ≤ offAt s j := by
  obtain ⟨d, rfl⟩ : ∃ d, j = i + d := ⟨j - i, by omega⟩
  induction d with
  | zero => exact Nat.le_refl _
  | succ d ih => exact Nat.le_trans (ih (by omega)) (off_mono (s := s) (k := i + d))
theorem byte35 {s : ByteArray} {o : Nat} : ((((s.get! o).toNat : Nat) : Int) == 35) = (rn s o == 35) := by
  rw [Bool.eq_iff_iff, beq_iff_eq, beq_iff_eq]
  constructor
  · intro h
    have hb : bt s o = 35 := by unfold bt; omega
    have e := dec_ascii (s := s) (i := o) (by omega)
    unfold rn
    rw [e, hb, if_neg (by decide)]; rfl
  · intro h
    unfold rn at h
    split at h
    · cases h
    · have e := dec_small (s := s) (i := o) (by omega)
      rw [e] at h
      have : (bt s o : Int) = 35 := h
      unfold bt at this
      omega
theorem L36_run {s : ByteArray} (hs : s.size ≤ 67108864) : ∀ (d n k : Nat) (acc : List W3), (rus s).length - k ≤ d → d < n → k ≤ (rus s).length → acc.length ≤ k →
    ∃ o, L36_0 n (s, (rus s).map encR, acc.map (encQ s), (k : Int), 0) () = some (o, ()) ∧ of36 o = (acc ++ wF s.size ((rus s).drop k) k none).map (encQ s) := by
  have hN := N_le hs
  intro d
  induction d with
  | zero =>
    intro n k acc hd hn hk ha
    obtain ⟨m, rfl⟩ : ∃ m, n = m + 1 := ⟨n - 1, by omega⟩
    rw [L36_step, List.length_map, decide_eq_false (by omega), cond_false, ask_of rfl, List.drop_eq_nil_of_le (by omega)]
    exact ⟨_, rfl, by simp [of36, wF]⟩
  | succ d ih =>
    intro n k acc hd hn hk ha
    obtain ⟨m, rfl⟩ : ∃ m, n = m + 1 := ⟨n - 1, by omega⟩
    by_cases h : k < (rus s).length
    · obtain ⟨r, h1, h2, h3, h4, h5, h6⟩ := get_off h
      rw [L36_step, List.length_map, decide_eq_true (by omega), cond_true, lidx_map, h1]
      simp only [Option.map_some, Option.bind_some, ask_of (lenR _), cellR0, asI64, n70_eq, w1k (show k ≤ 300000000 by omega)]
      rw [h6, wF]
      cases hb : blR r.1 with
      | true =>
        rw [cond_true, cond_true, ask_of trivial]
        exact ih m (k + 1) acc (by omega) (by omega) (by omega) (by omega)
      | false =>
        rw [cond_false, cond_false, ask_of trivial]
        obtain ⟨j, q1, q2, q3, q4, q5⟩ := in36 hs (acc.map (encQ s)) (k : Int) (rus s).length 1000000000000 k (by omega) (by omega) (by omega)
        have hkj : k < j := by
          rcases Nat.lt_or_ge k j with hlt | hge
          · exact hlt
          · obtain rfl : j = k := by omega
            have := (q4.resolve_left (by omega)) r h1
            rw [hb] at this; cases this
        have hoj : offAt s k < offAt s j := Nat.lt_of_lt_of_le h5 (offL (by omega))
        have hjs := off_le (s := s) j
        have hsx : ∀ e : Nat, offAt s k < e → e ≤ s.size → sidx (s.extract (offAt s k) e) 0 = some (s.get! (offAt s k)) := fun e he hes => sidx_ext (s := s) he hes
        have sc := wF_scan (s := s) (a := offAt s k) (c := k + 1) q2 q4 (rus s).length (k + 1) (by omega) (by omega) (fun l q1 q2 => q3 l (by omega) q2)
        have hcut : cutOk (offAt s k : Int) (offAt s j : Int) s.size := ⟨by omega, by omega, by omega⟩
        have hadd := addOk_Q s acc (offAt s k, offAt s j, k + 1) (by omega)
        have fin : ∃ o, (bif (((s.get! (offAt s k)).toNat : Int) == 35) then (ask (([0, (acc.map (encQ s)).length] : List Nat) = [0, (acc.map (encQ s)).length]) (some (O36_0.x0 (acc.map (encQ s)) (acc.map (encQ s)) 0, ()))) else (ask (addOk (acc.map (encQ s)).length (acc.map (encQ s)) [encQ s (offAt s k, offAt s j, k + 1)] 3 32) (ask (([0, ((acc.map (encQ s)).length + ([encQ s (offAt s k, offAt s j, k + 1)] : List D).length)] : List Nat) = [0, (acc.map (encQ s) ++ [encQ s (offAt s k, offAt s j, k + 1)]).length]) (L36_0 m (s, (rus s).map encR, acc.map (encQ s) ++ [encQ s (offAt s k, offAt s j, k + 1)], (j : Int), 0) ())))) = some (o, ()) ∧ of36 o = (acc ++ bif (r.1 == 35) then [] else wF s.size ((rus s).drop (k + 1)) (k + 1) (some (r.2.1, k + 1))).map (encQ s) := by
          rw [byte35, ← h3]
          cases h35 : (r.1 == 35) with
          | true =>
            rw [cond_true, cond_true, ask_of rfl]
            exact ⟨_, rfl, by simp [of36]⟩
          | false =>
            rw [cond_false, cond_false, ask_of hadd, ask_of (by simp), map_snoc, h2, sc]
            obtain ⟨o, e1, e2⟩ := ih m j (acc ++ [(offAt s k, offAt s j, k + 1)]) (by omega) (by omega) q2 (by simp; omega)
            exact ⟨o, e1, by rw [e2]; simp⟩
        rw [q5, Option.bind_some]
        dsimp only
        by_cases hjl : j < (rus s).length
        · obtain ⟨r', h1', h2', _, _, _, _⟩ := get_off hjl
          rw [List.length_map, decide_eq_true (by omega), cond_true, lidx_map, lidx_map, h1, h1']
          simp only [Option.map_some, Option.bind_some, ask_of (lenR _), cellR1, asI64, h2, h2', ask_of hcut, hsx _ hoj hjs, w1k (show k ≤ 300000000 by omega), Int.toNat_natCast]
          simp only [h2, Int.toNat_natCast, ask_True] at fin ⊢
          exact fin
        · obtain rfl : j = (rus s).length := by omega
          have hoe : offAt s (rus s).length = s.size := by unfold offAt; rw [List.getElem?_eq_none (Nat.le_refl _)]
          rw [hoe] at hcut hoj hjs fin
          rw [List.length_map, decide_eq_false (by omega), cond_false, lidx_map, h1]
          simp only [Option.map_some, Option.bind_some, ask_of (lenR _), cellR1, asI64, h2, ask_of hcut, hsx _ hoj hjs, w1k (show k ≤ 300000000 by omega), Int.toNat_natCast]
          simp only [h2, Int.toNat_natCast, ask_True] at fin ⊢
          exact fin
    · rw [L36_step, List.length_map, decide_eq_false (by omega), cond_false, ask_of rfl, List.drop_eq_nil_of_le (by omega)]
      exact ⟨_, rfl, by simp [of36, wF]⟩
theorem n36_eq {s : ByteArray} (hs : s.size ≤ 67108864) : n36 s = some ((wsOf s).map (encQ s)) := by
  have hN := N_le hs
  obtain ⟨o, h1, h2⟩ := L36_run hs (rus s).length 1000000000000 0 [] (by omega) (by omega) (by omega) (by simp)
  show ((n29 s).bind fun y2 => (ask (([0, 0] : List Nat) = [0, ([] : List D).length]) ((L36_0 1000000000000 (s, y2, ([] : List W3).map (encQ s), ((0 : Nat) : Int), 0) ()).bind fun p57 => match p57.1 with | .x0 z58 z59 z60 => (some z58) | .x1 z61 z62 => (some z61)))) = _
  rw [n29_eq hs, Option.bind_some, ask_of (show ([0, 0] : List Nat) = [0, ([] : List D).length] from rfl), h1]
  rw [List.nil_append, List.drop_zero] at h2
  cases o <;> (simp only [of36] at h2; rw [h2]; rfl)
theorem cellP0 (s : ByteArray) (ln : Int) (w : W3) : cellAt 0 (encP s ln w) = some (.val (.string (s.extract w.1 w.2.1))) := rfl
theorem cellP1 (s : ByteArray) (ln : Int) (w : W3) : cellAt 1 (encP s ln w) = some (.val (.int .i64 (w.1 : Int))) := rfl
theorem cellP2 (s : ByteArray) (ln : Int) (w : W3) : cellAt 2 (encP s ln w) = some (.val (.int .i64 ln)) := rfl
theorem cellP3 (s : ByteArray) (ln : Int) (w : W3) : cellAt 3 (encP s ln w) = some (.val (.int .i64 (w.2.2 : Int))) := rfl
theorem lenP (s : ByteArray) (ln : Int) (w : W3) : (encP s ln w).cells.length = 4 := rfl
theorem cellQ0 (s : ByteArray) (w : W3) : cellAt 0 (encQ s w) = some (.val (.string (s.extract w.1 w.2.1))) := rfl
theorem cellQ1 (s : ByteArray) (w : W3) : cellAt 1 (encQ s w) = some (.val (.int .i64 (w.1 : Int))) := rfl
theorem cellQ2 (s : ByteArray) (w : W3) : cellAt 2 (encQ s w) = some (.val (.int .i64 (w.2.2 : Int))) := rfl
theorem lenQ (s : ByteArray) (w : W3) : (encQ s w).cells.length = 3 := rfl
theorem L9_0v1_run (s : ByteArray) (ln : Int) (ws : List W3) (hw : ws.length ≤ 67108900) : ∀ (d n k : Nat) (l : List D), ws.length - k ≤ d → d < n → k ≤ ws.length → (∀ j, k ≤ j → l[j]? = (ws[j]?).map (encP s ln)) →
    ∃ l', L9_0v1 n (s, ln, ws.length, ws.map (encQ s), (k : Int), l) () = some (O9_0v1.x1 s ln ws.length (ws.map (encQ s)) l', ()) := by
  intro d
  induction d with
  | zero =>
    intro n k l hd hn hk hl
    obtain ⟨m, rfl⟩ : ∃ m, n = m + 1 := ⟨n - 1, by omega⟩
    rw [L9_0v1_step, decide_eq_false (by omega), cond_false]
    exact ⟨_, rfl⟩
  | succ d ih =>
    intro n k l hd hn hk hl
    obtain ⟨m, rfl⟩ : ∃ m, n = m + 1 := ⟨n - 1, by omega⟩
    by_cases h : k < ws.length
    · have e := hl k (Nat.le_refl _)
      rw [List.getElem?_eq_getElem h, Option.map_some] at e
      rw [L9_0v1_step, decide_eq_true (by omega), cond_true]
      rw [ask_of (show rowIn (k : Int) ws.length from ⟨by omega, by omega⟩), Int.toNat_natCast, e]
      simp only [Option.bind_some, ask_of (lenP _ _ _), cellP0, cellP1, cellP2, cellP3, asS, asI64, lidx_map, List.getElem?_eq_getElem h, Option.map_some, ask_of (lenQ _ _), cellQ0, cellQ1, cellQ2, (sEq_iff _ _).2 rfl, beq_self_eq_true, Bool.and_self, Bool.not_true, cond_false, w1k (show k ≤ 300000000 by omega), ask_of (show rowIn (k : Int) ws.length from ⟨by omega, by omega⟩), Int.toNat_natCast]
      exact ih m (k + 1) _ (by omega) (by omega) (by omega) (fun j hj => by rw [List.getElem?_set_ne (by omega)]; exact hl j (by omega))
    · rw [L9_0v1_step, decide_eq_false (by omega), cond_false]
      exact ⟨_, rfl⟩
theorem L9_4v3_run (s : ByteArray) (ln : Int) (ws : List W3) (q : List D) (hw : ws.length ≤ 67108900) : ∀ (d n k : Nat), ws.length - k ≤ d → d < n → k ≤ ws.length →
    L9_4v3 n (ws.map (encQ s), ws.length, (k : Int), q, ws.map (encP s ln)) () = some (O9_4v3.x1 q (ws.map (encP s ln)), ()) := by
  intro d
  induction d with
  | zero =>
    intro n k hd hn hk
    obtain ⟨m, rfl⟩ : ∃ m, n = m + 1 := ⟨n - 1, by omega⟩
    rw [L9_4v3_step, decide_eq_false (by omega), cond_false]
  | succ d ih =>
    intro n k hd hn hk
    obtain ⟨m, rfl⟩ : ∃ m, n = m + 1 := ⟨n - 1, by omega⟩
    by_cases h : k < ws.length
    · rw [L9_4v3_step, decide_eq_true (by omega), cond_true, List.length_map, bne_self_eq_false, cond_false]
      rw [ask_of (show rowIn (k : Int) ws.length from ⟨by omega, by omega⟩), Int.toNat_natCast, List.getElem?_map, List.getElem?_eq_getElem h]
      simp only [Option.bind_some, Option.map_some, ask_of (lenP _ _ _), cellP0, asS, lidx_map, List.getElem?_eq_getElem h, ask_of (lenQ _ _), cellQ0, (sEq_iff _ _).2 rfl, Bool.not_true, cond_false, w1k (show k ≤ 300000000 by omega)]
      exact ih m (k + 1) (by omega) (by omega) (by omega)
    · rw [L9_4v3_step, decide_eq_false (by omega), cond_false]
theorem rowOk_P (s : ByteArray) (ln : Int) (l : List W3) : rowOk 4 (l.map (encP s ln)) = true := by
  simp only [rowOk, Bool.and_eq_true, List.all_map, List.all_eq_true]
  exact ⟨⟨fun t _ => rfl, fun t _ => rfl⟩, rfl⟩
theorem L9_0_nil (a : ByteArray) (b : Int) (y : List D) (n : Nat) : L9_0 (n + 1) (a, b, [], y, 0) () = some (O9_0.x1 a b [] y, ()) := rfl
theorem L9_4_nil (y : List D) (k : Nat) (n : Nat) : L9_4 (n + 1) (y, [], 0, k) () = some (O9_4.x1 k 0, ()) := by
  rw [show (0 : Int) = ((0 : Nat) : Int) from rfl, L9_4_step, decide_eq_false (by simp), cond_false, ask_of rfl]; rfl
theorem plain9 (s : ByteArray) (ln : Int) (hs : s.size ≤ 1048576) (_ : (Lit.int .i64 ln).wf = true) : n9 (s, ln) = some true := by
  have h1 := nU35_eq (s := s) (by omega) ln
  have h2 := n36_eq (s := s) (by omega)
  have hlen : (wsOf s).length ≤ 1048578 := by
    have := wF_len s.size (rus s) 0 none
    have h3 : (rus s).length ≤ 1048576 := by
      have := runesL_length (s := s) s.size 0 (by omega)
      exact Nat.le_trans this (by omega)
    unfold wsOf; omega
  unfold n9
  dsimp only
  rw [h1, Option.bind_some, ask_of (rowOk_P s ln _)]
  cases hw : wsOf s with
  | nil =>
    rw [hw] at h1 h2
    simp only [List.map_nil] at h1 h2 ⊢
    rw [h2, Option.bind_some, bne_self_eq_false, cond_false, ask_of (by first | trivial | rfl), show L9_0 1000000000000 (s, ln, ([] : List D), ([] : List D), 0) () = some (O9_0.x1 s ln [] [], ()) from L9_0_nil s ln [] 999999999999, Option.bind_some]
    dsimp only
    iterate 20 rw [ask_of (show addOk _ _ _ 4 40 from by exact ⟨rfl, rfl, rfl, by decide⟩)]
    rw [h1, Option.bind_some, ask_of (by first | trivial | rfl)]
    dsimp only
    rw [ask_of (by first | trivial | rfl)]
    rw [show ∀ k, L9_4 1000000000000 (([] : List D), ([] : List D), 0, k) () = some (O9_4.x1 k 0, ()) from fun k => L9_4_nil [] k 999999999999, Option.bind_some]
    dsimp only
    rw [alive_true]; rfl
  | cons w t =>
    rw [hw] at h1 h2 hlen
    have hl : (w :: t).length ≤ 67108900 := by omega
    obtain ⟨l', r1⟩ := L9_0v1_run s ln (w :: t) hl (w :: t).length 1000000000000 0 ((w :: t).map (encP s ln)) (by omega) (by omega) (by omega) (fun j _ => by rw [List.getElem?_map])
    have r2 := L9_4v3_run s ln (w :: t) [] hl (w :: t).length 1000000000000 0 (by omega) (by omega) (by omega)
    have r1' : L9_0v1 1000000000000 (s, ln, (encP s ln w :: t.map (encP s ln)).length, (w :: t).map (encQ s), 0, encP s ln w :: t.map (encP s ln)) () = some (O9_0v1.x1 s ln (w :: t).length ((w :: t).map (encQ s)) l', ()) := by
      rw [show (encP s ln w :: t.map (encP s ln)).length = (w :: t).length by simp]; exact r1
    rw [List.map_cons]
    dsimp only
    rw [h2, Option.bind_some]
    rw [show ((((encP s ln w :: t.map (encP s ln)).length : Nat) : Int) != (((w :: t).map (encQ s)).length : Nat)) = false by simp, cond_false, r1', Option.bind_some]
    dsimp only
    iterate 20 rw [ask_of (show fogOk _ _ _ 40 from ⟨rfl, by simp only [List.length_cons, List.length_nil] at hl ⊢; unfold maxBytes; omega⟩)]
    rw [h1, Option.bind_some, ask_of (rowOk_P s ln _), List.map_cons]
    dsimp only
    have r2' : L9_4v3 1000000000000 ((w :: t).map (encQ s), (encP s ln w :: t.map (encP s ln)).length, 0, [], encP s ln w :: t.map (encP s ln)) () = some (O9_4v3.x1 [] ((w :: t).map (encP s ln)), ()) := by
      rw [show (encP s ln w :: t.map (encP s ln)).length = (w :: t).length by simp]; exact r2
    rw [r2', Option.bind_some]
    dsimp only
    rw [alive_true]; rfl
end Ev
