/- Plain law: TextRunes. -/
import Derived.Test.YtedbcbncdfjocaaDoorPlIter
import Derived.Test.YtedbcbncdfjocaaDoorPlName
set_option linter.unusedSimpArgs false
set_option linter.unusedVariables false
namespace Ev
open Go

theorem L30_step (v2 v3 : List D) (k : Nat) (v5 v6 v7 : Int) (k8 n : Nat) : L30_0 (n + 1) (v2, v3, (k : Int), v5, v6, v7, k8) () = (bif (decide ((k : Int) < ((v2.length : Nat) : Int))) then ((lidx v2 (k : Int)).bind fun d9 => ask (d9.cells.length = 3) ((cellAt 1 d9).bind fun x10 => (asInt .i64 x10).bind fun x11 => (ask (addOk v3.length v3 ([.agg [.val (.int .i64 x11), .val (.int .i64 v6), .val (.int .i64 v7)]] : List D) 3 24) ((lidx v2 (k : Int)).bind fun d12 => ask (d12.cells.length = 3) ((cellAt 0 d12).bind fun x13 => (asInt .i64 x13).bind fun x14 => (bif (x14 == 10) then (ask (([k8, (v3.length + ([.agg [.val (.int .i64 x11), .val (.int .i64 v6), .val (.int .i64 v7)]] : List D).length)] : List Nat) = [k8, (v3 ++ ([.agg [.val (.int .i64 x11), .val (.int .i64 v6), .val (.int .i64 v7)]] : List D)).length]) (L30_0 n (v2, (v3 ++ ([.agg [.val (.int .i64 x11), .val (.int .i64 v6), .val (.int .i64 v7)]] : List D)), (w64 ((k : Int) + 1)), x11, (w64 (v6 + 1)), 1, k8) ())) else (ask (([k8, (v3.length + ([.agg [.val (.int .i64 x11), .val (.int .i64 v6), .val (.int .i64 v7)]] : List D).length)] : List Nat) = [k8, (v3 ++ ([.agg [.val (.int .i64 x11), .val (.int .i64 v6), .val (.int .i64 v7)]] : List D)).length]) (L30_0 n (v2, (v3 ++ ([.agg [.val (.int .i64 x11), .val (.int .i64 v6), .val (.int .i64 v7)]] : List D)), (w64 ((k : Int) + 1)), x11, v6, (w64 (v7 + 1)), k8) ())))))))) else (ask (([k8, v3.length] : List Nat) = [k8, v3.length]) (some (O30_0.x0 v3 v5 v6 v7 k8, ())))) := rfl
theorem L30_round {l : List Ru} (hl : l.length ≤ 1048576) (acc : List Sp) (ha : acc.length ≤ 1048576) {k : Nat} (hk : k < l.length) (v5 : Int) (ln c : Nat) (h1 : ln ≤ 1048577) (h2 : c ≤ 1048577) (k8 n : Nat) :
    L30_0 (n + 1) (l.map encR, acc.map encS, (k : Int), v5, (ln : Int), (c : Int), k8) () = (bif ((l[k]).1 == 10) then (L30_0 n (l.map encR, (acc ++ [((l[k]).1, (l[k]).2.1, ln, c)]).map encS, ((k + 1 : Nat) : Int), ((l[k]).2.1 : Int), ((ln + 1 : Nat) : Int), ((1 : Nat) : Int), k8) ()) else (L30_0 n (l.map encR, (acc ++ [((l[k]).1, (l[k]).2.1, ln, c)]).map encS, ((k + 1 : Nat) : Int), ((l[k]).2.1 : Int), (ln : Int), ((c + 1 : Nat) : Int), k8) ())) := by
  have e0 : w64 ((k : Int) + 1) = ((k + 1 : Nat) : Int) := by rw [w64_id (by omega) (by omega)]; omega
  have e1 : w64 ((ln : Int) + 1) = ((ln + 1 : Nat) : Int) := by rw [w64_id (by omega) (by omega)]; omega
  have e2 : w64 ((c : Int) + 1) = ((c + 1 : Nat) : Int) := by rw [w64_id (by omega) (by omega)]; omega
  rw [L30_step, List.length_map, decide_eq_true (by omega), cond_true, lidx_map, List.getElem?_eq_getElem hk, Option.map_some, Option.bind_some, ask_of (show (encR l[k]).cells.length = 3 from rfl), e0, e1, e2]
  show ask (addOk (acc.map encS).length (acc.map encS) [encS ((l[k]).1, (l[k]).2.1, ln, c)] 3 24) (bif ((l[k]).1 == 10) then (ask (([k8, (acc.map encS).length + ([encS ((l[k]).1, (l[k]).2.1, ln, c)] : List D).length] : List Nat) = [k8, (acc.map encS ++ [encS ((l[k]).1, (l[k]).2.1, ln, c)]).length]) (L30_0 n (l.map encR, acc.map encS ++ [encS ((l[k]).1, (l[k]).2.1, ln, c)], ((k + 1 : Nat) : Int), ((l[k]).2.1 : Int), ((ln + 1 : Nat) : Int), ((1 : Nat) : Int), k8) ())) else (ask (([k8, (acc.map encS).length + ([encS ((l[k]).1, (l[k]).2.1, ln, c)] : List D).length] : List Nat) = [k8, (acc.map encS ++ [encS ((l[k]).1, (l[k]).2.1, ln, c)]).length]) (L30_0 n (l.map encR, acc.map encS ++ [encS ((l[k]).1, (l[k]).2.1, ln, c)], ((k + 1 : Nat) : Int), ((l[k]).2.1 : Int), (ln : Int), ((c + 1 : Nat) : Int), k8) ()))) = _
  rw [ask_of (addOk_map encS 3 24 (fun _ => rfl) acc _ (by unfold maxBytes; omega)), ask_of (toks_one encS acc _ k8), ask_of (toks_one encS acc _ k8), map_snoc]
theorem L30 {l : List Ru} (hl : l.length ≤ 1048576) : ∀ (d n k : Nat) (acc : List Sp) (v5 : Int) (ln c k8 : Nat), l.length - k ≤ d → d < n → k ≤ l.length → acc.length ≤ k → ln ≤ k + 1 → c ≤ k + 1 →
    ∃ x y z, L30_0 n (l.map encR, acc.map encS, (k : Int), v5, (ln : Int), (c : Int), k8) () = some (O30_0.x0 ((acc ++ spotsOf ln c (l.drop k)).map encS) x y z k8, ()) := by
  intro d
  induction d with
  | zero =>
    intro n k acc v5 ln c k8 hd hn hk ha h1 h2
    obtain ⟨m, rfl⟩ : ∃ m, n = m + 1 := ⟨n - 1, by omega⟩
    rw [L30_step, List.length_map, decide_eq_false (by omega), cond_false, ask_of rfl, List.drop_eq_nil_of_le (by omega), spotsOf, List.append_nil]
    exact ⟨_, _, _, rfl⟩
  | succ d ih =>
    intro n k acc v5 ln c k8 hd hn hk ha h1 h2
    obtain ⟨m, rfl⟩ : ∃ m, n = m + 1 := ⟨n - 1, by omega⟩
    by_cases h : k < l.length
    · rw [L30_round hl acc (by omega) h v5 ln c (by omega) (by omega) k8 m, List.drop_eq_getElem_cons h, spotsOf]
      by_cases h10 : (l[k]).1 = 10
      · rw [show ((l[k]).1 == 10) = true from beq_iff_eq.2 h10, cond_true, if_pos h10]
        obtain ⟨x, y, z, e⟩ := ih m (k + 1) (acc ++ [((l[k]).1, (l[k]).2.1, ln, c)]) ((l[k]).2.1 : Int) (ln + 1) 1 k8 (by omega) (by omega) (by omega) (by simp; omega) (by omega) (by omega)
        exact ⟨x, y, z, by rw [e, List.append_assoc]; rfl⟩
      · rw [show ((l[k]).1 == 10) = false from beq_eq_false_iff_ne.2 h10, cond_false, if_neg h10]
        obtain ⟨x, y, z, e⟩ := ih m (k + 1) (acc ++ [((l[k]).1, (l[k]).2.1, ln, c)]) ((l[k]).2.1 : Int) ln (c + 1) k8 (by omega) (by omega) (by omega) (by simp; omega) (by omega) (by omega)
        exact ⟨x, y, z, by rw [e, List.append_assoc]; rfl⟩
    · rw [L30_step, List.length_map, decide_eq_false (by omega), cond_false, ask_of rfl, List.drop_eq_nil_of_le (by omega), spotsOf, List.append_nil]
      exact ⟨_, _, _, rfl⟩
theorem n30_eq {s : ByteArray} (hs : s.size ≤ 1048576) : n30 ((runesL s 0).map encR) = some ((spots s).map encS) := by
  have hle := runesL_length (s := s) s.size 0 (by omega)
  obtain ⟨x, y, z, e⟩ := L30 (l := runesL s 0) (by omega) (runesL s 0).length 1000000000000 0 [] 0 1 1 0 (by omega) (by omega) (by omega) (by simp) (by omega) (by omega)
  show (ask (([0, 0] : List Nat) = [0, ([] : List D).length]) ((L30_0 1000000000000 ((runesL s 0).map encR, ([] : List Sp).map encS, ((0 : Nat) : Int), 0, ((1 : Nat) : Int), ((1 : Nat) : Int), 0) ()).bind fun p20 => match p20.1 with | .x0 z21 z22 z23 z24 z25 => (some z21))) = _
  rw [ask_of (show ([0, 0] : List Nat) = [0, ([] : List D).length] from rfl), e]
  rfl
/-! the law -/
theorem sp_ru : ∀ (l c : Nat) (t : List Ru) (k : Nat) (p : Sp), (spotsOf l c t)[k]? = some p → ∃ r, t[k]? = some r ∧ r.1 = p.1 ∧ r.2.1 = p.2.1
  | _, _, [], k, p, h => by simp [spotsOf] at h
  | l, c, r :: t, 0, p, h => by
    simp only [spotsOf, List.getElem?_cons_zero, Option.some.injEq] at h
    subst h
    exact ⟨r, rfl, rfl, rfl⟩
  | l, c, r :: t, k + 1, p, h => by
    simp only [spotsOf, List.getElem?_cons_succ] at h ⊢
    split at h
    · exact sp_ru _ _ t k p h
    · exact sp_ru _ _ t k p h
theorem L7_step (v5 v6 v7 v8 : List D) (k : Nat) (n : Nat) : L7_0 (n + 1) (v5, v6, v7, v8, (k : Int)) () = (bif (decide ((k : Int) < ((v7.length : Nat) : Int))) then ((lidx v6 (k : Int)).bind fun d10 => ask (d10.cells.length = 1) ((cellAt 0 d10).bind fun x11 => (asInt .i32 x11).bind fun x12 => ((lidx v7 (k : Int)).bind fun d13 => ask (d13.cells.length = 3) ((cellAt 0 d13).bind fun x14 => (asInt .i64 x14).bind fun x15 => (bif ((w64 x12) != x15) then (some (O7_0.x0 false, ())) else ((lidx v5 (k : Int)).bind fun d17 => ask (d17.cells.length = 3) ((cellAt 0 d17).bind fun x18 => (asInt .i64 x18).bind fun x19 => ((cellAt 1 d17).bind fun x20 => (asInt .i64 x20).bind fun x21 => ((cellAt 2 d17).bind fun x22 => (asInt .i64 x22).bind fun x23 => ((lidx v8 (k : Int)).bind fun d24 => ask (d24.cells.length = 3) ((cellAt 0 d24).bind fun x25 => (asInt .i64 x25).bind fun x26 => ((cellAt 1 d24).bind fun x27 => (asInt .i64 x27).bind fun x28 => ((cellAt 2 d24).bind fun x29 => (asInt .i64 x29).bind fun x30 => ((n31 (x19, x21, x23, x26, x28, x30)).bind fun y31 => (bif (!y31) then (some (O7_0.x0 false, ())) else (L7_0 n (v5, v6, v7, v8, (w64 ((k : Int) + 1))) ())))))))))))))))) else (some (O7_0.x1 , ()))) := rfl
theorem cellS0 (p : Sp) : cellAt 0 (encS p) = some (.val (.int .i64 p.2.1)) := rfl
theorem cellS1 (p : Sp) : cellAt 1 (encS p) = some (.val (.int .i64 p.2.2.1)) := rfl
theorem cellS2 (p : Sp) : cellAt 2 (encS p) = some (.val (.int .i64 p.2.2.2)) := rfl
theorem cellC0 (p : Sp) : cellAt 0 (encC p) = some (.val (.int .i32 p.1)) := rfl
theorem cellR0 (r : Ru) : cellAt 0 (encR r) = some (.val (.int .i64 r.1)) := rfl
theorem cellR1 (r : Ru) : cellAt 1 (encR r) = some (.val (.int .i64 r.2.1)) := rfl
theorem cellR2 (r : Ru) : cellAt 2 (encR r) = some (.val (.int .i64 r.2.2)) := rfl
theorem asI64 (n : Int) : asInt .i64 (.val (.int .i64 n)) = some n := rfl
theorem asI32 (n : Int) : asInt .i32 (.val (.int .i32 n)) = some n := rfl
theorem lenS (p : Sp) : (encS p).cells.length = 3 := rfl
theorem lenC (p : Sp) : (encC p).cells.length = 1 := rfl
theorem lenR (r : Ru) : (encR r).cells.length = 3 := rfl
theorem n31_same (a b c : Int) : n31 (a, b, c, a, b, c) = some true := by simp [n31]
theorem rn_mem {s : ByteArray} : ∀ (f i : Nat) (r : Ru), r ∈ runesF s f i → ∃ j, r.1 = rn s j
  | 0, _, r, h => by cases h
  | f + 1, i, r, h => by
    rw [runesF] at h
    split at h
    · rcases List.mem_cons.1 h with rfl | h
      · exact ⟨i, rfl⟩
      · exact rn_mem f _ r h
    · cases h
theorem L7 {s : ByteArray} (hs : s.size ≤ 1048576) : ∀ (d n k : Nat), (spots s).length - k ≤ d → d < n → k ≤ (spots s).length → L7_0 n ((spots s).map encS, (spots s).map encC, (runesL s 0).map encR, (spots s).map encS, (k : Int)) () = some (O7_0.x1, ()) := by
  have hle := spots_le s
  have hlen := spots_length s
  intro d
  induction d with
  | zero =>
    intro n k hd hn hk
    obtain ⟨m, rfl⟩ : ∃ m, n = m + 1 := ⟨n - 1, by omega⟩
    rw [L7_step, List.length_map, decide_eq_false (by omega), cond_false]
  | succ d ih =>
    intro n k hd hn hk
    obtain ⟨m, rfl⟩ : ∃ m, n = m + 1 := ⟨n - 1, by omega⟩
    by_cases h : k < (spots s).length
    · have e0 : w64 ((k : Int) + 1) = ((k + 1 : Nat) : Int) := by rw [w64_id (by omega) (by omega)]; omega
      have hp : (spots s)[k]? = some (spots s)[k] := List.getElem?_eq_getElem h
      obtain ⟨r, hr, h1, h2⟩ := sp_ru 1 1 (runesL s 0) k _ hp
      obtain ⟨j, hj⟩ := rn_mem _ _ r (List.mem_of_getElem? hr)
      have hrange := rn_range s j
      have ew : w64 ((spots s)[k]).1 = r.1 := by rw [← h1, hj, w64_id (by omega) (by omega)]
      rw [L7_step, List.length_map, decide_eq_true (by omega), cond_true, lidx_map, lidx_map, lidx_map, hp, hr, e0]
      simp only [Option.map_some, Option.bind_some, ask_of (lenS _), ask_of (lenC _), ask_of (lenR _), cellS0, cellS1, cellS2, cellC0, cellR0, asI64, asI32, ew, bne_self_eq_false, cond_false, n31_same, Bool.not_true]
      exact ih m (k + 1) (by omega) (by omega) (by omega)
    · rw [L7_step, List.length_map, decide_eq_false (by omega), cond_false]
theorem plain7 (a0 : ByteArray) (h : a0.size ≤ 1048576) : n7 a0 = some true := by
  have hle := spots_le a0
  have hL := L7 h (spots a0).length 1000000000000 0 (by omega) (by omega) (by omega)
  show ((n28 a0).bind fun y2 => ((n29 a0).bind fun y3 => ((n30 y3).bind fun y4 => (bif (((y2.1.length : Nat) : Int) != ((y3.length : Nat) : Int)) then (some false) else ((L7_0 1000000000000 (y2.1, y2.2, y3, y4, 0) ()).bind fun p32 => match p32.1 with | .x0 z33 => (some z33) | .x1  => ((n32 ()).bind fun y34 => (some y34))))))) = _
  rw [n28_eq h, Option.bind_some, n29_eq h, Option.bind_some, n30_eq h, Option.bind_some]
  simp only [List.length_map, spots_length, bne_self_eq_false, cond_false]
  rw [show ((0 : Int)) = ((0 : Nat) : Int) from rfl, hL, Option.bind_some]
  show (n32 ()).bind _ = _
  rw [alive_true]; rfl
end Ev
