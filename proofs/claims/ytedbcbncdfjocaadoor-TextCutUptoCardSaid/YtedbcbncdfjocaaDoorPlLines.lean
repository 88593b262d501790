/- Plain law: TextLines. -/
import Derived.Test.YtedbcbncdfjocaaDoorPlIter
import Derived.Test.YtedbcbncdfjocaaDoorPlName
import Derived.Test.YtedbcbncdfjocaaDoorPlRunes
set_option linter.unusedSimpArgs false
set_option linter.unusedVariables false
namespace Ev
open Go

/-- A text's lines, each without its end. -/
def linesF (cur : List UInt8) : List UInt8 → List (List UInt8)
  | [] => if cur = [] then [] else [cur]
  | c :: t => if c = 10 then cur :: linesF [] t else linesF (cur ++ [c]) t
def encB (l : List UInt8) : D := .val (.string ⟨l.toArray⟩)
def encN64 (k : Nat) : D := .val (.int .i64 (k : Int))
theorem cut_nil : Lib.cut [] [10] = ([], [], false) := rfl
theorem cut_hit (t : List UInt8) : Lib.cut (10 :: t) [10] = ([], t, true) := by
  have : Lib.index (10 :: t) [10] = 0 := by rw [Lib.index]; rfl
  unfold Lib.cut; rw [this]; rfl
theorem cut_miss {c : UInt8} (h : c ≠ 10) (t : List UInt8) : (Lib.cut (c :: t) [10]).1 = c :: (Lib.cut t [10]).1 ∧ (Lib.cut (c :: t) [10]).2.1 = (Lib.cut t [10]).2.1 := by
  have hge := Lib.index_ge t [10]
  have e : Lib.index (c :: t) [10] = if Lib.index t [10] == -1 then -1 else Lib.index t [10] + 1 := by
    have : ([10] : List UInt8).isPrefixOf (c :: t) = false := by
      rw [List.isPrefixOf, beq_eq_false_iff_ne.2 (fun h' => h h'.symm), Bool.false_and]
    rw [Lib.index, this]; rfl
  unfold Lib.cut
  by_cases hm : Lib.index t [10] = -1
  · have e' : Lib.index (c :: t) [10] = -1 := by rw [e, hm]; rfl
    rw [e', hm]; exact ⟨rfl, rfl⟩
  · have e' : Lib.index (c :: t) [10] = Lib.index t [10] + 1 := by rw [e, show (Lib.index t [10] == -1) = false from beq_eq_false_iff_ne.2 hm]; rfl
    have h0 : 0 ≤ Lib.index t [10] := by omega
    have h1 : 0 ≤ Lib.index (c :: t) [10] := by omega
    rw [if_pos h1, if_pos h0, e', show (Lib.index t [10] + 1).toNat = (Lib.index t [10]).toNat + 1 by omega]
    refine ⟨rfl, ?_⟩
    simp only [List.length_cons, List.length_nil]
    rw [show (Lib.index t [10]).toNat + 1 + (0 + 1) = ((Lib.index t [10]).toNat + (0 + 1)) + 1 by omega, List.drop_succ_cons]
theorem lines_cut : ∀ (l cur : List UInt8), cur ≠ [] ∨ l ≠ [] → linesF cur l = (cur ++ (Lib.cut l [10]).1) :: linesF [] (Lib.cut l [10]).2.1
  | [], cur, h => by
    have hc : cur ≠ [] := h.resolve_right (fun q => q rfl)
    rw [linesF, if_neg hc, cut_nil]
    simp [linesF]
  | c :: t, cur, _ => by
    by_cases hc : c = 10
    · subst hc
      rw [linesF, if_pos rfl, cut_hit, List.append_nil]
    · rw [linesF, if_neg hc, lines_cut t (cur ++ [c]) (.inl (by simp)), (cut_miss hc t).1, (cut_miss hc t).2, List.append_assoc]
      rfl
theorem cut_len : ∀ (l : List UInt8), (Lib.cut l [10]).1.length ≤ l.length ∧ (l ≠ [] → (Lib.cut l [10]).2.1.length < l.length)
  | [] => ⟨Nat.le_refl _, fun h => absurd rfl h⟩
  | c :: t => by
    by_cases hc : c = 10
    · subst hc
      rw [cut_hit]; exact ⟨Nat.zero_le _, fun _ => Nat.lt_succ_self _⟩
    · rw [(cut_miss hc t).1, (cut_miss hc t).2]
      have ih := cut_len t
      refine ⟨by simp only [List.length_cons]; omega, fun _ => ?_⟩
      by_cases ht : t = []
      · subst ht; rw [cut_nil]; simp
      · have := ih.2 ht; simp only [List.length_cons]; omega
theorem lines_len : ∀ (l cur : List UInt8), (linesF cur l).length ≤ cur.length + l.length
  | [], cur => by
    rw [linesF]; split
    · simp
    · rename_i h
      have := List.length_pos_iff.2 h
      simp only [List.length_cons, List.length_nil]; omega
  | c :: t, cur => by
    rw [linesF]; split
    · have := lines_len t []
      simp only [List.length_cons, List.length_nil] at this ⊢; omega
    · have := lines_len t (cur ++ [c])
      simp only [List.length_append, List.length_cons, List.length_nil] at this ⊢; omega
def ofO85 : O85_0 → ByteArray
  | .x0 z => z
  | .x1 z => z
theorem addOk_mapB (acc : List (List UInt8)) (x : List UInt8) (h : (acc.length + 1) * 16 ≤ maxBytes) : addOk (acc.map encB).length (acc.map encB) [encB x] 1 16 := addOk_map encB 1 16 (fun _ => rfl) acc x h
theorem addOk_mapN (acc : List Nat) (x : Nat) (h : (acc.length + 1) * 8 ≤ maxBytes) : addOk (acc.map encN64).length (acc.map encN64) [encN64 x] 1 8 := addOk_map encN64 1 8 (fun _ => rfl) acc x h
theorem W33_step (a : List Nat) (b : List (List UInt8)) (k7 k8 v : Nat) (l : List UInt8) (ha : a.length ≤ 1048576) (hb : b.length ≤ 1048576) : W33_0 (σ := Unit) () [encN64 v, encB l] (.inl (a.map encN64, b.map encB, k7, k8), ()) = some (true, (.inl ((a ++ [v]).map encN64, (b ++ [l]).map encB, k7, k8), ())) := by
  show ask (addOk (a.map encN64).length (a.map encN64) [encN64 v] 1 8) (ask (addOk (b.map encB).length (b.map encB) [encB l] 1 16) (ask (([k7, k8, ((a.map encN64).length + ([encN64 v] : List D).length), ((b.map encB).length + ([encB l] : List D).length)] : List Nat) = [k7, k8, (a.map encN64 ++ [encN64 v]).length, (b.map encB ++ [encB l]).length]) (some (true, (Sum.inl (a.map encN64 ++ [encN64 v], b.map encB ++ [encB l], k7, k8), ()))))) = _
  rw [ask_of (addOk_mapN a v (by unfold maxBytes; omega)), ask_of (addOk_mapB b l (by unfold maxBytes; omega)), ask_of (by simp), map_snoc, map_snoc]
theorem L85_step {σ : Type} (Y : Yd σ) (v1 : ByteArray) (v2 : Int) (v3 : ByteArray) (n : Nat) (st : σ) : L85_0 Y (n + 1) (v1, v2, v3) st = (bif (!(sEq v1 (⟨#[]⟩ : ByteArray))) then ((n86 (v1, (⟨#[10]⟩ : ByteArray))).bind fun y4 => ((Y [.val (.int .i64 v2), .val (.string y4.1)] st).bind fun q5 => (bif (!q5.1) then (some (O85_0.x0 v3, q5.2)) else (L85_0 Y n (y4.2.1, (w64 (v2 + 1)), v3) q5.2)))) else (some (O85_0.x1 v3, st))) := rfl
theorem n86_cut {l : List UInt8} (h : l.length ≤ 1048576) : n86 ((⟨l.toArray⟩ : ByteArray), (⟨#[10]⟩ : ByteArray)) = some ((⟨(Lib.cut l [10]).1.toArray⟩ : ByteArray), (⟨(Lib.cut l [10]).2.1.toArray⟩ : ByteArray), (Lib.cut l [10]).2.2) := by
  show ask ((⟨l.toArray⟩ : ByteArray).size < 4294967281) (some ((⟨(Lib.cut (⟨l.toArray⟩ : ByteArray).data.toList [10]).1.toArray⟩ : ByteArray), (⟨(Lib.cut (⟨l.toArray⟩ : ByteArray).data.toList [10]).2.1.toArray⟩ : ByteArray), (Lib.cut (⟨l.toArray⟩ : ByteArray).data.toList [10]).2.2)) = _
  rw [toList_mk, ask_of (by rw [size_mk]; omega)]
theorem L85 (s : ByteArray) (k7 k8 : Nat) : ∀ (d n v : Nat) (l : List UInt8) (a : List Nat) (b : List (List UInt8)), l.length ≤ d → d < n → a.length + l.length ≤ 1048576 → b.length + l.length ≤ 1048576 → v + l.length ≤ 1048577 →
    ∃ o, ofO85 o = s ∧ L85_0 (W33_0 (σ := Unit) ()) n (⟨l.toArray⟩, (v : Int), s) (.inl (a.map encN64, b.map encB, k7, k8), ()) = some (o, (.inl ((a ++ List.range' v (linesF [] l).length).map encN64, (b ++ linesF [] l).map encB, k7, k8), ())) := by
  intro d
  induction d with
  | zero =>
    intro n v l a b hd hn ha hb hv
    obtain ⟨m, rfl⟩ : ∃ m, n = m + 1 := ⟨n - 1, by omega⟩
    obtain rfl := List.length_eq_zero_iff.1 (Nat.le_zero.1 hd)
    rw [L85_step, show sEq (⟨([] : List UInt8).toArray⟩ : ByteArray) (⟨#[]⟩ : ByteArray) = true from (sEq_iff _ _).2 rfl, Bool.not_true, cond_false]
    refine ⟨O85_0.x1 s, rfl, ?_⟩
    simp [linesF]
  | succ d ih =>
    intro n v l a b hd hn ha hb hv
    obtain ⟨m, rfl⟩ : ∃ m, n = m + 1 := ⟨n - 1, by omega⟩
    by_cases h : l = []
    · subst h
      rw [L85_step, show sEq (⟨([] : List UInt8).toArray⟩ : ByteArray) (⟨#[]⟩ : ByteArray) = true from (sEq_iff _ _).2 rfl, Bool.not_true, cond_false]
      refine ⟨O85_0.x1 s, rfl, ?_⟩
      simp [linesF]
    · have hne : sEq (⟨l.toArray⟩ : ByteArray) (⟨#[]⟩ : ByteArray) = false := by
        rw [Bool.eq_false_iff]
        intro hh
        have := congrArg ByteArray.size ((sEq_iff _ _).1 hh)
        rw [size_mk] at this
        exact h (List.length_eq_zero_iff.1 this)
      have hpos := List.length_pos_iff.2 h
      have hc := cut_len l
      have hc2 := hc.2 h
      have e1 : w64 ((v : Int) + 1) = ((v + 1 : Nat) : Int) := by rw [w64_id (by omega) (by omega)]; omega
      rw [L85_step, hne, Bool.not_false, cond_true, n86_cut (by omega), Option.bind_some]
      have hW := W33_step a b k7 k8 v (Lib.cut l [10]).1 (by omega) (by omega)
      show ∃ o, ofO85 o = s ∧ ((W33_0 (σ := Unit) () [encN64 v, encB (Lib.cut l [10]).1] (.inl (a.map encN64, b.map encB, k7, k8), ())).bind fun q5 => (bif (!q5.1) then (some (O85_0.x0 s, q5.2)) else (L85_0 (W33_0 ()) m (⟨(Lib.cut l [10]).2.1.toArray⟩, (w64 ((v : Int) + 1)), s) q5.2))) = _
      rw [hW, Option.bind_some, e1]
      obtain ⟨o, ho, e⟩ := ih m (v + 1) (Lib.cut l [10]).2.1 (a ++ [v]) (b ++ [(Lib.cut l [10]).1]) (by omega) (by omega) (by simp; omega) (by simp; omega) (by omega)
      refine ⟨o, ho, ?_⟩
      rw [lines_cut l [] (.inr h)]
      show L85_0 (W33_0 ()) m (⟨(Lib.cut l [10]).2.1.toArray⟩, ((v + 1 : Nat) : Int), s) (.inl ((a ++ [v]).map encN64, (b ++ [(Lib.cut l [10]).1]).map encB, k7, k8), ()) = _
      rw [e, List.length_cons, List.range'_succ, List.append_assoc, List.append_assoc]
      rfl
abbrev bl (s : ByteArray) : List UInt8 := s.data.toList
theorem ba_mk (s : ByteArray) : (⟨(bl s).toArray⟩ : ByteArray) = s := by
  apply ByteArray.ext; simp
theorem n33_eq {s : ByteArray} (hs : s.size ≤ 1048576) : n33 s = some ((List.range' 1 (linesF [] (bl s)).length).map encN64, (linesF [] (bl s)).map encB) := by
  have hsz : s.size = (bl s).length := size_list s
  obtain ⟨o, ho, e⟩ := L85 s 0 0 s.size 1000000000000 1 (bl s) [] [] (by omega) (by omega) (by simp; omega) (by simp; omega) (by omega)
  rw [ba_mk] at e
  show (ask (([0, 0, 0, 0] : List Nat) = [0, 0, ([] : List D).length, ([] : List D).length]) (((((L85_0 (W33_0 ()) 1000000000000 (s, ((1 : Nat) : Int), s) (.inl (([] : List Nat).map encN64, ([] : List (List UInt8)).map encB, 0, 0), ())).bind fun p8 => match p8.1 with | .x0 z9 => (some (z9, p8.2)) | .x1 z10 => (some (z10, p8.2))))).bind fun p9 => match p9.2.1 with | .inl z10 => (some ((z10.1), (z10.2.1))) | .inr o11 => nomatch o11)) = _
  rw [ask_of (show ([0, 0, 0, 0] : List Nat) = [0, 0, ([] : List D).length, ([] : List D).length] from rfl), e]
  cases o <;> rfl
theorem L34_step (v2 : ByteArray) (v3 : List D) (v4 : Int) (k : Nat) (k6 : Nat) (n : Nat) : L34_0 (n + 1) (v2, v3, v4, (k : Int), k6) () = (bif (decide ((k : Int) < (v2.size : Int))) then ((sidx v2 (k : Int)).bind fun c7 => (bif ((c7.toNat : Int) == 10) then (ask (cutOk v4 (k : Int) v2.size) (ask (addOk v3.length v3 ([.val (.string (v2.extract (Int.toNat v4) (Int.toNat (k : Int))))] : List D) 1 16) (ask (([k6, (v3.length + ([.val (.string (v2.extract (Int.toNat v4) (Int.toNat (k : Int))))] : List D).length)] : List Nat) = [k6, (v3 ++ ([.val (.string (v2.extract (Int.toNat v4) (Int.toNat (k : Int))))] : List D)).length]) (L34_0 n (v2, (v3 ++ ([.val (.string (v2.extract (Int.toNat v4) (Int.toNat (k : Int))))] : List D)), (w64 ((k : Int) + 1)), (w64 ((k : Int) + 1)), k6) ())))) else (ask (([k6, v3.length] : List Nat) = [k6, v3.length]) (L34_0 n (v2, v3, v4, (w64 ((k : Int) + 1)), k6) ())))) else (ask (([k6, v3.length] : List Nat) = [k6, v3.length]) (some (O34_0.x0 v2 v3 v4 k6, ())))) := rfl
theorem L8_step (v4 : ByteArray) (v5 v6 v7 : List D) (v8 : ByteArray) (k : Nat) (n : Nat) : L8_0 (n + 1) (v4, v5, v6, v7, v8, (k : Int)) () = (bif (decide ((k : Int) < ((v6.length : Nat) : Int))) then ((lidx v5 (k : Int)).bind fun d10 => ask (d10.cells.length = 1) ((cellAt 0 d10).bind fun x11 => (asInt .i64 x11).bind fun x12 => (bif (x12 != (w64 ((k : Int) + 1))) then (some (O8_0.x0 false, ())) else ((lidx v6 (k : Int)).bind fun d14 => ask (d14.cells.length = 1) ((cellAt 0 d14).bind fun x15 => (asStr x15).bind fun x16 => ((lidx v7 (k : Int)).bind fun d17 => ask (d17.cells.length = 1) ((cellAt 0 d17).bind fun x18 => (asStr x18).bind fun x19 => (bif (!(sEq x16 x19)) then (some (O8_0.x0 false, ())) else ((lidx v6 (k : Int)).bind fun d20 => ask (d20.cells.length = 1) ((cellAt 0 d20).bind fun x21 => (asStr x21).bind fun x22 => (ask (catOk v8 x22) (ask (catOk (v8 ++ x22) (⟨#[10]⟩ : ByteArray)) (L8_0 n (v4, v5, v6, v7, ((v8 ++ x22) ++ (⟨#[10]⟩ : ByteArray)), (w64 ((k : Int) + 1))) ()))))))))))))) else (some (O8_0.x1 v4 v8, ()))) := rfl

theorem ext_list (s : ByteArray) (a b : Nat) : s.extract a b = (⟨(((bl s).take b).drop a).toArray⟩ : ByteArray) := by
  apply ByteArray.ext
  apply Array.toList_inj.1
  simp [List.drop_take]
theorem sidx_bl {s : ByteArray} {i : Nat} {c : UInt8} (h : (bl s)[i]? = some c) : sidx s (i : Int) = some c := by
  rw [sidx_nat, get_list]; exact h
theorem L34 {s : ByteArray} (hs : s.size ≤ 1048576) (k6 : Nat) : ∀ (d n i st : Nat) (acc : List (List UInt8)), s.size - i ≤ d → d < n → st ≤ i → i ≤ s.size → acc.length ≤ i →
    ∃ (acc' : List (List UInt8)) (st' : Nat), L34_0 n (s, acc.map encB, (st : Int), (i : Int), k6) () = some (O34_0.x0 s (acc'.map encB) (st' : Int) k6, ()) ∧ acc'.length ≤ s.size ∧ (if st' < s.size then acc' ++ [((bl s).take s.size).drop st'] else acc') = acc ++ linesF (((bl s).take i).drop st) ((bl s).drop i) := by
  have hsz : s.size = (bl s).length := size_list s
  have done : ∀ (m i st : Nat) (acc : List (List UInt8)), st ≤ i → i = s.size → acc.length ≤ i → ∃ (acc' : List (List UInt8)) (st' : Nat), L34_0 (m + 1) (s, acc.map encB, (st : Int), (i : Int), k6) () = some (O34_0.x0 s (acc'.map encB) (st' : Int) k6, ()) ∧ acc'.length ≤ s.size ∧ (if st' < s.size then acc' ++ [((bl s).take s.size).drop st'] else acc') = acc ++ linesF (((bl s).take i).drop st) ((bl s).drop i) := by
    intro m i st acc h1 h2 h3
    refine ⟨acc, st, ?_, by omega, ?_⟩
    · rw [L34_step, decide_eq_false (by omega), cond_false, ask_of rfl]
    · rw [List.drop_eq_nil_of_le (show (bl s).length ≤ i by omega), linesF, h2]
      by_cases hh : st < s.size
      · rw [if_pos hh, if_neg]
        intro e
        have := congrArg List.length e
        simp at this
        omega
      · rw [if_neg hh, if_pos, List.append_nil]
        exact List.drop_eq_nil_of_le (by simp; omega)
  intro d
  induction d with
  | zero =>
    intro n i st acc hd hn h1 h2 h3
    obtain ⟨m, rfl⟩ : ∃ m, n = m + 1 := ⟨n - 1, by omega⟩
    exact done m i st acc h1 (by omega) h3
  | succ d ih =>
    intro n i st acc hd hn h1 h2 h3
    obtain ⟨m, rfl⟩ : ∃ m, n = m + 1 := ⟨n - 1, by omega⟩
    by_cases h : i < s.size
    · have hi : i < (bl s).length := by omega
      have e0 : w64 ((i : Int) + 1) = ((i + 1 : Nat) : Int) := by rw [w64_id (by omega) (by omega)]; omega
      rw [L34_step, decide_eq_true (by omega), cond_true, sidx_bl (List.getElem?_eq_getElem hi), Option.bind_some, e0, List.drop_eq_getElem_cons hi, linesF]
      by_cases h10 : (bl s)[i] = 10
      · rw [show (((bl s)[i].toNat : Int) == 10) = true from beq_iff_eq.2 (by rw [h10]; rfl), cond_true, if_pos h10, ask_of (show cutOk (st : Int) (i : Int) s.size from ⟨by omega, by omega, by omega⟩), Int.toNat_natCast, Int.toNat_natCast, ext_list]
        show ∃ (acc' : List (List UInt8)) (st' : Nat), (ask (addOk (acc.map encB).length (acc.map encB) [encB (((bl s).take i).drop st)] 1 16) (ask (([k6, ((acc.map encB).length + ([encB (((bl s).take i).drop st)] : List D).length)] : List Nat) = [k6, (acc.map encB ++ [encB (((bl s).take i).drop st)]).length]) (L34_0 m (s, acc.map encB ++ [encB (((bl s).take i).drop st)], ((i + 1 : Nat) : Int), ((i + 1 : Nat) : Int), k6) ()))) = _ ∧ _
        rw [ask_of (addOk_mapB acc _ (by unfold maxBytes; omega)), ask_of (toks_one encB acc _ k6), map_snoc]
        obtain ⟨acc', st', q1, q2, q3⟩ := ih m (i + 1) (i + 1) (acc ++ [((bl s).take i).drop st]) (by omega) (by omega) (by omega) (by omega) (by simp; omega)
        refine ⟨acc', st', q1, q2, ?_⟩
        rw [q3, List.append_assoc, List.drop_eq_nil_of_le (show ((bl s).take (i + 1)).length ≤ i + 1 by simp; omega)]
        rfl
      · have hb : (((bl s)[i].toNat : Int) == 10) = false := by
          rw [beq_eq_false_iff_ne]
          intro e
          apply h10
          apply UInt8.toNat_inj.1
          show (bl s)[i].toNat = 10
          omega
        rw [hb, cond_false, if_neg h10, ask_of rfl]
        obtain ⟨acc', st', q1, q2, q3⟩ := ih m (i + 1) st acc (by omega) (by omega) (by omega) (by omega) (by omega)
        refine ⟨acc', st', q1, q2, ?_⟩
        rw [q3, List.take_succ_eq_append_getElem hi, List.drop_append_of_le_length (by simp; omega)]
    · exact done m i st acc h1 (by omega) h3
theorem n34_eq {s : ByteArray} (hs : s.size ≤ 1048576) : n34 s = some ((linesF [] (bl s)).map encB) := by
  obtain ⟨acc', st', q1, q2, q3⟩ := L34 hs 0 s.size 1000000000000 0 0 [] (by omega) (by omega) (by omega) (by omega) (by simp)
  have q3' : (if st' < s.size then acc' ++ [((bl s).take s.size).drop st'] else acc') = linesF [] (bl s) := by rw [q3]; simp
  show (ask (([0, 0] : List Nat) = [0, ([] : List D).length]) ((L34_0 1000000000000 (s, ([] : List (List UInt8)).map encB, ((0 : Nat) : Int), ((0 : Nat) : Int), 0) ()).bind fun p12 => match p12.1 with | .x0 z13 z14 z15 z16 => (bif (decide (z15 < (z13.size : Int))) then (ask (cutOk z15 (z13.size : Int) z13.size) (ask (addOk z14.length z14 ([.val (.string (z13.extract (Int.toNat z15) (Int.toNat (z13.size : Int))))] : List D) 1 16) (some (z14 ++ ([.val (.string (z13.extract (Int.toNat z15) (Int.toNat (z13.size : Int))))] : List D))))) else (some z14)))) = _
  rw [ask_of (show ([0, 0] : List Nat) = [0, ([] : List D).length] from rfl), q1, ← q3']
  by_cases h : st' < s.size
  · rw [if_pos h]
    show (bif (decide ((st' : Int) < (s.size : Int))) then (ask (cutOk (st' : Int) (s.size : Int) s.size) (ask (addOk (acc'.map encB).length (acc'.map encB) ([.val (.string (s.extract (Int.toNat (st' : Int)) (Int.toNat (s.size : Int))))] : List D) 1 16) (some (acc'.map encB ++ ([.val (.string (s.extract (Int.toNat (st' : Int)) (Int.toNat (s.size : Int))))] : List D))))) else (some (acc'.map encB))) = _
    rw [decide_eq_true (by omega), cond_true, ask_of (show cutOk (st' : Int) (s.size : Int) s.size from ⟨by omega, by omega, by omega⟩), Int.toNat_natCast, Int.toNat_natCast, ext_list]
    show (ask (addOk (acc'.map encB).length (acc'.map encB) [encB (((bl s).take s.size).drop st')] 1 16) (some (acc'.map encB ++ [encB (((bl s).take s.size).drop st')]))) = _
    rw [ask_of (addOk_mapB acc' _ (by unfold maxBytes; omega)), map_snoc]
  · rw [if_neg h]
    show (bif (decide ((st' : Int) < (s.size : Int))) then _ else (some (acc'.map encB))) = _
    rw [decide_eq_false (by omega), cond_false]
/-! the law -/
def joinL : List (List UInt8) → List UInt8
  | [] => []
  | x :: t => x ++ [10] ++ joinL t
def finL (l : List UInt8) : List UInt8 := if l = [] ∨ l.getLast? = some 10 then l else l ++ [10]
theorem join_lines : ∀ (l cur : List UInt8), (10 : UInt8) ∉ cur → joinL (linesF cur l) = finL (cur ++ l)
  | [], cur, h => by
    rw [linesF, List.append_nil, finL]
    by_cases hc : cur = []
    · rw [if_pos hc, if_pos (.inl hc), hc]; rfl
    · rw [if_neg hc, if_neg]
      · simp [joinL]
      · rintro (q | q)
        · exact hc q
        · exact h (List.mem_of_getLast? q)
  | c :: t, cur, h => by
    rw [linesF]
    by_cases hc : c = 10
    · subst hc
      rw [if_pos rfl, joinL, join_lines t [] (by simp), List.nil_append, finL, finL]
      by_cases ht : t = []
      · subst ht
        rw [if_pos (.inl rfl), if_pos (.inr (by simp))]; simp
      · have hg : (cur ++ 10 :: t).getLast? = t.getLast? := by
          rw [List.getLast?_append, List.getLast?_cons]
          cases hq : t.getLast? with
          | none => exact absurd (List.getLast?_eq_none_iff.1 hq) ht
          | some x => rfl
        rw [hg]
        by_cases hq : t.getLast? = some 10
        · rw [if_pos (.inr hq), if_pos (.inr hq)]; simp
        · rw [if_neg (by rintro (q | q); exact ht q; exact hq q), if_neg (by rintro (q | q); simp at q; exact hq q)]; simp
    · rw [if_neg hc, join_lines t (cur ++ [c]) (by simp; exact ⟨h, fun e => hc e.symm⟩), List.append_assoc]
      rfl
theorem fin_len (l : List UInt8) : (finL l).length ≤ l.length + 1 := by
  unfold finL; split <;> simp
theorem cellB (x : List UInt8) : cellAt 0 (encB x) = some (.val (.string ⟨x.toArray⟩)) := rfl
theorem cellN (x : Nat) : cellAt 0 (encN64 x) = some (.val (.int .i64 (x : Int))) := rfl
theorem asS (x : ByteArray) : asStr (.val (.string x)) = some x := rfl
theorem lenB (x : List UInt8) : (encB x).cells.length = 1 := rfl
theorem lenN (x : Nat) : (encN64 x).cells.length = 1 := rfl
theorem mk_app (a b : List UInt8) : (⟨a.toArray⟩ : ByteArray) ++ (⟨b.toArray⟩ : ByteArray) = (⟨(a ++ b).toArray⟩ : ByteArray) := by
  apply ByteArray.ext; simp
theorem L8 {s : ByteArray} (ls : List (List UInt8)) (hl : ls.length ≤ 1048576) : ∀ (d n k : Nat) (j : List UInt8), ls.length - k ≤ d → d < n → k ≤ ls.length → j.length + (joinL (ls.drop k)).length ≤ 1048577 →
    L8_0 n (s, (List.range' 1 ls.length).map encN64, ls.map encB, ls.map encB, (⟨j.toArray⟩ : ByteArray), (k : Int)) () = some (O8_0.x1 s (⟨(j ++ joinL (ls.drop k)).toArray⟩ : ByteArray), ()) := by
  intro d
  induction d with
  | zero =>
    intro n k j hd hn hk hj
    obtain ⟨m, rfl⟩ : ∃ m, n = m + 1 := ⟨n - 1, by omega⟩
    rw [L8_step, List.length_map, decide_eq_false (by omega), cond_false, List.drop_eq_nil_of_le (by omega), joinL, List.append_nil]
  | succ d ih =>
    intro n k j hd hn hk hj
    obtain ⟨m, rfl⟩ : ∃ m, n = m + 1 := ⟨n - 1, by omega⟩
    by_cases h : k < ls.length
    · have e0 : w64 ((k : Int) + 1) = ((k + 1 : Nat) : Int) := by rw [w64_id (by omega) (by omega)]; omega
      have hr : (List.range' 1 ls.length)[k]? = some (k + 1) := by
        rw [List.getElem?_range' h]; congr 1; omega
      rw [List.drop_eq_getElem_cons h, joinL] at hj
      simp only [List.length_append, List.length_cons, List.length_nil] at hj
      rw [L8_step, List.length_map, decide_eq_true (by omega), cond_true, lidx_map, lidx_map, hr, List.getElem?_eq_getElem h, e0]
      simp only [Option.map_some, Option.bind_some, ask_of (lenN _), ask_of (lenB _), cellN, cellB, asI64, asS, bne_self_eq_false, cond_false, (sEq_iff _ _).2 rfl, Bool.not_true]
      rw [ask_of (catOk_of (by rw [size_mk, size_mk]; omega)), mk_app, ask_of (catOk_of (by rw [size_mk, List.length_append]; show j.length + (ls[k]).length + 1 ≤ _; omega))]
      rw [show (⟨#[10]⟩ : ByteArray) = (⟨[(10 : UInt8)].toArray⟩ : ByteArray) from rfl, mk_app]
      rw [ih m (k + 1) (j ++ ls[k] ++ [10]) (by omega) (by omega) (by omega) (by simp only [List.length_append, List.length_cons, List.length_nil]; omega), List.drop_eq_getElem_cons h, joinL]
      simp only [List.append_assoc]
    · rw [L8_step, List.length_map, decide_eq_false (by omega), cond_false, List.drop_eq_nil_of_le (by omega), joinL, List.append_nil]
theorem plain8 (a0 : ByteArray) (h : a0.size ≤ 1048576) : n8 a0 = some true := by
  have hsz : a0.size = (bl a0).length := size_list a0
  have hll := lines_len (bl a0) []
  have hfl := fin_len (bl a0)
  have hj : joinL (linesF [] (bl a0)) = finL (bl a0) := join_lines (bl a0) [] (by simp)
  simp only [List.length_nil] at hll
  have hL := L8 (s := a0) (linesF [] (bl a0)) (by omega) (linesF [] (bl a0)).length 1000000000000 0 [] (by omega) (by omega) (by omega) (by rw [List.drop_zero, hj]; simp only [List.length_nil]; omega)
  rw [List.drop_zero, hj, List.nil_append] at hL
  show ((n33 a0).bind fun y2 => ((n34 a0).bind fun y3 => (bif (((y2.2.length : Nat) : Int) != ((y3.length : Nat) : Int)) then (some false) else ((L8_0 1000000000000 (a0, y2.1, y2.2, y3, (⟨([] : List UInt8).toArray⟩ : ByteArray), ((0 : Nat) : Int)) ()).bind fun p25 => match p25.1 with | .x0 z26 => (some z26) | .x1 z27 z28 => (bif (!(sEq z27 (⟨#[]⟩ : ByteArray))) then ((sidx z27 (w64 ((z27.size : Int) - 1))).bind fun c29 => (bif ((c29.toNat : Int) != 10) then (ask (catOk z27 (⟨#[10]⟩ : ByteArray)) (bif (sEq z28 (z27 ++ (⟨#[10]⟩ : ByteArray))) then ((n32 ()).bind fun y30 => (some y30)) else (some false))) else (bif (sEq z28 z27) then ((n32 ()).bind fun y31 => (some y31)) else (some false)))) else (bif (sEq z28 z27) then ((n32 ()).bind fun y32 => (some y32)) else (some false))))))) = _
  rw [n33_eq h, Option.bind_some, n34_eq h, Option.bind_some]
  simp only [bne_self_eq_false, cond_false]
  rw [hL, Option.bind_some]
  show (bif (!(sEq a0 (⟨#[]⟩ : ByteArray))) then ((sidx a0 (w64 ((a0.size : Int) - 1))).bind fun c29 => (bif ((c29.toNat : Int) != 10) then (ask (catOk a0 (⟨#[10]⟩ : ByteArray)) (bif (sEq (⟨(finL (bl a0)).toArray⟩ : ByteArray) (a0 ++ (⟨#[10]⟩ : ByteArray))) then ((n32 ()).bind fun y30 => (some y30)) else (some false))) else (bif (sEq (⟨(finL (bl a0)).toArray⟩ : ByteArray) a0) then ((n32 ()).bind fun y31 => (some y31)) else (some false)))) else (bif (sEq (⟨(finL (bl a0)).toArray⟩ : ByteArray) a0) then ((n32 ()).bind fun y32 => (some y32)) else (some false))) = _
  rw [alive_true]
  by_cases hz : bl a0 = []
  · have e : a0 = (⟨#[]⟩ : ByteArray) := by rw [← ba_mk a0, hz]
    have e2 : sEq a0 (⟨#[]⟩ : ByteArray) = true := (sEq_iff _ _).2 e
    have e3 : sEq (⟨(finL (bl a0)).toArray⟩ : ByteArray) a0 = true := (sEq_iff _ _).2 (by unfold finL; rw [if_pos (.inl hz), ba_mk])
    rw [e2, e3]; rfl
  · have hpos := List.length_pos_iff.2 hz
    have e2 : sEq a0 (⟨#[]⟩ : ByteArray) = false := by
      rw [Bool.eq_false_iff]; intro hh
      have := congrArg ByteArray.size ((sEq_iff _ _).1 hh)
      rw [hsz] at this
      exact absurd this (by show ¬ (bl a0).length = 0; omega)
    have ew : w64 ((a0.size : Int) - 1) = (((bl a0).length - 1 : Nat) : Int) := by rw [w64_id (by omega) (by omega)]; omega
    have hlast : (bl a0)[(bl a0).length - 1]? = (bl a0).getLast? := List.getLast?_eq_getElem?.symm
    obtain ⟨c, hc⟩ : ∃ c, (bl a0).getLast? = some c := by
      cases hq : (bl a0).getLast? with
      | none => exact absurd (List.getLast?_eq_none_iff.1 hq) hz
      | some x => exact ⟨x, rfl⟩
    rw [e2, Bool.not_false, cond_true, ew, sidx_bl (hlast.trans hc), Option.bind_some]
    by_cases h10 : c = 10
    · subst h10
      have e3 : sEq (⟨(finL (bl a0)).toArray⟩ : ByteArray) a0 = true := (sEq_iff _ _).2 (by unfold finL; rw [if_pos (.inr hc), ba_mk])
      rw [e3]; rfl
    · have hb : ((c.toNat : Int) != 10) = true := by
        rw [bne_iff_ne]
        intro e
        apply h10
        apply UInt8.toNat_inj.1
        show c.toNat = 10
        omega
      have e3 : sEq (⟨(finL (bl a0)).toArray⟩ : ByteArray) (a0 ++ (⟨#[10]⟩ : ByteArray)) = true := (sEq_iff _ _).2 (by
        unfold finL
        rw [if_neg (by rintro (q | q); exact hz q; rw [hc] at q; exact h10 (Option.some.inj q)), ← mk_app, ba_mk])
      rw [hb, cond_true, ask_of (catOk_of (by show a0.size + 1 ≤ _; omega)), e3]; rfl
end Ev
