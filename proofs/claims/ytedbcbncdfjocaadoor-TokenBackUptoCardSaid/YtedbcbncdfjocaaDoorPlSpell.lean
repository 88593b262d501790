/- What functions of the program compute, as plain Lean functions, each with its proof by the reader (PlSpell); printed by a tool of this work. -/
import Derived.Test.YtedbcbncdfjocaaDoorPlScan
set_option linter.unusedSimpArgs false
set_option linter.unusedVariables false
namespace Ev
open Go
def pTail (x : ByteArray) (k v : Int) (t : ByteArray) (y : List D × Int × Int × Int × Int) : Option (ByteArray × Int) := (bif (bif (y.2.1 != 0) then true else (decide (((y.1.length : Nat) : Int) > 2))) then (some ((⟨#[]⟩ : ByteArray), 2)) else ((lidx y.1 0).bind fun d52 => ask (d52.cells.length = 6) ((cellAt 0 d52).bind fun x53 => (asInt .i64 x53).bind fun x54 => ((cellAt 1 d52).bind fun x55 => (asInt .i64 x55).bind fun x56 => ((cellAt 2 d52).bind fun x57 => (asInt .i64 x57).bind fun x58 => ((cellAt 3 d52).bind fun x59 => (asInt .i64 x59).bind fun x60 => ((cellAt 4 d52).bind fun x61 => (asStr x61).bind fun x62 => ((cellAt 5 d52).bind fun x63 => (asInt .i64 x63).bind fun x64 => (bif (!((x54 == k) && (((0 == 0) && ((0 == 0) && ((0 == 0) && true))) && ((sEq x62 t) && ((x64 == v) && true))))) then (some ((⟨#[]⟩ : ByteArray), 2)) else (bif (!(sEq x (⟨#[]⟩ : ByteArray))) then (bif (((y.1.length : Nat) : Int) != 2) then (some ((⟨#[]⟩ : ByteArray), 2)) else (some (x, 0))) else (some (x, 0))))))))))))
def rTail (x : ByteArray) (k v : Int) (t : ByteArray) (y : List D × Int × Int × Int × Int) : Option (ByteArray × Int) := ask (rowOk 6 y.1 = true) (match y.1 with | [] => (bif (bif (y.2.1 != 0) then true else (decide (((([] : List D).length : Nat) : Int) > 2))) then (some ((⟨#[]⟩ : ByteArray), 2)) else ((lidx ([] : List D) 0).bind fun d64 => ask (d64.cells.length = 6) none)) | e65 :: r66 => (bif (bif (y.2.1 != 0) then true else (decide (((((e65 :: r66).length) : Nat) : Int) > 2))) then (some ((⟨#[]⟩ : ByteArray), 2)) else (ask (rowIn 0 ((e65 :: r66).length)) ((((e65 :: r66))[(Int.toNat 0)]?).bind fun d67 => ask (d67.cells.length = 6) (ask (rowIn 0 ((e65 :: r66).length)) ((((List.set (e65 :: r66) (Int.toNat 0) (D.put d67 1 ([.val (.int .i64 0), .val (.int .i64 0), .val (.int .i64 0)] : List D))))[(Int.toNat 0)]?).bind fun d68 => ask (d68.cells.length = 6) ((cellAt 0 d68).bind fun x69 => (asInt .i64 x69).bind fun x70 => ((cellAt 1 d68).bind fun x71 => (asInt .i64 x71).bind fun x72 => ((cellAt 2 d68).bind fun x73 => (asInt .i64 x73).bind fun x74 => ((cellAt 3 d68).bind fun x75 => (asInt .i64 x75).bind fun x76 => ((cellAt 4 d68).bind fun x77 => (asStr x77).bind fun x78 => ((cellAt 5 d68).bind fun x79 => (asInt .i64 x79).bind fun x80 => (bif (!((x70 == k) && (((x72 == 0) && ((x74 == 0) && ((x76 == 0) && true))) && ((sEq x78 t) && ((x80 == v) && true))))) then (some ((⟨#[]⟩ : ByteArray), 2)) else (some (x, 0)))))))))))))))
theorem L24_step (v3 v4 v5 : List D) (v6 : Int) (k : Nat) (n : Nat) : L24_0 (n + 1) (v3, v4, v5, v6, (k : Int)) () = (bif (decide ((k : Int) < v6)) then ((lidx v5 (k : Int)).bind fun d8 => ask (d8.cells.length = 6) ((cellAt 0 d8).bind fun x9 => (asInt .i64 x9).bind fun x10 => ((cellAt 1 d8).bind fun x11 => (asInt .i64 x11).bind fun x12 => ((cellAt 2 d8).bind fun x13 => (asInt .i64 x13).bind fun x14 => ((cellAt 3 d8).bind fun x15 => (asInt .i64 x15).bind fun x16 => ((cellAt 4 d8).bind fun x17 => (asStr x17).bind fun x18 => ((cellAt 5 d8).bind fun x19 => (asInt .i64 x19).bind fun x20 => ((n22 (x10, x12, x14, x16, x18, x20)).bind fun y21 => (bif (y21.2 != 0) then (ask (([v4.length] : List Nat) = [v4.length]) (some (O24_0.x0 (⟨#[]⟩ : ByteArray) 2 v4.length, ()))) else (bif (x10 == 0) then (bif (decide ((k : Int) < (w64 (((v3.length : Nat) : Int) - 1)))) then (ask (([v4.length] : List Nat) = [v4.length]) (some (O24_0.x0 (⟨#[]⟩ : ByteArray) 2 v4.length, ()))) else (ask (addOk v4.length v4 ([.val (.string y21.1)] : List D) 1 16) (ask (([(v4.length + ([.val (.string y21.1)] : List D).length)] : List Nat) = [(v4 ++ ([.val (.string y21.1)] : List D)).length]) (L24_0 n (v3, (v4 ++ ([.val (.string y21.1)] : List D)), v5, v6, (w64 ((k : Int) + 1))) ())))) else (ask (addOk v4.length v4 ([.val (.string y21.1)] : List D) 1 16) (ask (([(v4.length + ([.val (.string y21.1)] : List D).length)] : List Nat) = [(v4 ++ ([.val (.string y21.1)] : List D)).length]) (L24_0 n (v3, (v4 ++ ([.val (.string y21.1)] : List D)), v5, v6, (w64 ((k : Int) + 1))) ()))))))))))))) else (ask (([v4.length] : List Nat) = [v4.length]) (some (O24_0.x1 v4, ())))) := rfl
theorem L25_step (v3 : List D) (v4 : ByteArray) (k : Nat) (n : Nat) : L25_0 (n + 1) (v3, v4, (k : Int)) () = (bif (decide ((k : Int) < ((v3.length : Nat) : Int))) then ((lidx v3 (k : Int)).bind fun d6 => ask (d6.cells.length = 6) ((cellAt 0 d6).bind fun x7 => (asInt .i64 x7).bind fun x8 => ((cellAt 1 d6).bind fun x9 => (asInt .i64 x9).bind fun x10 => ((cellAt 2 d6).bind fun x11 => (asInt .i64 x11).bind fun x12 => ((cellAt 3 d6).bind fun x13 => (asInt .i64 x13).bind fun x14 => ((cellAt 4 d6).bind fun x15 => (asStr x15).bind fun x16 => ((cellAt 5 d6).bind fun x17 => (asInt .i64 x17).bind fun x18 => ((n23 (x8, x10, x12, x14, x16, x18)).bind fun y19 => (bif (y19.2 != 0) then (some (O25_0.x0 (⟨#[]⟩ : ByteArray) 2, ())) else ((lidx v3 (k : Int)).bind fun d22 => ask (d22.cells.length = 6) ((cellAt 0 d22).bind fun x23 => (asInt .i64 x23).bind fun x24 => (bif (x24 == 0) then (bif (decide ((w64 ((k : Int) + 1)) < ((v3.length : Nat) : Int))) then (some (O25_0.x0 (⟨#[]⟩ : ByteArray) 2, ())) else (bif (decide ((k : Int) > 0)) then (ask (catOk v4 (⟨#[32]⟩ : ByteArray)) (ask (catOk (v4 ++ (⟨#[32]⟩ : ByteArray)) y19.1) (L25_0 n (v3, ((v4 ++ (⟨#[32]⟩ : ByteArray)) ++ y19.1), (w64 ((k : Int) + 1))) ()))) else (ask (catOk v4 y19.1) (L25_0 n (v3, (v4 ++ y19.1), (w64 ((k : Int) + 1))) ())))) else (bif (decide ((k : Int) > 0)) then (ask (catOk v4 (⟨#[32]⟩ : ByteArray)) (ask (catOk (v4 ++ (⟨#[32]⟩ : ByteArray)) y19.1) (L25_0 n (v3, ((v4 ++ (⟨#[32]⟩ : ByteArray)) ++ y19.1), (w64 ((k : Int) + 1))) ()))) else (ask (catOk v4 y19.1) (L25_0 n (v3, (v4 ++ y19.1), (w64 ((k : Int) + 1))) ()))))))))))))))) else (some (O25_0.x1 v4, ()))) := rfl
def spS (k : Int) (t : ByteArray) (v : Int) : ByteArray := bif (k == 1) then t else (bif (k == 4) then t else (bif (k == 3) then ((⟨#[35]⟩ : ByteArray) ++ t) else (bif (k == 2) then (⟨(Lib.itoa v).toArray⟩ : ByteArray) else (⟨#[]⟩ : ByteArray))))
theorem itoa_len {v : Int} (hv : i64 v) : (Lib.itoa v).length ≤ 20 := by
  unfold Lib.itoa
  have h1 := hv.1
  have h2 := hv.2
  split
  · have := dec_len (u := v.natAbs) (by omega)
    simp only [List.length_cons]; omega
  · have := dec_len (u := v.toNat) (by omega)
    omega
theorem spS_size {k : Int} {t : ByteArray} {v : Int} (hv : i64 v) : (spS k t v).size ≤ t.size + 20 := by
  unfold spS
  cases (k == 1) with
  | true => rw [cond_true]; omega
  | false =>
    rw [cond_false]
    cases (k == 4) with
    | true => rw [cond_true]; omega
    | false =>
      rw [cond_false]
      cases (k == 3) with
      | true => rw [cond_true, app_size, show (⟨#[35]⟩ : ByteArray).size = 1 from rfl]; omega
      | false =>
        rw [cond_false]
        cases (k == 2) with
        | true => rw [cond_true, size_mk]; have := itoa_len hv; omega
        | false => rw [cond_false]; exact Nat.zero_le _
theorem n22_eq (k a1 a2 a3 : Int) {t : ByteArray} {v : Int} (ht : t.size ≤ 67000000) (hv : i64 v) : n22 (k, a1, a2, a3, t, v) = (n18 (spS k t v)).bind (pTail (spS k t v) k v t) := by
  show (bif (k == 1) then ((n18 t).bind (pTail t k v t)) else (bif (k == 4) then ((n18 t).bind (pTail t k v t)) else (bif (k == 3) then (ask (catOk (⟨#[35]⟩ : ByteArray) t) ((n18 ((⟨#[35]⟩ : ByteArray) ++ t)).bind (pTail ((⟨#[35]⟩ : ByteArray) ++ t) k v t))) else (bif (k == 2) then ((n44 v).bind fun y50 => (n18 y50).bind (pTail y50 k v t)) else ((n18 (⟨#[]⟩ : ByteArray)).bind (pTail (⟨#[]⟩ : ByteArray) k v t)))))) = _
  unfold spS
  cases (k == 1) with
  | true => rfl
  | false =>
    cases (k == 4) with
    | true => rfl
    | false =>
      cases (k == 3) with
      | true => exact ask_of (catOk_of (by show 1 + t.size ≤ _; omega))
      | false =>
        cases (k == 2) with
        | true => rw [decimal_prog hv.1 hv.2]; rfl
        | false => rfl
theorem n23_eq (k a1 a2 a3 : Int) {t : ByteArray} {v : Int} (ht : t.size ≤ 67000000) (hv : i64 v) : n23 (k, a1, a2, a3, t, v) = (nT19 (spS k t v)).bind (rTail (spS k t v) k v t) := by
  show (bif (k == 1) then ((nT19 t).bind (rTail t k v t)) else (bif (k == 4) then ((nT19 t).bind (rTail t k v t)) else (bif (k == 3) then (ask (catOk (⟨#[35]⟩ : ByteArray) t) ((nT19 ((⟨#[35]⟩ : ByteArray) ++ t)).bind (rTail ((⟨#[35]⟩ : ByteArray) ++ t) k v t))) else (bif (k == 2) then ((n45 v).bind fun y50 => (nT19 y50).bind (rTail y50 k v t)) else ((nT19 (⟨#[]⟩ : ByteArray)).bind (rTail (⟨#[]⟩ : ByteArray) k v t)))))) = _
  unfold spS
  cases (k == 1) with
  | true => rfl
  | false =>
    cases (k == 4) with
    | true => rfl
    | false =>
      cases (k == 3) with
      | true => exact ask_of (catOk_of (by show 1 + t.size ≤ _; omega))
      | false =>
        cases (k == 2) with
        | true => rw [decimal_ref hv.1 hv.2]; rfl
        | false => rfl
abbrev noB : ByteArray := (⟨#[]⟩ : ByteArray)
def eqT (p : PTok) (k : Int) (t : ByteArray) (v : Int) : Bool := (p.1 == k) && (sEq p.2.1 t && (p.2.2 == v))
theorem eqT_iff {p : PTok} {k v : Int} {t : ByteArray} : eqT p k t v = true ↔ p = (k, t, v) := by
  obtain ⟨a, b, c⟩ := p
  simp only [eqT, Bool.and_eq_true, beq_iff_eq, sEq_iff, Prod.mk.injEq]
theorem rowOk_K (l : List Tok) : rowOk 6 (l.map encK) = true := by
  simp only [rowOk, Bool.and_eq_true, List.all_map, List.all_eq_true]
  exact ⟨⟨fun t _ => rfl, fun t _ => rfl⟩, rfl⟩
theorem pTail_eq (x : ByteArray) (k v : Int) (t : ByteArray) (a : Tok) (r : List Tok) : pTail x k v t ((a :: r).map encK, 0, 0, 0, 0) = (bif (decide (((((a :: r).map encK).length : Nat) : Int) > 2)) then some (noB, 2) else (bif (!(((pT a).1 == k) && ((true && (true && (true && true))) && ((sEq (pT a).2.1 t) && (((pT a).2.2 == v) && true))))) then some (noB, 2) else (bif (!(sEq x noB)) then (bif (((((a :: r).map encK).length : Nat) : Int) != 2) then some (noB, 2) else some (x, 0)) else some (x, 0)))) := rfl
theorem rTail_eq (x : ByteArray) (k v : Int) (t : ByteArray) (a : Tok) (r : List Tok) : rTail x k v t ((a :: r).map encK, 0, 0, 0, 0) = ask (rowOk 6 ((a :: r).map encK) = true) (bif (decide (((((a :: r).map encK).length : Nat) : Int) > 2)) then some (noB, 2) else (bif (!(((pT a).1 == k) && ((true && (true && (true && true))) && ((sEq (pT a).2.1 t) && (((pT a).2.2 == v) && true))))) then some (noB, 2) else some (x, 0))) := by
  unfold rTail
  dsimp only
  congr 1
def rOf : Option ByteArray → ByteArray × Int
  | some x => (x, 0)
  | none => (noB, 2)
theorem spell_val (tk : Tok) (hb : tk.2.2.1.size ≤ 67000000) (hv : i64 tk.2.2.2) : ∃ r : Option ByteArray, n22 (tk.1, tk.2.1.1, tk.2.1.2.1, tk.2.1.2.2, tk.2.2.1, tk.2.2.2) = some (rOf r) ∧ n23 (tk.1, tk.2.1.1, tk.2.1.2.1, tk.2.1.2.2, tk.2.2.1, tk.2.2.2) = some (rOf r) ∧
    ∀ x, r = some x → x = spS tk.1 tk.2.2.1 tk.2.2.2 ∧ (ScanR x 0 [pT tk] ∨ (pT tk = endT ∧ x = noB)) := by
  rw [n22_eq _ _ _ _ hb hv, n23_eq _ _ _ _ hb hv]
  have hsz : (spS tk.1 tk.2.2.1 tk.2.2.2).size ≤ 67108864 := Nat.le_trans (spS_size hv) (by omega)
  have hx0 : pT tk = endT → spS tk.1 tk.2.2.1 tk.2.2.2 = noB := fun h => by
    have h1 : tk.1 = 0 := congrArg (fun p : PTok => p.1) h
    rw [h1]; rfl
  generalize hx : spS tk.1 tk.2.2.1 tk.2.2.2 = x at hsz hx0 ⊢
  obtain ⟨k, sp, t, v⟩ := tk
  simp only at hx hb hv hx0 ⊢
  rw [nT19_18 hsz]
  rcases n18_or hsz with ⟨ts, hsc⟩ | ⟨f, hf, h18⟩
  · obtain ⟨toks, h1, h2⟩ := n18_run hsz hsc
    rw [h2, Option.bind_some, Option.bind_some]
    match toks, h1 with
    | [], h1 => simp at h1
    | a :: r, h1 =>
      rw [pTail_eq, rTail_eq, ask_of (rowOk_K _)]
      have hlen : (a :: r).length = ts.length + 1 := by
        have := congrArg List.length h1
        simpa using this
      by_cases hl : 2 < (a :: r).length
      · refine ⟨none, ?_, ?_, fun x h => by cases h⟩
        · rw [decide_eq_true (by rw [List.length_map]; omega), cond_true]; rfl
        · rw [decide_eq_true (by rw [List.length_map]; omega), cond_true]; rfl
      · rw [decide_eq_false (by rw [List.length_map]; omega), cond_false, cond_false]
        have he : ((pT a).1 == k && ((true && (true && (true && true))) && ((sEq (pT a).2.1 t) && (((pT a).2.2 == v) && true)))) = eqT (pT a) k t v := by
          simp only [eqT, Bool.true_and, Bool.and_true]
        rw [he]
        cases hq : eqT (pT a) k t v with
        | false => exact ⟨none, rfl, rfl, fun x h => by cases h⟩
        | true =>
          have hq := eqT_iff.1 hq
          simp only [Bool.not_true, cond_false]
          match ts, h1, hlen, hsc with
          | [], h1, hlen, hsc =>
            have hae : pT a = endT := by simpa using congrArg List.head? h1
            have : x = noB := hx0 (by rw [← hae, hq]; rfl)
            subst this
            rw [(sEq_iff noB noB).2 rfl]
            refine ⟨some noB, rfl, rfl, fun y hy => ?_⟩
            cases hy
            exact ⟨rfl, .inr ⟨by rw [← hae, hq]; rfl, rfl⟩⟩
          | [p], h1, hlen, hsc =>
            have hap : pT a = p := by simpa using congrArg List.head? h1
            have h2 : ((((List.map encK (a :: r)).length : Nat) : Int) != 2) = false := by
              rw [List.length_map, hlen]; rfl
            rw [h2]
            refine ⟨some x, by cases sEq x noB <;> rfl, rfl, fun y hy => ?_⟩
            cases hy
            refine ⟨rfl, .inl ?_⟩
            rw [show pT (k, sp, t, v) = p from by rw [← hap, hq]; rfl]
            exact hsc
          | _ :: _ :: _, h1, hlen, hsc => simp only [List.length_cons] at hlen hl; omega
  · refine ⟨none, ?_, ?_, fun x h => by cases h⟩
    · rw [h18, Option.bind_some]
      show (bif (bif (f.1 != 0) then true else _) then _ else _) = _
      rw [show (f.1 != 0) = true from bne_iff_ne.2 hf]
      rfl
    · rw [h18, Option.bind_some]
      show ask (rowOk 6 [] = true) (bif (bif (f.1 != 0) then true else _) then _ else _) = _
      rw [ask_of (by rfl), show (f.1 != 0) = true from bne_iff_ne.2 hf]
      rfl
def okT (t : Tok) : Prop := t.2.2.1.size ≤ 67000000 ∧ i64 t.2.2.2
open Classical in
noncomputable def spT (t : Tok) : Option ByteArray := if h : okT t then choose (spell_val t h.1 h.2) else none
theorem spT_spec {t : Tok} (h : okT t) : n22 (t.1, t.2.1.1, t.2.1.2.1, t.2.1.2.2, t.2.2.1, t.2.2.2) = some (rOf (spT t)) ∧ n23 (t.1, t.2.1.1, t.2.1.2.1, t.2.1.2.2, t.2.2.1, t.2.2.2) = some (rOf (spT t)) ∧
    ∀ x, spT t = some x → x = spS t.1 t.2.2.1 t.2.2.2 ∧ (ScanR x 0 [pT t] ∨ (pT t = endT ∧ x = noB)) := by
  unfold spT
  rw [dif_pos h]
  exact Classical.choose_spec (spell_val t h.1 h.2)
noncomputable def joinTk : List Tok → Option (List ByteArray)
  | [] => some []
  | t :: r => match spT t with
    | none => none
    | some x => bif (t.1 == 0) && !r.isEmpty then none else (joinTk r).map (x :: ·)
def wT (t : Tok) : Nat := t.2.2.1.size + 22
def wL (l : List Tok) : Nat := (l.map wT).sum
theorem wL_cons (t : Tok) (l : List Tok) : wL (t :: l) = wT t + wL l := by simp [wL]
def strD (x : ByteArray) : D := .val (.string x)
def of24 : O24_0 → (ByteArray × Int) ⊕ List D
  | .x0 a b _ => .inl (a, b)
  | .x1 l => .inr l
theorem addOk_S (acc : List ByteArray) (x : ByteArray) (h : acc.length ≤ 1048600000) : addOk (acc.map strD).length (acc.map strD) [strD x] 1 16 := addOk_map strD 1 16 (fun _ => rfl) acc x (by unfold maxBytes; omega)
theorem L24_run (l : List Tok) (hl : l.length ≤ 4000000) : ∀ (r pre : List Tok) (acc : List ByteArray) (n : Nat), l = pre ++ r → (∀ t ∈ r, okT t) → r.length < n → acc.length ≤ pre.length →
    ∃ o, L24_0 n (l.map encK, acc.map strD, l.map encK, (((l.map encK).length : Nat) : Int), (pre.length : Int)) () = some (o, ()) ∧ of24 o = match joinTk r with | none => .inl (noB, 2) | some xs => .inr ((acc ++ xs).map strD) := by
  intro r
  induction r with
  | nil =>
    intro pre acc n e ho hn ha
    obtain ⟨n, rfl⟩ : ∃ m, n = m + 1 := ⟨n - 1, by omega⟩
    rw [L24_step, decide_eq_false (by rw [List.length_map, e]; simp), cond_false, ask_of rfl]
    exact ⟨_, rfl, by simp [of24, joinTk]⟩
  | cons t r ih =>
    intro pre acc n e ho hn ha
    obtain ⟨n, rfl⟩ : ∃ m, n = m + 1 := ⟨n - 1, by omega⟩
    have hlen : l.length = pre.length + r.length + 1 := by rw [e]; simp; omega
    have hget : l[pre.length]? = some t := by rw [e]; simp
    obtain ⟨h22, _, _⟩ := spT_spec (ho t (by simp))
    rw [L24_step, decide_eq_true (by rw [List.length_map]; omega), cond_true, lidx_map, hget]
    simp only [Option.map_some, Option.bind_some, ask_of (lenK _), cellK0, cellK1, cellK2, cellK3, cellK4, cellK5, asI64, asS, h22]
    rw [w1k (show pre.length ≤ 300000000 by omega)]
    simp only [joinTk]
    cases hsp : spT t with
    | none =>
      simp only [rOf]
      rw [show ((2 : Int) != 0) = true from rfl, cond_true, ask_of (by first | trivial | rfl)]
      exact ⟨_, rfl, rfl⟩
    | some x =>
      simp only [rOf]
      have ih' := ih (pre ++ [t]) (acc ++ [x]) n (by rw [e]; simp) (fun q hq => ho q (by simp [hq])) (by simp at hn; omega) (by simp; omega)
      have hadd := addOk_S acc x (by omega)
      have hpl : (((pre ++ [t]).length : Nat) : Int) = ((pre.length + 1 : Nat) : Int) := by simp
      rw [hpl] at ih'
      have go : ∃ o, (ask (addOk (acc.map strD).length (acc.map strD) [strD x] 1 16) (ask (([((acc.map strD).length + ([strD x] : List D).length)] : List Nat) = [(acc.map strD ++ [strD x]).length]) (L24_0 n (l.map encK, acc.map strD ++ [strD x], l.map encK, (((l.map encK).length : Nat) : Int), ((pre.length + 1 : Nat) : Int)) ()))) = some (o, ()) ∧ of24 o = match (joinTk r).map (x :: ·) with | none => .inl (noB, 2) | some xs => .inr ((acc ++ xs).map strD) := by
        rw [ask_of hadd, ask_of (by simp), map_snoc]
        obtain ⟨o, q1, q2⟩ := ih'
        refine ⟨o, q1, ?_⟩
        rw [q2]
        cases joinTk r with
        | none => rfl
        | some xs => simp
      rw [show ((0 : Int) != 0) = false from rfl, cond_false]
      cases hk : (t.1 == 0) with
      | false => rw [cond_false]; simp only [Bool.false_and, cond_false]; exact go
      | true =>
        rw [cond_true]
        have hw : w64 ((((l.map encK).length : Nat) : Int) - 1) = (((l.map encK).length : Nat) : Int) - 1 := w64_id (by omega) (by rw [List.length_map]; omega)
        rw [hw]
        cases r with
        | nil =>
          rw [decide_eq_false (by rw [List.length_map]; simp at hlen; omega), cond_false]
          exact go
        | cons q r =>
          rw [decide_eq_true (by rw [List.length_map]; simp at hlen; omega), cond_true, ask_of (by first | trivial | rfl)]
          exact ⟨_, rfl, rfl⟩
abbrev spB : ByteArray := (⟨#[32]⟩ : ByteArray)
def tailJ : List ByteArray → ByteArray
  | [] => noB
  | x :: r => spB ++ (x ++ tailJ r)
def textJ : List ByteArray → ByteArray
  | [] => noB
  | x :: r => x ++ tailJ r
theorem app_noB (x : ByteArray) : x ++ noB = x := by apply ByteArray.ext; simp
theorem noB_app (x : ByteArray) : noB ++ x = x := by apply ByteArray.ext; simp
theorem app_as (a b c : ByteArray) : (a ++ b) ++ c = a ++ (b ++ c) := by apply ByteArray.ext; simp [Array.append_assoc]
theorem joinTk_size : ∀ (l : List Tok) (xs : List ByteArray), (∀ t ∈ l, okT t) → joinTk l = some xs → (tailJ xs).size ≤ wL l ∧ xs.length = l.length
  | [], xs, _, h => by cases h; exact ⟨Nat.le_refl _, rfl⟩
  | t :: r, xs, ho, h => by
    simp only [joinTk] at h
    cases hsp : spT t with
    | none => rw [hsp] at h; cases h
    | some x =>
      rw [hsp] at h
      simp only at h
      cases hc : ((t.1 == 0) && !r.isEmpty) with
      | true => rw [hc] at h; cases h
      | false =>
        rw [hc, cond_false] at h
        obtain ⟨ys, h1, rfl⟩ := Option.map_eq_some_iff.1 h
        obtain ⟨q1, q2⟩ := joinTk_size r ys (fun q hq => ho q (by simp [hq])) h1
        have hx := ((spT_spec (ho t (by simp))).2.2 x hsp).1
        have hsz := spS_size (k := t.1) (t := t.2.2.1) (ho t (by simp)).2
        rw [← hx] at hsz
        refine ⟨?_, by simp [q2]⟩
        rw [wL_cons, tailJ, app_size, app_size, show spB.size = 1 from rfl]
        unfold wT; omega
theorem L25_run (l : List Tok) (hl : l.length ≤ 4000000) : ∀ (r pre : List Tok) (acc : ByteArray) (n : Nat), l = pre ++ r → (∀ t ∈ r, okT t) → r.length < n → acc.size + wL r ≤ 200000000 →
    L25_0 n (l.map encK, acc, (pre.length : Int)) () = some ((match joinTk r with | none => O25_0.x0 noB 2 | some xs => O25_0.x1 (bif pre.isEmpty then acc ++ textJ xs else acc ++ tailJ xs)), ()) := by
  intro r
  induction r with
  | nil =>
    intro pre acc n e ho hn ha
    obtain ⟨n, rfl⟩ : ∃ m, n = m + 1 := ⟨n - 1, by omega⟩
    rw [L25_step, decide_eq_false (by rw [List.length_map, e]; simp), cond_false]
    simp only [joinTk, textJ, tailJ, app_noB]
    cases pre.isEmpty <;> rfl
  | cons t r ih =>
    intro pre acc n e ho hn ha
    obtain ⟨n, rfl⟩ : ∃ m, n = m + 1 := ⟨n - 1, by omega⟩
    have hlen : l.length = pre.length + r.length + 1 := by rw [e]; simp; omega
    have hget : l[pre.length]? = some t := by rw [e]; simp
    obtain ⟨_, h23, hspc⟩ := spT_spec (ho t (by simp))
    rw [wL_cons] at ha
    rw [L25_step, decide_eq_true (by rw [List.length_map]; omega), cond_true, lidx_map, hget]
    simp only [Option.map_some, Option.bind_some, ask_of (lenK _), cellK0, cellK1, cellK2, cellK3, cellK4, cellK5, asI64, asS, h23]
    rw [w1k (show pre.length ≤ 300000000 by omega)]
    simp only [joinTk]
    cases hsp : spT t with
    | none =>
      simp only [rOf]
      rw [show ((2 : Int) != 0) = true from rfl, cond_true]
    | some x =>
      simp only [rOf]
      have hx := (hspc x hsp).1
      have hsz := spS_size (k := t.1) (t := t.2.2.1) (ho t (by simp)).2
      rw [← hx] at hsz
      have hw : wT t = t.2.2.1.size + 22 := rfl
      rw [show ((0 : Int) != 0) = false from rfl, cond_false]
      have hpl : ((pre.length + 1 : Nat) : Int) = (((pre ++ [t]).length : Nat) : Int) := by simp
      have hne : (pre ++ [t]).isEmpty = false := by simp
      have go : (bif (decide ((pre.length : Int) > 0)) then (ask (catOk acc spB) (ask (catOk (acc ++ spB) x) (L25_0 n (l.map encK, (acc ++ spB) ++ x, ((pre.length + 1 : Nat) : Int)) ()))) else (ask (catOk acc x) (L25_0 n (l.map encK, acc ++ x, ((pre.length + 1 : Nat) : Int)) ()))) = some ((match (joinTk r).map (x :: ·) with | none => O25_0.x0 noB 2 | some xs => O25_0.x1 (bif pre.isEmpty then acc ++ textJ xs else acc ++ tailJ xs)), ()) := by
        cases pre with
        | nil =>
          rw [decide_eq_false (by simp), cond_false, ask_of (catOk_of (by omega)), hpl, ih _ _ n (by rw [e]; simp) (fun q hq => ho q (by simp [hq])) (by simp at hn; omega) (by rw [app_size]; omega), hne]
          cases joinTk r with
          | none => rfl
          | some xs => simp only [Option.map_some, List.isEmpty_nil, cond_true, cond_false, textJ, app_as]
        | cons p pre =>
          rw [decide_eq_true (by simp), cond_true, ask_of (catOk_of (by rw [show spB.size = 1 from rfl]; omega)), ask_of (catOk_of (by rw [app_size, show spB.size = 1 from rfl]; omega)), hpl, ih _ _ n (by rw [e]; simp) (fun q hq => ho q (by simp [hq])) (by simp at hn; omega) (by rw [app_size, app_size, show spB.size = 1 from rfl]; omega), hne]
          cases joinTk r with
          | none => rfl
          | some xs => simp only [Option.map_some, List.isEmpty_cons, cond_false, tailJ, app_as]
      cases hk : (t.1 == 0) with
      | false => rw [cond_false]; simp only [Bool.false_and, cond_false]; exact go
      | true =>
        rw [cond_true]
        cases r with
        | nil =>
          rw [decide_eq_false (by rw [List.length_map]; simp at hlen ⊢; omega), cond_false]
          exact go
        | cons q r =>
          rw [decide_eq_true (by rw [List.length_map]; simp at hlen ⊢; omega), cond_true]
          rfl
theorem strsOf_map : ∀ xs : List ByteArray, strsOf (xs.map strD) = some xs
  | [] => rfl
  | x :: r => by
    show (strsOf (r.map strD)).map (x :: ·) = _
    rw [strsOf_map r]; rfl
theorem tailJ_list : ∀ xs : List ByteArray, (tailJ xs).data.toList = Lib.joinTail [32] (xs.map (·.data.toList))
  | [] => rfl
  | x :: r => by
    have := tailJ_list r
    simp only [Lib.joinTail, List.map_cons, List.flatten_cons] at this ⊢
    rw [← this]
    simp [tailJ]
theorem join_textJ : ∀ xs : List ByteArray, (⟨(Lib.join (xs.map (·.data.toList)) [32]).toArray⟩ : ByteArray) = textJ xs
  | [] => rfl
  | x :: r => by
    apply ByteArray.ext
    apply Array.ext'
    rw [List.map_cons, Lib.join_cons, List.toList_toArray]
    simp [textJ, tailJ_list]
theorem n66_id (xs : List ByteArray) : n66 (xs.map strD) = some (xs.map strD) := by
  have hs : hasSize 1 (xs.map strD) = true := by cases xs <;> rfl
  simp only [n66, hs]
  rw [ask_of ⟨by omega, by omega, by omega, by omega, by omega, rfl⟩, Int.toNat_natCast, List.take_length]
  rfl
theorem join_both (l : List Tok) (ho : ∀ t ∈ l, okT t) (hl : l.length ≤ 4000000) (hw : wL l ≤ 60000000) : n24 (l.map encK) = some (match joinTk l with | none => (noB, 2) | some xs => (textJ xs, 0)) ∧ n25 (l.map encK) = some (match joinTk l with | none => (noB, 2) | some xs => (textJ xs, 0)) := by
  constructor
  · obtain ⟨o, h1, h2⟩ := L24_run l hl l [] [] 1000000000000 rfl ho (by omega) (by simp)
    show (ask (([0] : List Nat) = [([] : List D).length]) ((L24_0 1000000000000 (l.map encK, ([] : List ByteArray).map strD, l.map encK, (((l.map encK).length : Nat) : Int), ((([] : List Tok).length : Nat) : Int)) ()).bind fun p26 => match p26.1 with | .x0 z27 z28 z29 => (some (z27, z28)) | .x1 z30 => ((n66 z30).bind fun y31 => ((n65 (y31, (⟨#[32]⟩ : ByteArray))).bind fun y32 => (some (y32, 0)))))) = _
    rw [ask_of (show ([0] : List Nat) = [([] : List D).length] from rfl), h1, Option.bind_some]
    cases hj : joinTk l with
    | none =>
      rw [hj] at h2
      cases o with
      | x0 a b c => simp only [of24, Sum.inl.injEq] at h2; rw [h2.symm]
      | x1 a => simp [of24] at h2
    | some xs =>
      rw [hj] at h2
      obtain ⟨hsz, hxl⟩ := joinTk_size l xs ho hj
      cases o with
      | x0 a b c => simp [of24] at h2
      | x1 a =>
        simp only [of24, Sum.inr.injEq, List.nil_append] at h2
        subst h2
        show ((n66 (xs.map strD)).bind fun y31 => ((n65 (y31, (⟨#[32]⟩ : ByteArray))).bind fun y32 => (some (y32, 0)))) = _
        have hlen : (Lib.join (xs.map (·.data.toList)) [32]).length ≤ 60000000 := by
          have e1 := congrArg ByteArray.size (join_textJ xs)
          rw [size_mk] at e1
          rw [e1]
          cases xs with
          | nil => exact Nat.zero_le _
          | cons x r =>
            rw [tailJ, app_size] at hsz
            show (x ++ tailJ r).size ≤ _
            omega
        rw [n66_id, Option.bind_some]
        simp only [n65, strsOf_map, Option.bind_some]
        rw [ask_of ⟨Nat.ble_eq_true_of_le (by omega), Nat.ble_eq_true_of_le (Nat.le_trans hlen (by omega))⟩]
        show some ((⟨(Lib.join (xs.map (·.data.toList)) [32]).toArray⟩ : ByteArray), (0 : Int)) = _
        rw [join_textJ]
  · have h := L25_run l hl l [] noB 1000000000000 rfl ho (by omega) (by show 0 + wL l ≤ _; omega)
    show ((L25_0 1000000000000 (l.map encK, noB, ((([] : List Tok).length : Nat) : Int)) ()).bind fun p26 => match p26.1 with | .x0 z27 z28 => (some (z27, z28)) | .x1 z29 => (some (z29, 0))) = _
    rw [h]
    cases joinTk l with
    | none => rfl
    | some xs =>
      show some (noB ++ textJ xs, (0 : Int)) = _
      rw [noB_app]
end Ev
