/- What functions of the program compute, as plain Lean functions, each with its proof by the reader (PlBackB); printed by a tool of this work. -/
import Derived.Test.YtedbcbncdfjocaaDoorPlBack
import Derived.Test.YtedbcbncdfjocaaDoorLt18t
set_option linter.unusedSimpArgs false
set_option linter.unusedVariables false
namespace Ev
open Go
theorem LO26_step (v2 v3 : List D) (k : Nat) (k5 : Nat) (n : Nat) : LO26_0 (n + 1) (v2, v3, (k : Int), k5) () = (bif (decide ((k : Int) < ((v2.length : Nat) : Int))) then ((lidx v2 (k : Int)).bind fun d6 => ask (d6.cells.length = 6) ((cellAt 0 d6).bind fun x7 => (asInt .i64 x7).bind fun x8 => ((cellAt 1 d6).bind fun x9 => (asInt .i64 x9).bind fun x10 => ((cellAt 2 d6).bind fun x11 => (asInt .i64 x11).bind fun x12 => ((cellAt 3 d6).bind fun x13 => (asInt .i64 x13).bind fun x14 => ((cellAt 4 d6).bind fun x15 => (asStr x15).bind fun x16 => ((cellAt 5 d6).bind fun x17 => (asInt .i64 x17).bind fun x18 => (ask (addOk v3.length v3 ([.agg [.val (.int .i64 x8), .val (.int .i64 0), .val (.int .i64 0), .val (.int .i64 0), .val (.string x16), .val (.int .i64 x18)]] : List D) 6 56) (ask (([k5, (v3.length + ([.agg [.val (.int .i64 x8), .val (.int .i64 0), .val (.int .i64 0), .val (.int .i64 0), .val (.string x16), .val (.int .i64 x18)]] : List D).length)] : List Nat) = [k5, (v3 ++ ([.agg [.val (.int .i64 x8), .val (.int .i64 0), .val (.int .i64 0), .val (.int .i64 0), .val (.string x16), .val (.int .i64 x18)]] : List D)).length]) (LO26_0 n (v2, (v3 ++ ([.agg [.val (.int .i64 x8), .val (.int .i64 0), .val (.int .i64 0), .val (.int .i64 0), .val (.string x16), .val (.int .i64 x18)]] : List D)), (w64 ((k : Int) + 1)), k5) ())))))))))) else (ask (([k5, v3.length] : List Nat) = [k5, v3.length]) (some (OO26_0.x0 v3 k5, ())))) := rfl
theorem LO26_run (l : List Tok) (hl : l.length ≤ 67108868) : ∀ (r pre : List Tok) (n : Nat), l = pre ++ r → r.length < n → LO26_0 n (l.map encK, (pre.map strip).map encK, (pre.length : Int), 0) () = some (OO26_0.x0 ((l.map strip).map encK) 0, ()) := by
  intro r
  induction r with
  | nil =>
    intro pre n e hn
    obtain ⟨n, rfl⟩ : ∃ m, n = m + 1 := ⟨n - 1, by omega⟩
    rw [List.append_nil] at e
    subst e
    rw [LO26_step, decide_eq_false (by rw [List.length_map]; omega), cond_false, ask_of (by simp)]
  | cons t r ih =>
    intro pre n e hn
    obtain ⟨n, rfl⟩ : ∃ m, n = m + 1 := ⟨n - 1, by omega⟩
    have hlen : l.length = pre.length + r.length + 1 := by rw [e]; simp; omega
    have hget : l[pre.length]? = some t := by rw [e]; simp
    rw [LO26_step, decide_eq_true (by rw [List.length_map]; omega), cond_true, lidx_map, hget]
    simp only [Option.map_some, Option.bind_some, ask_of (lenK _), cellK0, cellK1, cellK2, cellK3, cellK4, cellK5, asI64, asS]
    rw [w1k (show pre.length ≤ 300000000 by omega)]
    have hadd := addOk_K (pre.map strip) (strip t) (by rw [List.length_map]; omega)
    show (ask (addOk ((pre.map strip).map encK).length ((pre.map strip).map encK) [encK (strip t)] 6 56) (ask (([0, (((pre.map strip).map encK).length + ([encK (strip t)] : List D).length)] : List Nat) = [0, ((pre.map strip).map encK ++ [encK (strip t)]).length]) (LO26_0 n (l.map encK, (pre.map strip).map encK ++ [encK (strip t)], ((pre.length + 1 : Nat) : Int), 0) ()))) = _
    rw [ask_of hadd, ask_of (by simp), map_snoc]
    have := ih (pre ++ [t]) n (by rw [e]; simp) (by simp at hn; omega)
    rw [List.length_append, List.map_append] at this
    exact this
theorem nO26_eq (l : List Tok) (hl : l.length ≤ 67108868) : nO26 (l.map encK) = some ((l.map strip).map encK) := by
  have h := LO26_run l hl l [] 1000000000000 rfl (by omega)
  show (ask (([0, 0] : List Nat) = [0, ([] : List D).length]) ((LO26_0 1000000000000 (l.map encK, (([] : List Tok).map strip).map encK, ((([] : List Tok).length : Nat) : Int), 0) ()).bind fun p21 => match p21.1 with | .x0 z22 z23 => (ask (z22.length = z22.length) (some z22)))) = _
  rw [ask_of (show ([0, 0] : List Nat) = [0, ([] : List D).length] from rfl), h]
  exact ask_of rfl
def zT : Tok := (0, (0, 0, 0), noB, 0)
theorem strip_end {a b : List Tok} (h : a.map pT = b.map pT ++ [endT]) : a.map strip = b.map strip ++ [zT] := by
  have : ∀ l : List Tok, l.map strip = (l.map pT).map fun p => ((p.1, (0, 0, 0), p.2.1, p.2.2) : Tok) := fun l => by rw [List.map_map]; rfl
  rw [this, this, h, List.map_append]
  rfl
theorem plain5 (l : List Tok) (ho : ∀ t ∈ l, okT t) (hl : l.length ≤ 4000000) (hw : wL l ≤ 60000000) : n5 (l.map encK) = some true := by
  obtain ⟨h3, _⟩ := join_both l ho hl hw
  simp only [n5, h3, Option.bind_some]
  cases hj : joinTk l with
  | none => simp only [show ((2 : Int) != 0) = true from rfl, cond_true, heads_true, Option.bind_some]
  | some xs =>
    simp only [show ((0 : Int) != 0) = false from rfl, cond_false]
    obtain ⟨q1, q2, q3, q4, q5⟩ := join_scan (fun _ => 0) l xs ho hj
    have s1 : (textJ xs).size ≤ 67108864 := by
      obtain ⟨hsz, _⟩ := joinTk_size l xs ho hj
      cases xs with
      | nil => exact Nat.zero_le _
      | cons x r =>
        rw [tailJ, app_size] at hsz
        show (x ++ tailJ r).size ≤ _
        omega
    obtain ⟨ta, a1, a2⟩ := n18_run s1 q1
    have hta := toks_len s1 q1 a1
    have e1 := nO26_eq ta hta
    have e2 := nO26_eq l (by omega)
    have e3 := n20_same (ta.map strip) (by rw [List.length_map]; omega)
    rw [a2, Option.bind_some, e2, Option.bind_some]
    rcases List.eq_nil_or_concat l with hl0 | ⟨r, t, hl0⟩
    · subst hl0
      have hz : (([] : List Tok).map strip).map encK ++ [encK zT] = (ta.map strip).map encK := by
        rw [strip_end (a := ta) (b := []) (by rw [a1]; rfl)]; rfl
      have hadd := addOk_K [] zT (by simp)
      show (bif (((0 : Nat) : Int) == 0) then (ask (addOk (([] : List Tok).map encK).length (([] : List Tok).map encK) [encK zT] 6 56) ((nO26 (ta.map encK)).bind fun y6 => ((n20 (y6, ((([] : List Tok).map strip).map encK ++ [encK zT]))).bind fun y7 => (bif (bif (((0 : Int) == 0) && ((((0 : Int) == 0) && (((0 : Int) == 0) && (((0 : Int) == 0) && true))) && true)) then y7 else false) then ((n21 ()).bind fun y8 => (some y8)) else (some false))))) else _) = _
      rw [show (((0 : Nat) : Int) == 0) = true from rfl, cond_true, ask_of hadd, e1, Option.bind_some, hz, e3, Option.bind_some]
      simp only [heads_true, beq_self_eq_true, Bool.and_self, Bool.and_true, cond_true, Option.bind_some]
    · rw [List.concat_eq_append] at hl0
      have hlen : l.length = r.length + 1 := by rw [hl0]; simp
      have hidx : lidx ((l.map strip).map encK) (w64 (((((l.map strip).map encK).length : Nat) : Int) - 1)) = some (encK (strip t)) := by
        rw [List.length_map, List.length_map, hlen, show w64 (((r.length + 1 : Nat) : Int) - 1) = ((r.length : Nat) : Int) by rw [w64_id (by omega) (by omega)]; omega, List.map_map, lidx_map, hl0, List.getElem?_append_right (Nat.le_refl _), Nat.sub_self]
        rfl
      rw [show (((((l.map strip).map encK).length : Nat) : Int) == 0) = false from beq_eq_false_iff_ne.2 (by rw [List.length_map, List.length_map]; omega), cond_false, hidx, Option.bind_some, ask_of (lenK _), cellK0]
      simp only [Option.bind_some, asI64, e1]
      by_cases hk : t.1 = 0
      · have hz : l.map pT = ta.map pT := by
          rcases q5 with ⟨g1, g2⟩ | ⟨g1, _⟩
          · exact absurd hk (g2 t (by rw [hl0]; simp))
          · rw [g1, a1]
        have hz := strip_pT hz
        rw [show ((strip t).1 != 0) = false by show (t.1 != 0) = false; rw [hk]; rfl, cond_false, hz, e3, Option.bind_some]
        simp only [heads_true, beq_self_eq_true, Bool.and_self, Bool.and_true, cond_true, Option.bind_some]
      · have hz : ta.map pT = l.map pT ++ [endT] := by
          rcases q5 with ⟨g1, g2⟩ | ⟨g1, rr, tt, g2, g3⟩
          · rw [g1, a1]
          · exfalso
            rw [hl0] at g2
            obtain ⟨_, h⟩ := List.append_inj' g2 rfl
            obtain rfl := List.singleton_inj.1 h
            exact hk g3
        have hz := strip_end hz
        have hz2 : (l.map strip).map encK ++ [encK zT] = (ta.map strip).map encK := by rw [hz]; simp
        have hadd := addOk_K (l.map strip) zT (by rw [List.length_map]; omega)
        have hz3 : ((l.map strip).map encK ++ [D.agg [.val (.int .i64 0), .val (.int .i64 0), .val (.int .i64 0), .val (.int .i64 0), .val (.string (⟨#[]⟩ : ByteArray)), .val (.int .i64 0)]]) = (ta.map strip).map encK := hz2
        rw [show ((strip t).1 != 0) = true from bne_iff_ne.2 hk, cond_true, hz3, ask_of (show addOk ((l.map strip).map encK).length ((l.map strip).map encK) [D.agg [.val (.int .i64 0), .val (.int .i64 0), .val (.int .i64 0), .val (.int .i64 0), .val (.string (⟨#[]⟩ : ByteArray)), .val (.int .i64 0)]] 6 56 from hadd), e3, Option.bind_some]
        simp only [heads_true, beq_self_eq_true, Bool.and_self, Bool.and_true, cond_true, Option.bind_some]
end Ev
