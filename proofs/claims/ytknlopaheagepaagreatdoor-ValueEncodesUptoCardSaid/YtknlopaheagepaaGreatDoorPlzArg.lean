/- What functions of the program compute, as plain Lean functions, each with its proof by a proved reader; plain laws about them (PlzArg). -/
import Derived.Test.YtknlopaheagepaaGreatDoorEvArgz
import Derived.Test.YtknlopaheagepaaGreatDoorPlzO
set_option linter.unusedVariables false
set_option linter.unusedSimpArgs false
set_option maxRecDepth 100000
namespace Ev
open Go Go.ChangeShapes Go.WideShapes Go.ChangeAt Go.RowKit Go.Proofs Go.Proofs.YtknlopaheagepaaGreatDoor
variable {H : Type} {enc : TypeId × Value → H} {w : World}
mutual
def V.ok : V → Prop
  | .mk k i m t l => (-9223372036854775808 ≤ k ∧ k ≤ 9223372036854775807) ∧ (-9223372036854775808 ≤ i ∧ i ≤ 9223372036854775807) ∧ (-9223372036854775808 ≤ m ∧ m ≤ 9223372036854775807) ∧ V.okL l
def V.okL : List V → Prop
  | [] => True
  | v :: l => v.ok ∧ V.okL l
end
theorem wf_i64 {a : Int} (w : (Lit.int .i64 a).wf = true) : -9223372036854775808 ≤ a ∧ a ≤ 9223372036854775807 := by
  simp [Lit.wf, IntKind.min, IntKind.max, IntKind.signed, IntKind.bits] at w
  omega
theorem c22 : Tryz.prog.cellsOf 22 = 1 := by kernel_rfl
theorem c2 : Tryz.prog.cellsOf 2 = 1 := by kernel_rfl
theorem c9 : Tryz.prog.cellsOf 9 = 1 := by kernel_rfl
theorem c23 : Tryz.prog.cellsOf 23 = 1 := by kernel_rfl
theorem c25 : Tryz.prog.cellsOf 25 = 5 := by kernel_rfl
theorem val_trod {base : Nat} {sp : Nat → Bool} {held : Bool} (p : Pin) : ∀ (n : Nat) (cs : List Value) (x : DataW H × List MemPlace), DataW.trod enc Tryz.prog w base sp held n 25 cs = some x → ∃ v : V, v.ok ∧ DRel (allRO w p) v.d (.agg cs.toArray) ∧ cs.length = 5 ∧ v.big ≤ Rows.uptoBulk x.1 := by
  intro n
  induction n using Nat.strongRecOn with
  | ind n ih =>
    intro cs x h
    obtain ⟨xs, n', rfl, rfl, hl, hxl, hf⟩ := DataW.trod_struct Tryz.underlying25 h
    rw [c25] at hl
    obtain ⟨c0, c1, c2', c3, c4, rfl⟩ : ∃ c0 c1 c2 c3 c4, cs = [c0, c1, c2, c3, c4] := by
      match cs, hl with
      | [a, b, c, d, e], _ => exact ⟨a, b, c, d, e, rfl⟩
    obtain ⟨x0, x1, x2, x3, x4, rfl⟩ : ∃ c0 c1 c2 c3 c4, xs = [c0, c1, c2, c3, c4] := by
      have hx : xs.length = 5 := hxl
      match xs, hx with
      | [a, b, c, d, e], _ => exact ⟨a, b, c, d, e, rfl⟩
    have f0 : DataW.trod enc Tryz.prog w base sp held n' 22 (([c0, c1, c2', c3, c4].drop 0).take (Tryz.prog.cellsOf 22)) = some x0 := hf 0 _ rfl
    rw [c22] at f0
    have f1 : DataW.trod enc Tryz.prog w base sp held n' 2 (([c0, c1, c2', c3, c4].drop 1).take (Tryz.prog.cellsOf 2)) = some x1 := hf 1 _ rfl
    rw [c2] at f1
    have f2 : DataW.trod enc Tryz.prog w base sp held n' 2 (([c0, c1, c2', c3, c4].drop 2).take (Tryz.prog.cellsOf 2)) = some x2 := hf 2 _ rfl
    rw [c2] at f2
    have f3 : DataW.trod enc Tryz.prog w base sp held n' 9 (([c0, c1, c2', c3, c4].drop 3).take (Tryz.prog.cellsOf 9)) = some x3 := hf 3 _ rfl
    rw [c9] at f3
    have f4 : DataW.trod enc Tryz.prog w base sp held n' 23 (([c0, c1, c2', c3, c4].drop 4).take (Tryz.prog.cellsOf 23)) = some x4 := hf 4 _ rfl
    rw [c23] at f4
    obtain ⟨k, e0, rfl, w0⟩ := DataW.trod_int Tryz.underlying22 f0
    obtain ⟨i, e1, rfl, w1⟩ := DataW.trod_int Tryz.underlying2 f1
    obtain ⟨m, e2, rfl, w2⟩ := DataW.trod_int Tryz.underlying2 f2
    obtain ⟨t, e3, rfl, w3⟩ := DataW.trod_string Tryz.underlying9 f3
    simp at e0 e1 e2 e3
    subst e0; subst e1; subst e2; subst e3
    have items : ∃ l : List V, V.okL l ∧ DRel (allRO w p) (.slice (V.ds l)) c4 ∧ c4.oneCell' = true ∧ V.bigL l ≤ Rows.uptoBulk x4.1 := by
      rcases DataW.trod_slice Tryz.underlying23 f4 with ⟨h1, h2⟩ | ⟨a, len', cap', elems, rest, n'', e, h1, h2, hb, hle, hm, hlen, hel, _, _⟩
      · simp at h1
        subst h1
        refine ⟨[], trivial, ?_, rfl, by rw [V.bigL]; omega⟩
        rw [V.ds]
        simp only [DRel]
        exact ⟨none, 0, rfl, Nat.le_refl _, .inl (by first | trivial | rfl)⟩
      · simp at h1
        subst h1
        subst e
        rw [c25] at hel
        have each : ∀ i, i < len' → ∃ (v : V) (us : List Value) (x : DataW H × List MemPlace), elems[i]? = some x ∧ v.ok ∧ DRel (allRO w p) v.d (.agg us.toArray) ∧ us.length = 5 ∧ v.big ≤ Rows.uptoBulk x.1 ∧ ∀ (j : Nat) (y : Value), us[j]? = some y → w.cell? ((a.add (i * 5)).add j) = some y := by
          intro i hi
          have h := hel i hi
          obtain ⟨x, hx⟩ : ∃ x, elems[i]? = some x := ⟨_, List.getElem?_eq_getElem (by omega)⟩
          rw [hx, Option.bind_eq_some_iff] at h
          obtain ⟨us, q1, q2⟩ := h
          obtain ⟨v, r1, r2, r3, r4⟩ := ih n'' (by omega) us x q2
          obtain ⟨_, q4, q5⟩ := World.cells?_some q1
          refine ⟨v, us, x, hx, r1, r2, r3, r4, fun j y hj => ?_⟩
          have hjl := (List.getElem?_eq_some_iff.1 hj).1
          rw [q5 j (by omega)]; exact hj
        have build : ∀ (k i : Nat), i + k = len' → ∃ l : List (V × List Value), l.length = k ∧ V.okL (l.map (·.1)) ∧ V.bigL (l.map (·.1)) ≤ Rows.uptoBulkAll ((elems.drop i).map (·.1)) ∧ ∀ (j : Nat) (q : V × List Value), l[j]? = some q → DRel (allRO w p) q.1.d (.agg q.2.toArray) ∧ q.2.length = 5 ∧ ∀ (o : Nat) (y : Value), q.2[o]? = some y → w.cell? ((a.add ((i + j) * 5)).add o) = some y := by
          intro k
          induction k with
          | zero => intro i hi; exact ⟨[], rfl, trivial, by simp [V.bigL], by simp⟩
          | succ k ihk =>
            intro i hi
            obtain ⟨v, us, x, hx, r1, r2, r3, r4, r5⟩ := each i (by omega)
            obtain ⟨l, s1, s2, s3, s4⟩ := ihk (i + 1) (by omega)
            have hil : i < elems.length := by omega
            have hxe : elems[i] = x := by
              rw [List.getElem?_eq_getElem hil] at hx
              exact Option.some.inj hx
            refine ⟨(v, us) :: l, by simp [s1], ?_, ?_, fun j q hj => ?_⟩
            · rw [List.map_cons, V.okL]; exact ⟨r1, s2⟩
            · rw [List.drop_eq_getElem_cons hil, List.map_cons, List.map_cons, V.bigL, hxe]
              show _ ≤ Rows.uptoBulk x.1 + Rows.uptoBulkAll ((elems.drop (i + 1)).map (·.1))
              have : (V.big (v, us).1) = v.big := rfl
              omega
            · cases j with
              | zero =>
                simp at hj
                subst hj
                exact ⟨r2, r3, r5⟩
              | succ j =>
                have := s4 j q (by simpa using hj)
                rw [show i + (j + 1) = i + 1 + j by omega]
                exact this
        obtain ⟨l, s1, s2, s3, s4⟩ := build len' 0 (by omega)
        refine ⟨l.map (·.1), s2, ?_, rfl, ?_⟩
        · rw [V.ds_eq]
          simp only [DRel, List.length_map, s1]
          refine ⟨some a, cap', rfl, hle, ?_⟩
          by_cases h0 : l = []
          · exact .inl (by rw [h0]; rfl)
          right
          have hspot : a.spot = none := by
            match l, h0 with
            | q :: l', _ =>
              obtain ⟨g1, g2, g3⟩ := s4 0 q rfl
              have h := g3 0 q.2[0] (List.getElem?_eq_getElem (by omega))
              simp only [Nat.zero_add, Nat.zero_mul, Addr.add, if_true] at h
              unfold World.cell? at h
              cases hsp : a.spot with
              | none => rfl
              | some q =>
                rw [hsp] at h
                split at h <;> simp at h
          have hadd : ∀ x y, (a.add x).add y = ⟨a.block, a.off + x + y, none⟩ := by
            intro x y
            obtain ⟨b, o, q⟩ := a
            simp only at hspot
            subst hspot
            rw [add_eq, add_eq]
          refine ⟨a.block, a.off, 5, by obtain ⟨b, o, q⟩ := a; simp only at hspot; subst hspot; rfl, ?_⟩
          have rowsD : ∀ (l : List (V × List Value)) (i : Nat), (∀ (j : Nat) (q : V × List Value), l[j]? = some q → DRel (allRO w p) q.1.d (.agg q.2.toArray) ∧ q.2.length = 5 ∧ ∀ (o : Nat) (y : Value), q.2[o]? = some y → w.cell? ((a.add ((i + j) * 5)).add o) = some y) → DRows (allRO w p) a.block 5 (a.off + i * 5) ((l.map (·.1)).map V.d) := by
            intro l
            induction l with
            | nil => intro i _; trivial
            | cons q l ihl =>
              intro i hl'
              obtain ⟨g1, g2, g3⟩ := hl' 0 q rfl
              simp only [List.map_cons, DRows]
              refine ⟨⟨_, g1, by simp [Value.cells, g2], fun j y hj => ?_⟩, ?_⟩
              · have := g3 j y (by simpa [Value.cells] using hj)
                rw [hadd] at this
                simpa [allRO] using this
              · have := ihl (i + 1) (fun j x hx => by
                  have := hl' (j + 1) x (by simpa using hx)
                  rw [show i + 1 + j = i + (j + 1) by omega]; exact this)
                rw [Nat.succ_mul, ← Nat.add_assoc] at this
                exact this
          have := rowsD l 0 (fun j q hj => by have := s4 j q hj; exact this)
          simpa using this
        · simp only [Prod.mk.injEq] at h2
          rw [h2]
          simp only [Rows.uptoBulk]
          rw [List.drop_zero] at s3
          omega
    obtain ⟨l, l1, l2, l3, l4⟩ := items
    refine ⟨.mk k i m t l, ?_, ?_, rfl, ?_⟩
    · rw [V.ok]; exact ⟨wf_i64 w0, wf_i64 w1, wf_i64 w2, l1⟩
    · rw [V.d_mk]
      simp only [DRel]
      refine ⟨_, rfl, ?_⟩
      simp only [DRels]
      exact ⟨_, _, rfl, rfl, by simp only [DRel]; exact ⟨trivial, rfl⟩, _, _, rfl, rfl, by simp only [DRel]; exact ⟨trivial, rfl⟩, _, _, rfl, rfl, by simp only [DRel]; exact ⟨trivial, rfl⟩, _, _, rfl, rfl, by simp only [DRel]; exact ⟨trivial, rfl⟩, _, _, rfl, l3, l2, rfl⟩
    · rw [V.big]
      simp only [List.map_cons, List.map_nil, Rows.uptoBulk, Rows.uptoBulkAll]
      have : t.size = t.data.toList.length := by simp
      omega
theorem open_val {base b0 : Nat} {sp : Nat → Bool} {held : Bool} {r0 : Reach} {v : Value} {d : DataW H} {ps : List MemPlace} (hval : Value.okWide Tryz.prog w r0 b0 25 v) (hd : DataW.Trod enc Tryz.prog w base sp held 25 v d ps) (p : Pin) :
    ∃ a : V, a.ok ∧ DRel (allRO w p) a.d v ∧ a.big ≤ Rows.uptoBulk d := by
  obtain ⟨cs, rfl, hc⟩ := okWide_struct Tryz.underlying25 hval
  obtain ⟨n, hn⟩ := hd
  obtain ⟨a, h1, h2, h3, h4⟩ := val_trod p n _ _ hn
  refine ⟨a, h1, ?_, h4⟩
  have : (Value.agg cs).cells.toList.toArray = cs := by simp [Value.cells]
  rw [this] at h2
  exact h2
end Ev
