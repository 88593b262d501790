/- What functions of the program compute, as plain Lean functions, each with its proof by a proved reader; plain laws about them (EvArgRow). -/
import Derived.Test.YtpnpdcfojbbglaaGreatDoorEvArge
set_option linter.unusedVariables false
set_option linter.unusedSimpArgs false
set_option maxRecDepth 100000
namespace Ev
open Go Go.ChangeShapes Go.WideShapes Go.ChangeAt Go.RowKit Go.Proofs Go.Proofs.YtpnpdcfojbbglaaGreatDoor
variable {P : Program} {H : Type} {enc : TypeId × Value → H} {w : World}
theorem open_row {α : Type} {dd : α → D} {ok : α → Prop} {bg : α → Nat} {sz : Nat} {eT sT : TypeId} (hu : P.underlying sT = some (.slice eT)) (hc : P.cellsOf eT = sz) (hsz : 0 < sz) {base : Nat} {sp : Nat → Bool} {held : Bool} (p : Pin)
    (each : ∀ (n : Nat) (cs : List Value) (x : DataW H × List MemPlace), DataW.trod enc P w base sp held n eT cs = some x → ∃ v : α, ok v ∧ DRel (allRO w p) (dd v) (.agg cs.toArray) ∧ cs.length = sz ∧ bg v ≤ Rows.uptoBulk x.1)
    (n' : Nat) (c4 : Value) (x4 : DataW H × List MemPlace) (f4 : DataW.trod enc P w base sp held n' sT [c4] = some x4) :
    ∃ l : List α, (∀ v ∈ l, ok v) ∧ DRel (allRO w p) (.slice (l.map dd)) c4 ∧ c4.oneCell' = true ∧ (l.map bg).sum ≤ Rows.uptoBulk x4.1 := by
  rcases DataW.trod_slice hu f4 with ⟨h1, h2⟩ | ⟨a, len', cap', elems, rest, n'', e, h1, h2, hb, hle, hm, hlen, hel, _, _⟩
  · simp at h1
    subst h1
    refine ⟨[], by simp, ?_, rfl, by simp⟩
    simp only [DRel, List.map_nil]
    exact ⟨none, 0, rfl, Nat.le_refl _, .inl (by first | trivial | rfl)⟩
  · simp at h1
    subst h1
    subst e
    rw [hc] at hel
    have each' : ∀ i, i < len' → ∃ (v : α) (us : List Value) (x : DataW H × List MemPlace), elems[i]? = some x ∧ ok v ∧ DRel (allRO w p) (dd v) (.agg us.toArray) ∧ us.length = sz ∧ bg v ≤ Rows.uptoBulk x.1 ∧ ∀ (j : Nat) (y : Value), us[j]? = some y → w.cell? ((a.add (i * sz)).add j) = some y := by
      intro i hi
      have h := hel i hi
      obtain ⟨x, hx⟩ : ∃ x, elems[i]? = some x := ⟨_, List.getElem?_eq_getElem (by omega)⟩
      rw [hx, Option.bind_eq_some_iff] at h
      obtain ⟨us, q1, q2⟩ := h
      obtain ⟨v, r1, r2, r3, r4⟩ := each n'' us x q2
      obtain ⟨_, q4, q5⟩ := World.cells?_some q1
      refine ⟨v, us, x, hx, r1, r2, r3, r4, fun j y hj => ?_⟩
      have hjl := (List.getElem?_eq_some_iff.1 hj).1
      rw [q5 j (by omega)]; exact hj
    have build : ∀ (k i : Nat), i + k = len' → ∃ l : List (α × List Value), l.length = k ∧ (∀ v ∈ l.map (·.1), ok v) ∧ ((l.map (·.1)).map bg).sum ≤ Rows.uptoBulkAll ((elems.drop i).map (·.1)) ∧ ∀ (j : Nat) (q : α × List Value), l[j]? = some q → DRel (allRO w p) (dd q.1) (.agg q.2.toArray) ∧ q.2.length = sz ∧ ∀ (o : Nat) (y : Value), q.2[o]? = some y → w.cell? ((a.add ((i + j) * sz)).add o) = some y := by
      intro k
      induction k with
      | zero => intro i hi; exact ⟨[], rfl, by simp, by simp, by simp⟩
      | succ k ihk =>
        intro i hi
        obtain ⟨v, us, x, hx, r1, r2, r3, r4, r5⟩ := each' i (by omega)
        obtain ⟨l, s1, s2, s3, s4⟩ := ihk (i + 1) (by omega)
        have hil : i < elems.length := by omega
        have hxe : elems[i] = x := by
          rw [List.getElem?_eq_getElem hil] at hx
          exact Option.some.inj hx
        refine ⟨(v, us) :: l, by simp [s1], ?_, ?_, fun j q hj => ?_⟩
        · intro z hz
          rw [List.map_cons] at hz
          rcases List.mem_cons.1 hz with rfl | hz
          · exact r1
          · exact s2 z hz
        · rw [List.drop_eq_getElem_cons hil, List.map_cons, List.map_cons, List.map_cons, List.sum_cons, hxe]
          show _ ≤ Rows.uptoBulk x.1 + Rows.uptoBulkAll ((elems.drop (i + 1)).map (·.1))
          have : bg (v, us).1 = bg v := rfl
          omega
        · cases j with
          | zero =>
            simp at hj
            subst hj
            exact ⟨r2, r3, r5⟩
          | succ j =>
            have := s4 j q (by simpa using hj)
            rw [show i + (j + 1) = i + 1 + j by omega]
            exact this
    obtain ⟨l, s1, s2, s3, s4⟩ := build len' 0 (by omega)
    refine ⟨l.map (·.1), s2, ?_, rfl, ?_⟩
    · simp only [DRel, List.length_map, s1]
      refine ⟨some a, cap', rfl, hle, ?_⟩
      by_cases h0 : l = []
      · exact .inl (by rw [h0]; rfl)
      right
      have hspot : a.spot = none := by
        match l, h0 with
        | q :: l', _ =>
          obtain ⟨g1, g2, g3⟩ := s4 0 q rfl
          have h := g3 0 q.2[0] (List.getElem?_eq_getElem (by omega))
          simp only [Nat.zero_add, Nat.zero_mul, Addr.add, if_true] at h
          unfold World.cell? at h
          cases hsp : a.spot with
          | none => rfl
          | some q =>
            rw [hsp] at h
            split at h <;> simp at h
      have hadd : ∀ x y, (a.add x).add y = ⟨a.block, a.off + x + y, none⟩ := by
        intro x y
        obtain ⟨b, o, q⟩ := a
        simp only at hspot
        subst hspot
        rw [add_eq, add_eq]
      refine ⟨a.block, a.off, sz, by obtain ⟨b, o, q⟩ := a; simp only at hspot; subst hspot; rfl, ?_⟩
      have rowsD : ∀ (l : List (α × List Value)) (i : Nat), (∀ (j : Nat) (q : α × List Value), l[j]? = some q → DRel (allRO w p) (dd q.1) (.agg q.2.toArray) ∧ q.2.length = sz ∧ ∀ (o : Nat) (y : Value), q.2[o]? = some y → w.cell? ((a.add ((i + j) * sz)).add o) = some y) → DRows (allRO w p) a.block sz (a.off + i * sz) ((l.map (·.1)).map dd) := by
        intro l
        induction l with
        | nil => intro i _; trivial
        | cons q l ihl =>
          intro i hl'
          obtain ⟨g1, g2, g3⟩ := hl' 0 q rfl
          simp only [List.map_cons, DRows]
          refine ⟨⟨_, g1, by simp [Value.cells, g2], fun j y hj => ?_⟩, ?_⟩
          · have := g3 j y (by simpa [Value.cells] using hj)
            rw [hadd] at this
            simpa [allRO] using this
          · have := ihl (i + 1) (fun j x hx => by
              have := hl' (j + 1) x (by simpa using hx)
              rw [show i + 1 + j = i + (j + 1) by omega]; exact this)
            rw [Nat.succ_mul, ← Nat.add_assoc] at this
            exact this
      have := rowsD l 0 (fun j q hj => by have := s4 j q hj; exact this)
      simpa using this
    · simp only [Prod.mk.injEq] at h2
      rw [h2]
      simp only [Rows.uptoBulk]
      rw [List.drop_zero] at s3
      omega
end Ev
