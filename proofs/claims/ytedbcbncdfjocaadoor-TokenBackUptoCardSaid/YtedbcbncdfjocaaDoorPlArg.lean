/- What functions of the program compute, as plain Lean functions, each with its proof by the reader (PlArg); printed by a tool of this work. -/
import Derived.Test.YtedbcbncdfjocaaDoorEvArg
import Derived.Test.YtedbcbncdfjocaaDoorPlSpell
set_option linter.unusedVariables false
namespace Ev
open Go
def tokKs : List LK := [.int .i64, .int .i64, .int .i64, .int .i64, .str, .int .i64]
theorem tok_of {us : List Value} (h : LeavesOk tokKs us) : ∃ t : Tok, us = [.int .i64 t.1, .int .i64 t.2.1.1, .int .i64 t.2.1.2.1, .int .i64 t.2.1.2.2, .string t.2.2.1, .int .i64 t.2.2.2] ∧ i64 t.2.2.2 := by
  obtain ⟨_, _, rfl, ⟨k, rfl, _⟩, _, _, rfl, ⟨a, rfl, _⟩, _, _, rfl, ⟨b, rfl, _⟩, _, _, rfl, ⟨c, rfl, _⟩, _, _, rfl, ⟨s, rfl⟩, _, _, rfl, ⟨n, rfl, wn⟩, h⟩ := h
  have : _ = [] := h
  subst this
  exact ⟨(k, (a, b, c), s, n), rfl, wf_i64 wn⟩
theorem toks_of : ∀ rows : List (List Value), (∀ us ∈ rows, LeavesOk tokKs us) → ∃ l : List Tok, rows.map elemD = l.map encK ∧ (∀ t ∈ l, i64 t.2.2.2) ∧ l.length = rows.length ∧ (l.map fun t => t.2.2.1.size).sum = (rows.map strSum).sum
  | [], _ => ⟨[], rfl, by simp, rfl, rfl⟩
  | us :: rows, h => by
    obtain ⟨l, h1, h2, h3, h4⟩ := toks_of rows (fun x hx => h x (by simp [hx]))
    obtain ⟨t, rfl, ht⟩ := tok_of (h us (by simp))
    refine ⟨t :: l, by rw [List.map_cons, List.map_cons, h1]; rfl, fun q hq => (List.mem_cons.1 hq).elim (fun e => e ▸ ht) (h2 q), by simp [h3], ?_⟩
    rw [List.map_cons, List.map_cons, List.sum_cons, List.sum_cons, h4]
    simp [strSum, strSz]
theorem sum_mem {l : List Tok} {t : Tok} (h : t ∈ l) : t.2.2.1.size ≤ (l.map fun t => t.2.2.1.size).sum := by
  induction l with
  | nil => cases h
  | cons a l ih =>
    rw [List.map_cons, List.sum_cons]
    rcases List.mem_cons.1 h with rfl | h
    · omega
    · have := ih h; omega
theorem wL_eq (l : List Tok) : wL l = (l.map fun t => t.2.2.1.size).sum + 22 * l.length := by
  induction l with
  | nil => rfl
  | cons a l ih => rw [wL_cons, ih, List.map_cons, List.sum_cons, List.length_cons]; unfold wT; omega
theorem toks_small {l : List Tok} {b : Nat} (hi : ∀ t ∈ l, i64 t.2.2.2) (hb : (l.map fun t => t.2.2.1.size).sum + l.length ≤ b) (hs : b ≤ 1048576) : (∀ t ∈ l, okT t) ∧ l.length ≤ 4000000 ∧ wL l ≤ 60000000 :=
  ⟨fun t ht => ⟨by have := sum_mem ht; omega, hi t ht⟩, by omega, by rw [wL_eq]; omega⟩
end Ev
