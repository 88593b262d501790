/- What functions of the program compute, as plain Lean functions, each with its proof by the reader (PlLoc); printed by a tool of this work. -/
import Derived.Test.YtedbcbncdfjocaaDoorPlBig
set_option linter.unusedSimpArgs false
set_option linter.unusedVariables false
namespace Ev
open Go
theorem decodeN_congC {n n' b0 b1 b2 b3 c1 c2 c3 : Nat} (h1 : (1 < n ∧ b1 / 64 = 2) ↔ (1 < n' ∧ c1 / 64 = 2)) (h2 : (1 < n ∧ b1 / 64 = 2) → ((2 < n ∧ b2 / 64 = 2) ↔ (2 < n' ∧ c2 / 64 = 2))) (h3 : (1 < n ∧ b1 / 64 = 2) → (2 < n ∧ b2 / 64 = 2) → ((3 < n ∧ b3 / 64 = 2) ↔ (3 < n' ∧ c3 / 64 = 2)))
    (e1 : (1 < n ∧ b1 / 64 = 2) → b1 = c1) (e2 : (1 < n ∧ b1 / 64 = 2) → (2 < n ∧ b2 / 64 = 2) → b2 = c2) (e3 : (1 < n ∧ b1 / 64 = 2) → (2 < n ∧ b2 / 64 = 2) → (3 < n ∧ b3 / 64 = 2) → b3 = c3) : Lib.decodeN n b0 b1 b2 b3 = Lib.decodeN n' b0 c1 c2 c3 := by
  unfold Lib.decodeN
  by_cases k0 : b0 < 128
  · rw [if_pos k0, if_pos k0]
  rw [if_neg k0, if_neg k0]
  by_cases q1 : 1 < n ∧ b1 / 64 = 2
  · have := e1 q1
    subst this
    by_cases q2 : 2 < n ∧ b2 / 64 = 2
    · have := e2 q1 q2
      subst this
      by_cases q3 : 3 < n ∧ b3 / 64 = 2
      · have := e3 q1 q2 q3
        subst this
        simp only [q1, q2, q3, h1.1 q1, (h2 q1).1 q2, (h3 q1 q2).1 q3, and_true, true_and]
      · have q3' : ¬ (3 < n' ∧ c3 / 64 = 2) := fun h => q3 ((h3 q1 q2).2 h)
        simp only [q1, q2, q3, q3', h1.1 q1, (h2 q1).1 q2, and_true, true_and, and_false, false_and, if_false]
    · have q2' : ¬ (2 < n' ∧ c2 / 64 = 2) := fun h => q2 ((h2 q1).2 h)
      simp only [q1, q2, q2', h1.1 q1, and_true, true_and, false_and, and_false, if_false]
  · have q1' : ¬ (1 < n' ∧ c1 / 64 = 2) := fun h => q1 (h1.2 h)
    simp only [q1, q1', false_and, and_false, if_false]
theorem bt_app (s t : ByteArray) (k : Nat) : bt (s ++ t) k = if k < s.size then bt s k else bt t (k - s.size) := by
  unfold bt
  rw [get_bang_eq, app_data]
  split
  · rename_i h
    rw [List.getElem?_append_left (by rw [← size_list]; exact h), ← get_bang_eq]
  · rename_i h
    rw [List.getElem?_append_right (by rw [← size_list]; omega), ← get_bang_eq, size_list]
theorem get_app (s t : ByteArray) (k : Nat) : (s ++ t).get! k = if k < s.size then s.get! k else t.get! (k - s.size) := by
  rw [get_bang_eq, app_data]
  split
  · rename_i h
    rw [List.getElem?_append_left (by rw [← size_list]; exact h), ← get_bang_eq]
  · rename_i h
    rw [List.getElem?_append_right (by rw [← size_list]; omega), ← get_bang_eq, size_list]
def Al (a b : ByteArray) : Prop := ∀ i, i < a.size → Utf8.decode (a ++ b) i = Utf8.decode a i
theorem dec_of {a b : ByteArray} {i : Nat} (hi : i < a.size) (h : ∀ j, i < j → a.size ≤ j → (∀ l, i < l → l < j → bt (a ++ b) l / 64 = 2) → j < a.size + b.size → bt (a ++ b) j / 64 = 2 → False) : Utf8.decode (a ++ b) i = Utf8.decode a i := by
  rw [Lib.decode_at, Lib.decode_at, app_size]
  show Lib.decodeN _ (bt (a ++ b) i) (bt (a ++ b) (i + 1)) (bt (a ++ b) (i + 2)) (bt (a ++ b) (i + 3)) = Lib.decodeN _ (bt a i) (bt a (i + 1)) (bt a (i + 2)) (bt a (i + 3))
  have g0 : bt (a ++ b) i = bt a i := by rw [bt_app, if_pos hi]
  rw [g0]
  have key : ∀ k, 0 < k → (∀ l, i < l → l < i + k → bt (a ++ b) l / 64 = 2) → ((k < a.size + b.size - i ∧ bt (a ++ b) (i + k) / 64 = 2) ↔ (k < a.size - i ∧ bt a (i + k) / 64 = 2)) ∧ ((k < a.size + b.size - i ∧ bt (a ++ b) (i + k) / 64 = 2) → bt (a ++ b) (i + k) = bt a (i + k)) := by
    intro k hk hl
    by_cases hlt : i + k < a.size
    · rw [bt_app, if_pos hlt]
      exact ⟨⟨fun q => ⟨by omega, q.2⟩, fun q => ⟨by omega, q.2⟩⟩, fun _ => rfl⟩
    · have hno : ¬ (k < a.size + b.size - i ∧ bt (a ++ b) (i + k) / 64 = 2) := fun q => h (i + k) (by omega) (by omega) hl (by omega) q.2
      exact ⟨⟨fun q => (hno q).elim, fun q => by omega⟩, fun q => (hno q).elim⟩
  have k1 := key 1 (by omega) (fun l h1 h2 => by omega)
  have k2 := fun (q1 : 1 < a.size + b.size - i ∧ bt (a ++ b) (i + 1) / 64 = 2) => key 2 (by omega) (fun l h1 h2 => by
    obtain rfl : l = i + 1 := by omega
    exact q1.2)
  have k3 := fun (q1 : 1 < a.size + b.size - i ∧ bt (a ++ b) (i + 1) / 64 = 2) (q2 : 2 < a.size + b.size - i ∧ bt (a ++ b) (i + 2) / 64 = 2) => key 3 (by omega) (fun l h1 h2 => by
    rcases (show l = i + 1 ∨ l = i + 2 by omega) with rfl | rfl
    · exact q1.2
    · exact q2.2)
  exact decodeN_congC k1.1 (fun q => (k2 q).1) (fun q r => (k3 q r).1) k1.2 (fun q => (k2 q).2) (fun q r => (k3 q r).2)
theorem al_sep {a b : ByteArray} (h : b.size = 0 ∨ bt b 0 < 128) : Al a b := fun i hi => dec_of hi fun j hij hj hl hlt hc => by
  rcases h with h | h
  · omega
  · by_cases hja : j = a.size
    · subst hja
      rw [bt_app, if_neg (by omega), Nat.sub_self] at hc
      omega
    · have := hl a.size hi (by omega)
      rw [bt_app, if_neg (by omega), Nat.sub_self] at this
      omega
theorem al_end {a b : ByteArray} (h : bt a (a.size - 1) < 128) : Al a b := by
  intro i hi
  by_cases hl : i = a.size - 1
  · subst hl
    rw [dec_ascii (s := a) h, dec_ascii (s := a ++ b) (by rw [bt_app, if_pos hi]; exact h), bt_app, if_pos hi]
  · refine dec_of hi fun j hij hj hl' hlt hc => ?_
    have := hl' (a.size - 1) (by omega) (by omega)
    rw [bt_app, if_pos (by omega)] at this
    omega
theorem dec_right (a b : ByteArray) (i : Nat) : Utf8.decode (a ++ b) (a.size + i) = Utf8.decode b i := by
  have g : ∀ k, bt (a ++ b) (a.size + i + k) = bt b (i + k) := fun k => by
    rw [bt_app, if_neg (by omega)]
    congr 1; omega
  rw [Lib.decode_at, Lib.decode_at, app_size]
  show Lib.decodeN _ (bt (a ++ b) (a.size + i)) (bt (a ++ b) (a.size + i + 1)) (bt (a ++ b) (a.size + i + 2)) (bt (a ++ b) (a.size + i + 3)) = Lib.decodeN _ (bt b i) (bt b (i + 1)) (bt b (i + 2)) (bt b (i + 3))
  rw [g 1, g 2, g 3, show bt (a ++ b) (a.size + i) = bt b i from g 0, show a.size + b.size - (a.size + i) = b.size - i by omega]
theorem rn_left {a b : ByteArray} (h : Al a b) {i : Nat} (hi : i < a.size) : rn (a ++ b) i = rn a i ∧ wd (a ++ b) i = wd a i := by
  unfold rn wd; rw [h i hi]; exact ⟨rfl, rfl⟩
theorem rn_right (a b : ByteArray) (i : Nat) : rn (a ++ b) (a.size + i) = rn b i ∧ wd (a ++ b) (a.size + i) = wd b i := by
  unfold rn wd; rw [dec_right]; exact ⟨rfl, rfl⟩
def shR (n : Nat) (r : Ru) : Ru := (r.1, n + r.2.1, r.2.2)
theorem runes_right (a b : ByteArray) : ∀ (d i : Nat), b.size - i ≤ d → i ≤ b.size → runesL (a ++ b) (a.size + i) = (runesL b i).map (shR a.size) := by
  intro d
  induction d with
  | zero =>
    intro i hd hi
    rw [runesL_nil (by rw [app_size]; omega), runesL_nil (by omega)]; rfl
  | succ d ih =>
    intro i hd hi
    by_cases h : i < b.size
    · have w1 := wd_pos b i
      have w2 := wd_le h
      rw [runesL_cons (by rw [app_size]; omega), runesL_cons h, (rn_right a b i).1, (rn_right a b i).2, List.map_cons, show a.size + i + wd b i = a.size + (i + wd b i) by omega, ih _ (by omega) w2]
      rfl
    · rw [runesL_nil (by rw [app_size]; omega), runesL_nil (by omega)]; rfl
theorem runes_left {a b : ByteArray} (hA : Al a b) : ∀ (d i : Nat), a.size - i ≤ d → i ≤ a.size → runesL (a ++ b) i = runesL a i ++ runesL (a ++ b) a.size := by
  intro d
  induction d with
  | zero =>
    intro i hd hi
    obtain rfl : i = a.size := by omega
    rw [runesL_nil (Nat.le_refl a.size), List.nil_append]
  | succ d ih =>
    intro i hd hi
    by_cases h : i < a.size
    · have w1 := wd_pos a i
      have w2 := wd_le h
      rw [runesL_cons (show i < (a ++ b).size by rw [app_size]; omega), runesL_cons h, (rn_left hA h).1, (rn_left hA h).2, ih _ (by omega) w2]
      rfl
    · obtain rfl : i = a.size := by omega
      rw [runesL_nil (Nat.le_refl a.size), List.nil_append]
theorem rus_app {a b : ByteArray} (hA : Al a b) : rus (a ++ b) = rus a ++ (rus b).map (shR a.size) := by
  have h := runes_left hA a.size 0 (by omega) (by omega)
  have h2 := runes_right a b b.size 0 (by omega) (by omega)
  rw [Nat.add_zero] at h2
  rw [h2] at h
  exact h
theorem nr_app {a b : ByteArray} (hA : Al a b) : (rus (a ++ b)).length = (rus a).length + (rus b).length := by
  rw [rus_app hA, List.length_append, List.length_map]
theorem rAt_left {a b : ByteArray} (hA : Al a b) {k : Nat} (hk : k < (rus a).length) : rAt (a ++ b) k = rAt a k := by
  unfold rAt; rw [rus_app hA, List.getElem?_append_left hk]
theorem rAt_right {a b : ByteArray} (hA : Al a b) (k : Nat) : rAt (a ++ b) ((rus a).length + k) = rAt b k := by
  unfold rAt; rw [rus_app hA, List.getElem?_append_right (Nat.le_add_right _ _), show (rus a).length + k - (rus a).length = k from Nat.add_sub_cancel_left .., List.getElem?_map]
  cases (rus b)[k]? <;> rfl
theorem offAt_right {a b : ByteArray} (hA : Al a b) (k : Nat) : offAt (a ++ b) ((rus a).length + k) = a.size + offAt b k := by
  unfold offAt; rw [rus_app hA, List.getElem?_append_right (Nat.le_add_right _ _), show (rus a).length + k - (rus a).length = k from Nat.add_sub_cancel_left .., List.getElem?_map]
  cases (rus b)[k]? with
  | none => simp only [Option.map_none]; rw [app_size]
  | some r => rfl
theorem offAt_end (a : ByteArray) : offAt a ((rus a).length) = a.size := by
  unfold offAt; rw [List.getElem?_eq_none (Nat.le_refl _)]
theorem offAt_0 (a : ByteArray) : offAt a 0 = 0 := by
  unfold offAt
  by_cases h : 0 < a.size
  · rw [show rus a = runesL a 0 from rfl, runesL_cons h]; rfl
  · rw [show rus a = runesL a 0 from rfl, runesL_nil (by omega), List.getElem?_nil]
    show a.size = 0
    omega
theorem offAt_left {a b : ByteArray} (hA : Al a b) {k : Nat} (hk : k ≤ (rus a).length) : offAt (a ++ b) k = offAt a k := by
  by_cases h : k < (rus a).length
  · unfold offAt; rw [rus_app hA, List.getElem?_append_left h]
    obtain ⟨o, q, _⟩ := ru_at h
    rw [show (rus a)[k]? = _ from q]
  · obtain rfl : k = (rus a).length := by omega
    have := offAt_right hA 0
    rw [Nat.add_zero, offAt_0, Nat.add_zero] at this
    rw [this, offAt_end]
end Ev
