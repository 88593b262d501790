/- What functions of the program compute, as plain Lean functions, each with its proof by the reader (PlScan); printed by a tool of this work. -/
import Derived.Test.YtedbcbncdfjocaaDoorPlLex
set_option linter.unusedSimpArgs false
set_option linter.unusedVariables false
namespace Ev
open Go
abbrev PTok := Int × ByteArray × Int
def pT (t : Tok) : PTok := (t.1, t.2.2.1, t.2.2.2)
def endT : PTok := (0, (⟨#[]⟩ : ByteArray), 0)
inductive ScanR (u : ByteArray) : Nat → List PTok → Prop
  | fin {i j : Nat} (h : Sil u i j) (he : (rus u).length ≤ j) : ScanR u i []
  | tok {i j j' : Nat} {k v : Int} {t : ByteArray} {ts : List PTok} (h : Sil u i j) (hl : Lex u j k t v j') (r : ScanR u j' ts) : ScanR u i ((k, t, v) :: ts)
variable {s : ByteArray}
theorem scanR_ne {i : Nat} {ts : List PTok} (h : ScanR s i ts) : ∀ t ∈ ts, t.1 ≠ 0 := by
  induction h with
  | fin => simp
  | tok h hl r ih =>
    intro t ht
    rcases List.mem_cons.1 ht with rfl | ht
    · exact (lex_lt hl).2.2.2
    · exact ih t ht
theorem scanR_len {i : Nat} {ts : List PTok} (h : ScanR s i ts) : ts.length ≤ (rus s).length - i := by
  induction h with
  | fin => simp
  | tok h hl r ih =>
    have h1 := sil_le h
    obtain ⟨q1, q2, _⟩ := lex_lt hl
    simp only [List.length_cons]
    omega
theorem scan_runL (hs : s.size ≤ 67108864) (v21 v22 v23 v24 : Int) (v28 : ByteArray) (k29 : Nat) {i : Nat} {ts : List PTok} (h : ScanR s i ts) : ∀ (n : Nat) (acc : List Tok), (rus s).length + 3 - i < n → i ≤ (rus s).length + 2 → acc.length ≤ i →
    ∃ toks : List Tok, toks.map pT = ts ++ [endT] ∧ ∃ o, L18_2 n (acc.map encK, v21, v22, v23, v24, s, Tl s, (i : Int), v28, k29) () = some (o, ()) ∧ of18 o = ((acc ++ toks).map encK, 0, 0, 0, 0) := by
  have hN := N_le hs
  induction h with
  | @fin i j h he =>
    intro n acc hn hi ha
    obtain ⟨n, rfl⟩ : ∃ m, n = m + 1 := ⟨n - 1, by omega⟩
    have hj := sil_top h
    have hjj : j ≤ (rus s).length + 2 := by omega
    refine ⟨[(0, spAt s j, (⟨#[]⟩ : ByteArray), 0)], rfl, ?_⟩
    rw [L18_2_step, n60_run hs h (by omega), Option.bind_some]
    dsimp only
    rw [next_end hs (by omega) (by omega), Option.bind_some]
    dsimp only
    have hadd := addOk_K acc (0, spAt s j, (⟨#[]⟩ : ByteArray), 0) (by omega)
    rw [show ((0 : Int) != 0) = false from rfl, cond_false, show ((0 : Int) == 0) = true from rfl, cond_true]
    show ∃ o, (ask (addOk (acc.map encK).length (acc.map encK) [encK (0, spAt s j, (⟨#[]⟩ : ByteArray), 0)] 6 56) (ask (([k29, (Tl s).length, ((acc.map encK).length + ([encK (0, spAt s j, (⟨#[]⟩ : ByteArray), 0)] : List D).length)] : List Nat) = [k29, (Tl s).length, (acc.map encK ++ [encK (0, spAt s j, (⟨#[]⟩ : ByteArray), 0)]).length]) (some (O18_2.x1 (acc.map encK ++ [encK (0, spAt s j, (⟨#[]⟩ : ByteArray), 0)]) 0 0 0 0 s (Tl s) (j : Int) v28 k29, ())))) = some (o, ()) ∧ _
    rw [ask_of hadd, ask_of (by simp), map_snoc]
    exact ⟨_, rfl, rfl⟩
  | @tok i j j' k v t ts h hl r ih =>
    intro n acc hn hi ha
    obtain ⟨n, rfl⟩ : ∃ m, n = m + 1 := ⟨n - 1, by omega⟩
    have h1 := sil_le h
    obtain ⟨q1, q2, q3, q4⟩ := lex_lt hl
    rw [L18_2_step, n60_run hs h (by omega), Option.bind_some]
    dsimp only
    rw [lex_run hs hl, Option.bind_some]
    dsimp only
    rw [show ((0 : Int) != 0) = false from rfl, cond_false, show (k == 0) = false from beq_eq_false_iff_ne.2 q4, cond_false]
    have hadd := addOk_K acc (k, spAt s j, t, v) (by omega)
    obtain ⟨toks, e1, o, e2, e3⟩ := ih n (acc ++ [(k, spAt s j, t, v)]) (by omega) (by omega) (by simp; omega)
    refine ⟨(k, spAt s j, t, v) :: toks, by rw [List.map_cons, e1]; rfl, o, ?_, by rw [e3]; simp⟩
    show (ask (addOk (acc.map encK).length (acc.map encK) [encK (k, spAt s j, t, v)] 6 56) (ask (([k29, (Tl s).length, ((acc.map encK).length + ([encK (k, spAt s j, t, v)] : List D).length)] : List Nat) = [k29, (Tl s).length, (acc.map encK ++ [encK (k, spAt s j, t, v)]).length]) (L18_2 n (acc.map encK ++ [encK (k, spAt s j, t, v)], v21, v22, v23, v24, s, Tl s, (j' : Int), v28, k29) ()))) = _
    rw [ask_of hadd, ask_of (by simp), map_snoc]
    exact e2
theorem scan_orL (hs : s.size ≤ 67108864) (v21 v22 v23 v24 : Int) (v28 : ByteArray) (k29 : Nat) : ∀ (d i : Nat), (rus s).length + 3 - i ≤ d → i ≤ (rus s).length + 2 →
    (∃ ts, ScanR s i ts) ∨ (∀ (n : Nat) (acc : List Tok), (rus s).length + 3 - i < n → acc.length ≤ i → ∃ (o : O18_2) (f : Int × Int × Int × Int), f.1 ≠ 0 ∧ L18_2 n (acc.map encK, v21, v22, v23, v24, s, Tl s, (i : Int), v28, k29) () = some (o, ()) ∧ of18 o = ([], f)) := by
  have hN := N_le hs
  intro d
  induction d with
  | zero => intro i hd hi; omega
  | succ d ih =>
    intro i hd hi
    obtain ⟨j, hsil⟩ := sil_ex (s := s) ((rus s).length) i (by omega)
    have h1 := sil_le hsil
    by_cases hj : j < (rus s).length
    · rcases lex_or hs hj with ⟨e, a, c, d', b, he, e61⟩ | ⟨k, t, v, j', hl⟩
      · right
        intro n acc hn ha
        obtain ⟨n, rfl⟩ : ∃ m, n = m + 1 := ⟨n - 1, by omega⟩
        rw [L18_2_step, n60_run hs hsil (by omega), Option.bind_some]
        dsimp only
        rw [e61, Option.bind_some]
        dsimp only
        rw [show (e != 0) = true from bne_iff_ne.2 he, cond_true, ask_of rfl]
        exact ⟨_, (e, (spAt s j).1, (spAt s j).2.1, (spAt s j).2.2), he, rfl, rfl⟩
      · obtain ⟨q1, q2, q3, q4⟩ := lex_lt hl
        rcases ih j' (by omega) q3 with ⟨ts, r⟩ | hr
        · exact .inl ⟨_, .tok hsil hl r⟩
        · right
          intro n acc hn ha
          obtain ⟨n, rfl⟩ : ∃ m, n = m + 1 := ⟨n - 1, by omega⟩
          rw [L18_2_step, n60_run hs hsil (by omega), Option.bind_some]
          dsimp only
          rw [lex_run hs hl, Option.bind_some]
          dsimp only
          rw [show ((0 : Int) != 0) = false from rfl, cond_false, show (k == 0) = false from beq_eq_false_iff_ne.2 q4, cond_false]
          have hadd := addOk_K acc (k, spAt s j, t, v) (by omega)
          obtain ⟨o, f, e1, e2, e3⟩ := hr n (acc ++ [(k, spAt s j, t, v)]) (by omega) (by simp; omega)
          refine ⟨o, f, e1, ?_, e3⟩
          show (ask (addOk (acc.map encK).length (acc.map encK) [encK (k, spAt s j, t, v)] 6 56) (ask (([k29, (Tl s).length, ((acc.map encK).length + ([encK (k, spAt s j, t, v)] : List D).length)] : List Nat) = [k29, (Tl s).length, (acc.map encK ++ [encK (k, spAt s j, t, v)]).length]) (L18_2 n (acc.map encK ++ [encK (k, spAt s j, t, v)], v21, v22, v23, v24, s, Tl s, (j' : Int), v28, k29) ()))) = _
          rw [ask_of hadd, ask_of (by simp), map_snoc]
          exact e2
    · exact .inl ⟨[], .fin hsil (by omega)⟩
theorem n18_of (hs : s.size ≤ 67108864) {o : O18_2} {l : List D} {f : Int × Int × Int × Int} (h1 : L18_2 1000000000000 (([] : List Tok).map encK, 0, 0, 0, 0, s, Tl s, ((0 : Nat) : Int), s, 0) () = some (o, ())) (h2 : of18 o = (l, f)) : n18 s = some (l, f) := by
  have hN := N_le hs
  have hl := spots_le s
  have hr := run18 (s := s) 0 0 0 0 0 0 (spots s) [] (by simp; omega)
  rw [show (([] : List Sp).map encT) = [] from rfl, List.nil_append] at hr
  show (ask (([0, 0] : List Nat) = [0, ([] : List D).length]) ((n83 (W18_0 ()) s (Sum.inl (0, 0, 0, 0, s, ([] : List D), 0, 0), ())).bind fun p18 => match p18.2.1 with | .inl z19 => (ask (([(z19.2.2.2.2.2.2.2), (z19.2.2.2.2.2.1).length, 0] : List Nat) = [(z19.2.2.2.2.2.2.2), (z19.2.2.2.2.2.1).length, ([] : List D).length]) ((L18_2 1000000000000 (([] : List D), (z19.1), (z19.2.1), (z19.2.2.1), (z19.2.2.2.1), (z19.2.2.2.2.1), (z19.2.2.2.2.2.1), (z19.2.2.2.2.2.2.1), p18.1, (z19.2.2.2.2.2.2.2)) p18.2.2).bind fun p53 => match p53.1 with | .x0 z54 z55 z56 z57 z58 z59 z60 z61 z62 z63 z64 => (some (z54, z55, z56, z57, z58)) | .x1 z65 z66 z67 z68 z69 z70 z71 z72 z73 z74 => (some (z65, z66, z67, z68, z69)))) | .inr o75 => nomatch o75)) = _
  rw [ask_of (show ([0, 0] : List Nat) = [0, ([] : List D).length] from rfl), n83_eq _ hs, hr]
  show (ask (([0, (Tl s).length, 0] : List Nat) = [0, (Tl s).length, ([] : List D).length]) ((L18_2 1000000000000 (([] : List Tok).map encK, 0, 0, 0, 0, s, Tl s, ((0 : Nat) : Int), s, 0) ()).bind fun p53 => match p53.1 with | .x0 z54 z55 z56 z57 z58 z59 z60 z61 z62 z63 z64 => (some (z54, z55, z56, z57, z58)) | .x1 z65 z66 z67 z68 z69 z70 z71 z72 z73 z74 => (some (z65, z66, z67, z68, z69)))) = _
  rw [ask_of (show ([0, (Tl s).length, 0] : List Nat) = [0, (Tl s).length, ([] : List D).length] from rfl), h1]
  cases o <;> (simp only [of18] at h2; rw [← h2]; rfl)
theorem n18_run (hs : s.size ≤ 67108864) {ts : List PTok} (h : ScanR s 0 ts) : ∃ toks : List Tok, toks.map pT = ts ++ [endT] ∧ n18 s = some (toks.map encK, 0, 0, 0, 0) := by
  have hN := N_le hs
  obtain ⟨toks, h1, o, h2, h3⟩ := scan_runL hs 0 0 0 0 s 0 h 1000000000000 [] (by omega) (by omega) (by simp)
  exact ⟨toks, h1, n18_of hs h2 h3⟩
theorem n18_or (hs : s.size ≤ 67108864) : (∃ ts, ScanR s 0 ts) ∨ ∃ f : Int × Int × Int × Int, f.1 ≠ 0 ∧ n18 s = some ([], f) := by
  have hN := N_le hs
  rcases scan_orL hs 0 0 0 0 s 0 ((rus s).length + 3) 0 (by omega) (by omega) with h | h
  · exact .inl h
  · obtain ⟨o, f, h1, h2, h3⟩ := h 1000000000000 [] (by omega) (by simp)
    exact .inr ⟨f, h1, n18_of hs h2 h3⟩
def toT : O19_0 → OT19_0
  | .x0 a b c d e f g h i => .x0 a b c d e f g h i
  | .x1 a b c d e f g h i j => .x1 a b c d e f g h i j
theorem map_bind' {α β γ : Type} (x : Option α) (f : α → Option β) (g : β → γ) : (x.bind f).map g = x.bind fun a => (f a).map g := by cases x <;> rfl
theorem map_cond' {α β : Type} (c : Bool) (x y : Option α) (g : α → β) : (bif c then x else y).map g = bif c then x.map g else y.map g := by cases c <;> rfl
theorem map_ask' {α β : Type} (p : Prop) [Decidable p] (x : Option α) (g : α → β) : (ask p x).map g = ask p (x.map g) := by unfold ask; split <;> rfl
theorem LT19_eq : ∀ (n : Nat) (a : A19_0), LT19_0 n a () = (L19_0 n a ()).map fun p => (toT p.1, p.2) := by
  intro n
  induction n with
  | zero => intro a; rfl
  | succ n ih =>
    rintro ⟨v7, v8, v9, v10, v11, v12, v13, v14, v15, k16⟩
    simp only [LT19_0, L19_0, map_bind', map_cond', map_ask', Option.map_some, toT, ih]
theorem x1_nil : ∀ (n : Nat) (a : A19_0), Qt (L19_0 n a ()) (fun o => match o.1 with | .x0 .. => True | .x1 z _ _ _ _ _ _ _ _ _ => z = []) := by
  intro n
  induction n with
  | zero => intro a; exact qt_none
  | succ n ih =>
    rintro ⟨v7, v8, v9, v10, v11, v12, v13, v14, v15, k16⟩
    simp only [L19_0]
    repeat' (first | exact ih _ | exact qt_some trivial | exact qt_some rfl | exact qt_none | refine qt_bif ?_ ?_ | refine qt_ask ?_ | (refine qt_bind ?_; intro v; try dsimp only))
theorem nT19_eq (a0 : ByteArray) : nT19 a0 = n19 a0 := by
  simp only [nT19, n19]
  congr 1
  funext y6
  congr 1
  rw [LT19_eq]
  have h := x1_nil 1000000000000 (a0, ([] : List D), 0, 0, 0, 0, a0, y6, 0, 0)
  cases hx : L19_0 (σ := Unit) 1000000000000 (a0, ([] : List D), 0, 0, 0, 0, a0, y6, 0, 0) () with
  | none => rfl
  | some p =>
    obtain ⟨o, u⟩ := p
    have h := h _ hx
    cases o with
    | x0 a b c d e f g h i => exact ask_of (by first | trivial | rfl)
    | x1 a b c d e f g h i j =>
      have h : a = [] := h
      subst h
      exact ask_of (by first | trivial | rfl)
theorem nT19_18 (hs : s.size ≤ 67108864) : nT19 s = n18 s := by
  obtain ⟨toks, f, h1, h2, _⟩ := scan_same hs
  rw [nT19_eq, h1, h2]
end Ev
