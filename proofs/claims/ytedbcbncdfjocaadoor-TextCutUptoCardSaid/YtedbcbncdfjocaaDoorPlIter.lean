/- Plain laws: the program's iterator over runes. -/
import Derived.Test.YtedbcbncdfjocaaDoorPlRun
import Derived.Lib.RuneCountTail
set_option linter.unusedSimpArgs false
set_option linter.unusedVariables false
namespace Ev
open Go

/-- The rune, where it begins, its line, its column. -/
abbrev Sp := Int × Nat × Nat × Nat
def spotsOf : Nat → Nat → List Ru → List Sp
  | _, _, [] => []
  | l, c, r :: t => (r.1, r.2.1, l, c) :: (if r.1 = 10 then spotsOf (l + 1) 1 t else spotsOf l (c + 1) t)
def encS (p : Sp) : D := .agg [.val (.int .i64 p.2.1), .val (.int .i64 p.2.2.1), .val (.int .i64 p.2.2.2)]
def encC (p : Sp) : D := .val (.int .i32 p.1)
def runY {σ : Type} (Y : Yd σ) : List Sp → σ → Option (Bool × σ)
  | [], st => some (true, st)
  | p :: t, st => (Y [encS p, encC p] st).bind fun q => bif q.1 then runY Y t q.2 else some (false, q.2)
theorem n84_eq {s : ByteArray} (hs : s.size ≤ 1048576) {i : Nat} (hi : i < s.size) : n84 (s, (i : Int)) = some (decide (wd s i = 1)) := by
  show (ask (cutOk (i : Int) (s.size : Int) s.size) ((n107 (s.extract (Int.toNat (i : Int)) (Int.toNat (s.size : Int)))).bind fun y3 => (some (y3.2 == 1)))) = _
  rw [ask_of ⟨by omega, by omega, by omega⟩, Int.toNat_natCast, Int.toNat_natCast]
  have e : Lib.decodeGo (s.extract i s.size) = Utf8.decode s i := by
    unfold Lib.decodeGo
    have hsz : (s.extract i s.size).size = s.size - i := by simp
    rw [if_neg (by rw [hsz]; omega)]
    exact Lib.tail_decode s i 0
  show (some ((((Lib.decodeGo (s.extract i s.size)).2 : Nat) : Int) == 1) : Option Bool) = _
  rw [e]
  congr 1
  unfold wd
  rw [Bool.eq_iff_iff, beq_iff_eq, decide_eq_true_iff]
  omega
def ofO83 : O83_0 → ByteArray
  | .x0 z _ _ _ _ _ => z
  | .x1 z _ _ _ _ _ => z
theorem L83_step {σ : Type} (Y : Yd σ) (s : ByteArray) (v2 v3 v4 : Int) (i n : Nat) (st : σ) : L83_0 Y (n + 1) (s, v2, v3, v4, s, i) st = (bif decide (i < s.size) then (bif (((Utf8.decode s i).1 : Int) == 65533) then ((n84 (s, (i : Int))).bind fun y7 => (bif y7 then ((Y [.agg [.val (.int .i64 (i : Int)), .val (.int .i64 v3), .val (.int .i64 v4)], .val (.int .i32 (-1))] st).bind fun q8 => (bif (!q8.1) then (some (O83_0.x0 s (i : Int) v3 v4 s (i + (Utf8.decode s i).2), q8.2)) else (L83_0 Y n (s, (i : Int), v3, (w64 (v4 + 1)), s, (i + (Utf8.decode s i).2)) q8.2))) else ((Y [.agg [.val (.int .i64 (i : Int)), .val (.int .i64 v3), .val (.int .i64 v4)], .val (.int .i32 ((Utf8.decode s i).1 : Int))] st).bind fun q15 => (bif (!q15.1) then (some (O83_0.x0 s (i : Int) v3 v4 s (i + (Utf8.decode s i).2), q15.2)) else (bif (((Utf8.decode s i).1 : Int) == 10) then (L83_0 Y n (s, (i : Int), (w64 (v3 + 1)), 1, s, (i + (Utf8.decode s i).2)) q15.2) else (L83_0 Y n (s, (i : Int), v3, (w64 (v4 + 1)), s, (i + (Utf8.decode s i).2)) q15.2)))))) else ((Y [.agg [.val (.int .i64 (i : Int)), .val (.int .i64 v3), .val (.int .i64 v4)], .val (.int .i32 ((Utf8.decode s i).1 : Int))] st).bind fun q16 => (bif (!q16.1) then (some (O83_0.x0 s (i : Int) v3 v4 s (i + (Utf8.decode s i).2), q16.2)) else (bif (((Utf8.decode s i).1 : Int) == 10) then (L83_0 Y n (s, (i : Int), (w64 (v3 + 1)), 1, s, (i + (Utf8.decode s i).2)) q16.2) else (L83_0 Y n (s, (i : Int), v3, (w64 (v4 + 1)), s, (i + (Utf8.decode s i).2)) q16.2))))) else (some (O83_0.x1 s v2 v3 v4 s i, st))) := rfl
/-- One round, told by the rune as it is handed on. -/
theorem L83_round {σ : Type} (Y : Yd σ) {s : ByteArray} (hs : s.size ≤ 1048576) (v2 : Int) (l c : Nat) (hl : l ≤ 1048577) (hc : c ≤ 1048577) {i : Nat} (hi : i < s.size) (n : Nat) (st : σ) :
    ∃ o, ofO83 o = s ∧ L83_0 Y (n + 1) (s, v2, (l : Int), (c : Int), s, i) st = (Y [encS (rn s i, i, l, c), encC (rn s i, i, l, c)] st).bind fun q => (bif (!q.1) then (some (o, q.2)) else (bif (rn s i == 10) then (L83_0 Y n (s, (i : Int), ((l + 1 : Nat) : Int), ((1 : Nat) : Int), s, i + wd s i) q.2) else (L83_0 Y n (s, (i : Int), (l : Int), ((c + 1 : Nat) : Int), s, i + wd s i) q.2))) := by
  have e1 : w64 ((l : Int) + 1) = ((l + 1 : Nat) : Int) := by rw [w64_id (by omega) (by omega)]; omega
  have e2 : w64 ((c : Int) + 1) = ((c + 1 : Nat) : Int) := by rw [w64_id (by omega) (by omega)]; omega
  refine ⟨O83_0.x0 s (i : Int) l c s (i + (Utf8.decode s i).2), rfl, ?_⟩
  rw [L83_step, decide_eq_true hi, cond_true, e1, e2, n84_eq hs hi, Option.bind_some]
  by_cases hr : (Utf8.decode s i).1 = 65533
  · have b1 : (((Utf8.decode s i).1 : Int) == 65533) = true := by rw [hr]; rfl
    rw [b1, cond_true]
    by_cases hw : wd s i = 1
    · have hrn : rn s i = -1 := by
        unfold rn
        rw [if_pos (Prod.ext hr hw)]
      rw [decide_eq_true hw, cond_true, hrn]
      rfl
    · have hrn : rn s i = ((Utf8.decode s i).1 : Int) := by
        unfold rn
        rw [if_neg (fun h => hw (congrArg Prod.snd h))]
      rw [decide_eq_false hw, cond_false, hrn]
      rfl
  · have b1 : (((Utf8.decode s i).1 : Int) == 65533) = false := by rw [beq_eq_false_iff_ne]; omega
    have hrn : rn s i = ((Utf8.decode s i).1 : Int) := by
      unfold rn
      rw [if_neg (fun h => hr (congrArg Prod.fst h))]
    rw [b1, cond_false, hrn]
    rfl
theorem L83 {σ : Type} (Y : Yd σ) {s : ByteArray} (hs : s.size ≤ 1048576) : ∀ (d n i l c : Nat) (v2 : Int) (st : σ), s.size - i ≤ d → d < n → i ≤ s.size → l ≤ i + 1 → c ≤ i + 1 →
    (L83_0 Y n (s, v2, (l : Int), (c : Int), s, i) st).map (fun p => (ofO83 p.1, p.2)) = (runY Y (spotsOf l c (runesL s i)) st).map (fun q => (s, q.2)) := by
  intro d
  induction d with
  | zero =>
    intro n i l c v2 st hd hn hi hl hc
    obtain ⟨m, rfl⟩ : ∃ m, n = m + 1 := ⟨n - 1, by omega⟩
    rw [L83_step, decide_eq_false (by omega), cond_false, runesL_nil (by omega)]
    rfl
  | succ d ih =>
    intro n i l c v2 st hd hn hi hl hc
    obtain ⟨m, rfl⟩ : ∃ m, n = m + 1 := ⟨n - 1, by omega⟩
    by_cases h : i < s.size
    · have w1 := wd_pos s i
      have w2 := wd_le h
      obtain ⟨o, ho, e⟩ := L83_round Y hs v2 l c (by omega) (by omega) h m st
      rw [e, runesL_cons h, spotsOf, runY]
      cases hq : Y [encS (rn s i, i, l, c), encC (rn s i, i, l, c)] st with
      | none => rfl
      | some q =>
        rw [Option.bind_some, Option.bind_some]
        cases q.1 with
        | false => simp [ho]
        | true =>
          rw [Bool.not_true, cond_false, cond_true]
          by_cases h10 : rn s i = 10
          · rw [show (rn s i == 10) = true from beq_iff_eq.2 h10, cond_true, if_pos h10]
            exact ih m (i + wd s i) (l + 1) 1 _ _ (by omega) (by omega) w2 (by omega) (by omega)
          · rw [show (rn s i == 10) = false from beq_eq_false_iff_ne.2 h10, cond_false, if_neg h10]
            exact ih m (i + wd s i) l (c + 1) _ _ (by omega) (by omega) w2 (by omega) (by omega)
    · rw [L83_step, decide_eq_false h, cond_false, runesL_nil (by omega)]
      rfl
/-- A text's spots. -/
def spots (s : ByteArray) : List Sp := spotsOf 1 1 (runesL s 0)
theorem n83_eq {σ : Type} (Y : Yd σ) {s : ByteArray} (hs : s.size ≤ 1048576) (st : σ) : n83 Y s st = (runY Y (spots s) st).map (fun q => (s, q.2)) := by
  have h := L83 Y hs s.size 1000000000000 0 1 1 0 st (by omega) (by omega) (by omega) (by omega) (by omega)
  show ((L83_0 Y 1000000000000 (s, 0, 1, 1, s, 0) st).bind fun p23 => match p23.1 with | .x0 z24 z25 z26 z27 z28 z29 => (some (z24, p23.2)) | .x1 z30 z31 z32 z33 z34 z35 => (some (z30, p23.2))) = _
  rw [show spotsOf 1 1 (runesL s 0) = spots s from rfl] at h
  rw [← h]
  show _ = Option.map _ (L83_0 Y 1000000000000 (s, 0, 1, 1, s, 0) st)
  cases L83_0 Y 1000000000000 (s, 0, 1, 1, s, 0) st with
  | none => rfl
  | some p =>
    obtain ⟨o, st'⟩ := p
    cases o <;> rfl

/-! runes, as lists -/
theorem encC_len (p : Sp) : (encC p).cells.length = 1 := rfl
theorem W28_step (a b : List Sp) (k9 k10 : Nat) (p : Sp) (h : (a.length + 1) * 24 ≤ maxBytes) (h' : (b.length + 1) * 4 ≤ maxBytes) : W28_0 (σ := Unit) () [encS p, encC p] (.inl (a.map encS, b.map encC, k9, k10), ()) = some (true, (.inl ((a ++ [p]).map encS, (b ++ [p]).map encC, k9, k10), ())) := by
  show ask (addOk (a.map encS).length (a.map encS) [encS p] 3 24) (ask (addOk (b.map encC).length (b.map encC) [encC p] 1 4) (ask (([k9, k10, ((a.map encS).length + ([encS p] : List D).length), ((b.map encC).length + ([encC p] : List D).length)] : List Nat) = [k9, k10, (a.map encS ++ [encS p]).length, (b.map encC ++ [encC p]).length]) (some (true, (Sum.inl (a.map encS ++ [encS p], b.map encC ++ [encC p], k9, k10), ()))))) = _
  rw [ask_of (addOk_map encS 3 24 (fun _ => rfl) a p h), ask_of (addOk_map encC 1 4 (fun _ => rfl) b p h'), ask_of (by simp), map_snoc, map_snoc]
theorem run28 (k9 k10 : Nat) : ∀ (l a b : List Sp), a.length + l.length ≤ 1048577 → b.length + l.length ≤ 1048577 → runY (W28_0 (σ := Unit) ()) l (.inl (a.map encS, b.map encC, k9, k10), ()) = some (true, (.inl ((a ++ l).map encS, (b ++ l).map encC, k9, k10), ()))
  | [], a, b, _, _ => by simp [runY]
  | p :: l, a, b, h, h' => by
    simp only [List.length_cons] at h h'
    rw [runY, W28_step a b k9 k10 p (by unfold maxBytes; omega) (by unfold maxBytes; omega), Option.bind_some, cond_true, run28 k9 k10 l (a ++ [p]) (b ++ [p]) (by simp; omega) (by simp; omega), List.append_assoc, List.append_assoc]
    rfl
theorem spotsOf_length : ∀ (l c : Nat) (t : List Ru), (spotsOf l c t).length = t.length
  | _, _, [] => rfl
  | l, c, r :: t => by
    rw [spotsOf, List.length_cons, List.length_cons]
    split
    · rw [spotsOf_length]
    · rw [spotsOf_length]
theorem spots_length (s : ByteArray) : (spots s).length = (runesL s 0).length := spotsOf_length _ _ _
theorem spots_le (s : ByteArray) : (spots s).length ≤ s.size := by
  have := runesL_length (s := s) s.size 0 (by omega)
  rw [spots_length]; omega
theorem n28_eq {s : ByteArray} (hs : s.size ≤ 1048576) : n28 s = some ((spots s).map encS, (spots s).map encC) := by
  have hl := spots_le s
  show (ask (([0, 0, 0, 0] : List Nat) = [0, 0, ([] : List D).length, ([] : List D).length]) ((n83 (W28_0 ()) s (Sum.inl (([] : List D), ([] : List D), 0, 0), ())).bind fun p11 => match p11.2.1 with | .inl z12 => (some ((z12.1), (z12.2.1))) | .inr o13 => nomatch o13)) = _
  rw [ask_of (show ([0, 0, 0, 0] : List Nat) = [0, 0, ([] : List D).length, ([] : List D).length] from rfl), n83_eq _ hs]
  have := run28 0 0 (spots s) [] [] (by simp; omega) (by simp; omega)
  rw [show (([] : List Sp).map encS) = [] from rfl, show (([] : List Sp).map encC) = [] from rfl] at this
  rw [this]
  rfl
end Ev
