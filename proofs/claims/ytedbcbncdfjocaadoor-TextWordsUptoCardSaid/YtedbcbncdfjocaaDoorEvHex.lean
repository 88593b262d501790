/- What functions of the program compute, as plain Lean functions, each with its proof by the reader (EvHex); printed by a tool of this work. -/
import Derived.Test.YtedbcbncdfjocaaDoorEvLib
import Derived.Test.YtedbcbncdfjocaaDoorChecked
set_option linter.unusedSimpArgs false
set_option linter.unusedVariables false
set_option maxRecDepth 100000
namespace Ev
open Go Go.Proofs Go.RowKit
variable {glob : Nat → Option (List D)}
def tabs2 (gl : Nat → Option (List D)) : Tabs := ⟨[(114, [(58, [13]), (57, []), (56, [9, 12, 13]), (55, [1, 8, 9, 10, 11, 12, 13, 99, 100, 101]), (54, [1, 8, 9, 10, 11, 12, 17, 99, 100, 101]), (53, [11]), (52, [1, 8, 9, 10, 11, 12, 13, 17, 99, 100, 101]), (51, [1, 8, 9, 10, 11, 12, 13, 16, 99, 100, 101]), (50, [1, 8, 9, 10, 11, 12, 13, 16, 99, 100, 101]), (49, [11]), (48, [1, 8, 9, 10, 11, 12, 13, 16, 99, 100, 101]), (47, []), (46, [1, 8, 9, 10, 11, 12, 13, 16, 99, 100, 101]), (41, [1, 8, 9, 10, 11, 13, 99, 100, 101]), (43, [1, 8, 9, 10, 11, 12, 13, 15, 99, 100, 101]), (45, [1, 8, 9, 10, 11, 12, 13, 15, 99, 100, 101]), (39, []), (44, [1, 8, 9, 10, 11, 12, 13, 15, 99, 100, 101]), (42, [1, 8, 9, 10, 11, 12, 13, 15, 99, 100, 101]), (40, [1, 8, 9, 10, 11, 12, 13, 15, 99, 100, 101]), (38, [1, 8, 9, 10, 11, 12, 13, 15, 99, 100, 101]), (37, [1, 8, 9, 10, 11, 12, 13, 99, 100, 101]), (36, [1, 8, 9, 10, 11, 12, 13, 99, 100, 101]), (35, [0, 1, 8, 9, 10, 11, 12, 13]), (34, [0, 1, 8, 9, 10, 11, 12]), (33, [0, 1, 8, 9, 10, 11]), (32, [0, 1, 2, 8, 9, 10]), (29, [0, 1, 2, 8, 9]), (31, [0, 1, 2, 8, 9]), (27, [0, 1, 2, 8, 9]), (30, [0, 1, 2, 8, 9, 85]), (28, [0, 1, 2, 8, 9, 85]), (26, [0, 1, 2, 8, 9]), (25, [0, 1, 2, 8, 9]), (22, [0, 1, 8, 9]), (24, []), (23, [0, 1, 2, 8, 9]), (21, [0, 1, 2, 8, 9]), (14, [0, 1, 2, 8, 9]), (13, [0, 2, 8, 9]), (17, [0, 1, 2, 8, 9]), (16, [0, 2, 8, 9]), (20, [0, 1, 2, 8, 9]), (19, [0, 2, 8, 9]), (11, [0, 1, 2, 8, 9]), (10, [0, 2, 8, 9]), (18, [0, 2, 8, 9]), (15, [0, 2, 8, 9]), (12, [0, 2, 8, 9]), (9, [0, 1, 2, 8, 9]), (8, [0, 2, 8, 9]), (5, []), (7, [0, 1, 2, 8, 9]), (6, [0, 1, 2, 8, 9]), (4, [0, 1, 2, 8]), (3, [0, 1, 2]), (2, []), (1, [0, 1, 2]), (0, [0, 1, 2])])],
  [(114, [(3, [6, 7, 9, 12, 13]), (4, [1, 6, 7, 8, 9, 10, 11, 12, 13, 99, 100, 101]), (5, [1, 6, 7, 8, 9, 10, 11, 12, 13, 16, 99, 100, 101]), (2, [0, 1, 2, 8, 9, 10]), (0, [0, 1, 2, 6, 7, 8, 9]), (1, [0, 1, 2, 8, 9])])],
  [], [(114, [(42, [3]), (52, [4])])], [], [132], gl, fun _ => none, []⟩
noncomputable abbrev c114 (gl : Nat → Option (List D)) : Cfg := cfgOf Tryd.prog (tabs2 gl) []
def d114 (ds : List D) : Option (ByteArray × Int × Int) := match ds with
  | [.val (.string s), .val (.int .i64 b), .val (.int .i64 z)] => some (s, b, z)
  | _ => none
noncomputable def n114 (gl : Nat → Option (List D)) (a : ByteArray × Int × Int) : Option PR := bodyK (c114 gl) (toldOf []) noY (inlN (c114 gl) (toldOf []) noY) (fun _ => none) 114 Tryd.f114 (((fun (s, b, z) => [.val (.string s), .val (.int .i64 b), .val (.int .i64 z)] : ByteArray × Int × Int → List D) a).map .d) [] [] () (fun v _ _ _ => toPR v)
theorem spec114 (gl : Nat → Option (List D)) : SpecOk Tryd.prog gl 114 (fun ds => mkE d114 (n114 gl) id ds some) :=
  spec_of_body (C := c114 gl) (T := toldOf []) (tab := []) TabOk.nil Tryd.checked.mixed OddSound.none rfl (fun _ => rfl) (N := 9) (by omega) Tryd.func114 (by kernel_rfl) (inlN_ok (C := c114 gl) TabOk.nil rfl (fun _ => rfl) (N := 0) (fun n _ => noMeth (fun _ => rfl))) (code := bodyOf Tryd.f114) (by kernel_rfl) (segsOk_nil _)
    (args := fun (s, b, z) => [.val (.string s), .val (.int .i64 b), .val (.int .i64 z)]) (res := toPR)
    (fun ds a h => by
      unfold d114 at h
      split at h
      · cases h; rfl
      · cases h)
    (fun v r h => h) (fun a => rfl)
abbrev hErr : Option PR := some (.many [.val (.int .u64 0), .val (.iface 165 (.int .i64 2))])
abbrev hRng : Option PR := some (.many [.val (.int .u64 255), .val (.iface 165 (.int .i64 1))])
def hDig (c : UInt8) (K : Int → Option PR) : Option PR :=
  bif ((c.toNat : Int) == 95) then (bif (bif (decide (48 ≤ (c.toNat : Int))) then (decide ((c.toNat : Int) ≤ 57)) else false) then K (wu8 ((c.toNat : Int) - 48)) else (bif (decide (97 ≤ (bOr .u8 (c.toNat : Int) 32))) then (bif (decide ((bOr .u8 (c.toNat : Int) 32) ≤ 122)) then K (wu8 ((wu8 ((bOr .u8 (c.toNat : Int) 32) - 97)) + 10)) else hErr) else hErr))
  else (bif (bif (decide (48 ≤ (c.toNat : Int))) then (decide ((c.toNat : Int) ≤ 57)) else false) then K (wu8 ((c.toNat : Int) - 48)) else (bif (decide (97 ≤ (bOr .u8 (c.toNat : Int) 32))) then (bif (decide ((bOr .u8 (c.toNat : Int) 32) ≤ 122)) then K (wu8 ((wu8 ((bOr .u8 (c.toNat : Int) 32) - 97)) + 10)) else hErr) else hErr))
def hK1 (n d : Int) : Option PR := bif (decide (d ≥ 16)) then hErr else (bif (decide (n ≥ 1152921504606846976)) then hRng else (bif (bif (decide ((wu64 ((wu64 (n * 16)) + (wu64 d))) < (wu64 (n * 16)))) then true else (decide ((wu64 ((wu64 (n * 16)) + (wu64 d))) > 255))) then hRng else (some (.many [.val (.int .u64 (wu64 ((wu64 (n * 16)) + (wu64 d)))), .val .nilIface]))))
def hK0 (c1 : UInt8) (d : Int) : Option PR := bif (decide (d ≥ 16)) then hErr else (bif (bif (decide ((wu64 (0 + (wu64 d))) < 0)) then true else (decide ((wu64 (0 + (wu64 d))) > 255))) then hRng else hDig c1 (hK1 (wu64 (0 + (wu64 d)))))
theorem n114_two (gl : Nat → Option (List D)) (c0 c1 : UInt8) : n114 gl (⟨#[c0, c1]⟩, 16, 8) = hDig c0 (hK0 c1) := by kernel_rfl
def hexd (c : UInt8) : Option Nat := if 48 ≤ c.toNat ∧ c.toNat ≤ 57 then some (c.toNat - 48) else if 97 ≤ c.toNat ∧ c.toNat ≤ 102 then some (c.toNat - 87) else if 65 ≤ c.toNat ∧ c.toNat ≤ 70 then some (c.toNat - 55) else none
theorem low_fact : ∀ n : Nat, n < 256 → (65 ≤ n ∧ n ≤ 90 → bOr .u8 n 32 = n + 32) ∧ (97 ≤ n ∧ n ≤ 122 → bOr .u8 n 32 = n) ∧ (97 ≤ bOr .u8 n 32 ∧ bOr .u8 n 32 ≤ 122 → (65 ≤ n ∧ n ≤ 90) ∨ (97 ≤ n ∧ n ≤ 122)) := by decide +kernel
theorem wu8_of {x : Int} (h0 : 0 ≤ x) (h1 : x < 256) : wu8 x = x := by
  simp only [wu8, IntKind.wrap, IntKind.bits, IntKind.signed]
  have : x % 256 = x := Int.emod_eq_of_lt h0 h1
  simp [this]
theorem wu64_of {x : Int} (h0 : 0 ≤ x) (h1 : x < 18446744073709551616) : wu64 x = x := by
  simp only [wu64, IntKind.wrap, IntKind.bits, IntKind.signed]
  have : x % 18446744073709551616 = x := Int.emod_eq_of_lt h0 h1
  simp [this]
theorem hDig_eq (c : UInt8) (K : Int → Option PR) (hK : ∀ d, 16 ≤ d → K d = hErr) : hDig c K = match hexd c with | some d => K d | none => hErr := by
  have hc : c.toNat < 256 := c.toNat_lt
  obtain ⟨l1, l2, l3⟩ := low_fact c.toNat hc
  have key : (bif (bif (decide (48 ≤ (c.toNat : Int))) then (decide ((c.toNat : Int) ≤ 57)) else false) then K (wu8 ((c.toNat : Int) - 48)) else (bif (decide (97 ≤ (bOr .u8 (c.toNat : Int) 32))) then (bif (decide ((bOr .u8 (c.toNat : Int) 32) ≤ 122)) then K (wu8 ((wu8 ((bOr .u8 (c.toNat : Int) 32) - 97)) + 10)) else hErr) else hErr)) = match hexd c with | some d => K d | none => hErr := by
    generalize bOr .u8 (c.toNat : Int) 32 = L at l1 l2 l3 ⊢
    by_cases h1 : 48 ≤ c.toNat ∧ c.toNat ≤ 57
    · have e1 : hexd c = some (c.toNat - 48) := by unfold hexd; rw [if_pos h1]
      rw [e1]
      have a1 : decide (48 ≤ (c.toNat : Int)) = true := by simp; omega
      have a2 : decide ((c.toNat : Int) ≤ 57) = true := by simp; omega
      simp only [a1, a2, cond_true]
      rw [wu8_of (by omega) (by omega)]
      congr 1; omega
    · have a1 : (bif (decide (48 ≤ (c.toNat : Int))) then (decide ((c.toNat : Int) ≤ 57)) else false) = false := by
        by_cases h : 48 ≤ c.toNat
        · have : ¬ (c.toNat : Int) ≤ 57 := by omega
          simp [this]
        · have : ¬ (48 : Int) ≤ c.toNat := by omega
          simp [this]
      rw [a1, cond_false]
      by_cases h2 : 97 ≤ L ∧ L ≤ 122
      · have a2 : decide (97 ≤ L) = true := by simpa using h2.1
        have a3 : decide (L ≤ 122) = true := by simpa using h2.2
        simp only [a2, a3, cond_true]
        have hL0 : wu8 (L - 97) = L - 97 := wu8_of (by omega) (by omega)
        rw [hL0, wu8_of (by omega) (by omega)]
        rcases l3 h2 with h3 | h3
        · have := l1 h3
          by_cases h4 : c.toNat ≤ 70
          · have e1 : hexd c = some (c.toNat - 55) := by unfold hexd; rw [if_neg h1, if_neg (by omega), if_pos (by omega)]
            rw [e1]
            show K _ = K _
            congr 1; omega
          · have e1 : hexd c = none := by unfold hexd; rw [if_neg h1, if_neg (by omega), if_neg (by omega)]
            rw [e1]
            exact hK _ (by omega)
        · have := l2 h3
          by_cases h4 : c.toNat ≤ 102
          · have e1 : hexd c = some (c.toNat - 87) := by unfold hexd; rw [if_neg h1, if_pos (by omega)]
            rw [e1]
            show K _ = K _
            congr 1; omega
          · have e1 : hexd c = none := by unfold hexd; rw [if_neg h1, if_neg (by omega), if_neg (by omega)]
            rw [e1]
            exact hK _ (by omega)
      · have e1 : hexd c = none := by
          unfold hexd
          rw [if_neg h1, if_neg (fun h => h2 (by have := l2 ⟨h.1, by omega⟩; omega)), if_neg (fun h => h2 (by have := l1 ⟨h.1, by omega⟩; omega))]
        rw [e1]
        by_cases h : 97 ≤ L
        · have h5 : ¬ L ≤ 122 := fun h' => h2 ⟨h, h'⟩
          simp [h, h5]
        · simp [h]
  unfold hDig
  rw [key]
  cases ((c.toNat : Int) == 95) <;> rfl
def hexVal (c0 c1 : UInt8) : Option Nat := match hexd c0, hexd c1 with
  | some a, some b => some (16 * a + b)
  | _, _ => none
theorem hexd_lt {c : UInt8} {d : Nat} (h : hexd c = some d) : d < 16 := by
  unfold hexd at h
  split at h
  · cases h; omega
  · split at h
    · cases h; omega
    · split at h
      · cases h; omega
      · cases h
theorem two_eq (c0 c1 : UInt8) : hDig c0 (hK0 c1) = match hexVal c0 c1 with | some v => some (.many [.val (.int .u64 v), .val .nilIface]) | none => hErr := by
  rw [hDig_eq c0 _ (fun d h => by simp [hK0, h])]
  unfold hexVal
  cases h0 : hexd c0 with
  | none => rfl
  | some a =>
    have ha := hexd_lt h0
    have e0 : wu64 (a : Int) = a := wu64_of (by omega) (by omega)
    have e1 : wu64 (0 + (a : Int)) = a := by rw [Int.zero_add]; exact e0
    simp only
    have k0 : hK0 c1 (a : Int) = hDig c1 (hK1 a) := by
      unfold hK0
      rw [e0, e1]
      have a1 : ¬ ((a : Int) ≥ 16) := by omega
      have a2 : ¬ ((a : Int) < 0) := by omega
      have a3 : ¬ ((a : Int) > 255) := by omega
      simp only [a1, a2, a3, decide_false, cond_false]
    rw [k0, hDig_eq c1 _ (fun d h => by simp [hK1, h])]
    cases h1 : hexd c1 with
    | none => rfl
    | some b =>
      have hb := hexd_lt h1
      simp only
      unfold hK1
      have e2 : wu64 (b : Int) = b := wu64_of (by omega) (by omega)
      have e3 : wu64 ((a : Int) * 16) = a * 16 := wu64_of (by omega) (by omega)
      have e4 : wu64 ((a : Int) * 16 + b) = a * 16 + b := wu64_of (by omega) (by omega)
      rw [e2, e3, e4]
      have a1 : ¬ ((b : Int) ≥ 16) := by omega
      have a2 : ¬ ((a : Int) ≥ 1152921504606846976) := by omega
      have a3 : ¬ ((a : Int) * 16 + b < a * 16) := by omega
      have a4 : ¬ ((a : Int) * 16 + b > 255) := by omega
      simp only [a1, a2, a3, a4, decide_false, cond_false]
      have : (a : Int) * 16 + b = ((16 * a + b : Nat) : Int) := by omega
      rw [this]
theorem call114 (c0 c1 : UInt8) (w : World) : Calls Tryd.prog 114 #[.string ⟨#[c0, c1]⟩, .int .i64 16, .int .i64 8] w fun e w' => e = .returned (match hexVal c0 c1 with | some v => .tuple #[.int .u64 v, .nilIface] | none => .tuple #[.int .u64 0, .iface 165 (.int .i64 2)]) ∧ Below w.heap.size w w' := by
  have hro : (⟨fun _ _ => none, ⟨fun _ => none, byteT Tryd.prog⟩, fun _ => none⟩ : RO).holds w := ⟨fun _ _ _ h => (by cases h), fun _ _ h => (by cases h), fun _ _ h => (by cases h), fun _ _ h => (by cases h)⟩
  have hgl : GlobIn Tryd.prog (fun _ => none) ⟨fun _ _ => none, ⟨fun _ => none, byteT Tryd.prog⟩, fun _ => none⟩ := ⟨rfl, fun _ _ h => (by cases h)⟩
  have key : ∀ r, mkE d114 (n114 fun _ => none) id [.val (.string ⟨#[c0, c1]⟩), .val (.int .i64 16), .val (.int .i64 8)] some = some r → ∀ u, (∀ ro' x, PRel ro' r x → x = u) →
      Calls Tryd.prog 114 #[.string ⟨#[c0, c1]⟩, .int .i64 16, .int .i64 8] w fun e w' => e = .returned u ∧ Below w.heap.size w w' := by
    intro r hr u hu
    refine Calls.mono ((spec114 (fun _ => none) _ r hr).2 _ w [.string ⟨#[c0, c1]⟩, .int .i64 16, .int .i64 8] hro hgl (DArgs.ofVals (vs := [.string ⟨#[c0, c1]⟩, .int .i64 16, .int .i64 8]) (by simp [Value.oneCell']))) ?_
    rintro e w' ⟨x, ro', rfl, hx, hl⟩
    exact ⟨by rw [hu ro' x hx], hl.os, hl.tape, hl.output, hl.size, fun k hk => hl.keep k hk (fun q => q)⟩
  have hn : mkE d114 (n114 fun _ => none) id [.val (.string ⟨#[c0, c1]⟩), .val (.int .i64 16), .val (.int .i64 8)] some = hDig c0 (hK0 c1) := by
    simp only [mkE, d114, Option.bind_some, n114_two]
    cases hDig c0 (hK0 c1) <;> rfl
  rw [two_eq] at hn
  cases hv : hexVal c0 c1 with
  | some v =>
    rw [hv] at hn
    exact key _ hn _ (fun ro' x hx => by
      obtain ⟨us, rfl, h⟩ := hx
      rw [DArgs.vals (vs := [.int .u64 v, .nilIface]) h])
  | none =>
    rw [hv] at hn
    exact key _ hn _ (fun ro' x hx => by
      obtain ⟨us, rfl, h⟩ := hx
      rw [DArgs.vals (vs := [.int .u64 0, .iface 165 (.int .i64 2)]) h])
set_option maxHeartbeats 2000000 in
theorem call102_ok (c0 c1 : UInt8) (v : Nat) (hv : hexVal c0 c1 = some v) (w : World) : Calls Tryd.prog 102 #[.string ⟨#[c0, c1]⟩, .int .i64 16, .int .i64 8] w fun e w' => e = .returned (.tuple #[.int .u64 v, .nilIface]) ∧ Below w.heap.size w w' := by
  have hI := call114 c0 c1 w
  rw [hv] at hI
  clear hv
  go_enter Tryd.func102, Tryd.ntmps102
  go_wp2_with (go_at_call 114; refine hI.mono ?_)
  intro e W1 he hW
  subst he
  go_wp2
  go_ret2
  exact ⟨rfl, hW⟩
set_option maxHeartbeats 2000000 in
theorem call102_err (c0 c1 : UInt8) (hv : hexVal c0 c1 = none) (ev : Value) (w : World) (hc : w.cell? ⟨1, 0, none⟩ = some ev) (hev : ev = .nilIface ∨ ∃ te pe, ev = .iface te pe) : Calls Tryd.prog 102 #[.string ⟨#[c0, c1]⟩, .int .i64 16, .int .i64 8] w fun e w' => ∃ N, e = .returned (.tuple #[.int .u64 0, .iface 166 (.pointer (some ⟨N, 0, none⟩))]) ∧ Below w.heap.size w w' := by
  have hI := call114 c0 c1 w
  rw [hv] at hI
  clear hv
  have hG := Lib.lt_of_cell hc
  go_enter Tryd.func102, Tryd.ntmps102
  go_wp2_with (go_at_call 114; refine hI.mono ?_)
  intro e W1 he hW
  subst he
  have hc1 : W1.cell? ⟨1, 0, none⟩ = some ev := (hW.cell (show (⟨1, 0, none⟩ : Addr).block < w.heap.size from hG)).trans hc
  go_wp2_with (go_at_call 100; refine (Tryd.strconv_toError_syntax ⟨#[80, 97, 114, 115, 101, 85, 105, 110, 116]⟩ ⟨#[c0, c1]⟩ 16 8 ev _ (by simp [ByteArray.size]) ?_ hev).mono ?_)
  · exact hc1
  rintro e W2 ⟨N, rfl, h1, h2, h3⟩
  go_wp2
  go_ret2
  exact ⟨N, rfl, hW.trans (h3.mono hW.size)⟩
def d102 (ds : List D) : Option (ByteArray × Int × Int) := match ds with
  | [.val (.string s), .val (.int .i64 b), .val (.int .i64 z)] => some (s, b, z)
  | _ => none
def hexTwo (l : List UInt8) : Int × Bool := match l with
  | [c0, c1] => (match hexVal c0 c1 with | some v => ((v : Int), false) | none => (0, true))
  | _ => (0, true)
def n102 : ByteArray × Int × Int → Option (Int × Bool) := fun (s, b, z) => ask (b = 16 ∧ z = 8 ∧ s.size = 2) (some (hexTwo s.data.toList))
def e102 : PureE := fun ds k => (d102 ds).bind fun s => (n102 s).bind fun x => bif x.2 then k (.errs [.val (.int .u64 x.1)] 166) else k (.many [.val (.int .u64 x.1), .val .nilIface])
theorem e102_fair : Fair e102 := by
  intro β ds k r h
  simp only [e102] at h ⊢
  obtain ⟨s, h1, h2⟩ := bind_some h
  obtain ⟨x, h3, h4⟩ := bind_some h2
  cases hx : x.2 with
  | false =>
    rw [hx] at h4
    exact ⟨_, by simp [h1, h3, hx], h4⟩
  | true =>
    rw [hx] at h4
    exact ⟨_, by simp [h1, h3, hx], h4⟩
theorem two_bytes {s : ByteArray} (h : s.size = 2) : ∃ c0 c1, s = ⟨#[c0, c1]⟩ := by
  obtain ⟨⟨l⟩⟩ := s
  have h : l.length = 2 := h
  match l, h with
  | [c0, c1], _ => exact ⟨c0, c1, rfl⟩
theorem spec102 (hl : LibFits glob) : SpecOk Tryd.prog glob 102 (fun ds => e102 ds some) := by
  intro ds r h
  simp only [e102] at h
  obtain ⟨⟨s, b, z⟩, h1, h2⟩ := bind_some h
  obtain ⟨x, h3, h4⟩ := bind_some h2
  simp only [n102] at h3
  obtain ⟨⟨hb, hz, hs⟩, h5⟩ := ask_some h3
  clear h3
  subst hb hz
  obtain ⟨c0, c1, rfl⟩ := two_bytes hs
  cases h5
  have hds : ds = [Value.string ⟨#[c0, c1]⟩, Value.int .i64 16, Value.int .i64 8].map .val := by
    unfold d102 at h1
    split at h1
    · cases h1; rfl
    · cases h1
  subst hds
  refine ⟨fun us w => enters_run Tryd.func102 (by kernel_rfl) us w, fun ro w us hro hg ha => ?_⟩
  have := DArgs.vals ha
  subst this
  cases hv : hexVal c0 c1 with
  | some v =>
    simp only [hexTwo, hv, cond_false, Option.some.injEq] at h4
    subst h4
    refine Calls.mono (call102_ok c0 c1 v hv w) ?_
    rintro e w' ⟨rfl, hb⟩
    refine ⟨_, ro, rfl, ?_, left_below hro hb⟩
    exact ⟨[.int .u64 v, .nilIface], rfl, DArgs.ofVals (vs := [.int .u64 v, .nilIface]) (by simp [Value.oneCell'])⟩
  | none =>
    simp only [hexTwo, hv, cond_true, Option.some.injEq] at h4
    subst h4
    obtain ⟨ev, h1, h2⟩ := hl.errSyntax
    refine Calls.mono (call102_err c0 c1 hv ev w (glob_cell hro hg h1 rfl) h2) ?_
    rintro e w' ⟨N, rfl, hb⟩
    refine ⟨_, ro, rfl, ?_, left_below hro hb⟩
    exact ⟨[.int .u64 0], _, rfl, DArgs.ofVals (vs := [.int .u64 0]) (by simp [Value.oneCell'])⟩
theorem libAll (hl : LibFits glob) : TabOk Tryd.prog glob [(102, e102), (107, e107), (86, e86), (82, e82), (73, e73), (74, e74)] := (libOk hl).cons e102_fair (spec102 hl)
end Ev
