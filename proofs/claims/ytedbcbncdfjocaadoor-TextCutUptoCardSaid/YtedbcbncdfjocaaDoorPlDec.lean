/- Plain law: TextDecimals. -/
import Derived.Test.YtedbcbncdfjocaaDoorPlC
import Derived.Lib.ParseIntBTie
import Derived.Lib.ParseIntBCases
set_option linter.unusedSimpArgs false
set_option linter.unusedVariables false
namespace Ev
open Go
theorem alive_true : n32 () = some true := by kernel_rfl

abbrev isDig (c : UInt8) : Prop := 48 ≤ c.toNat ∧ c.toNat ≤ 57
def dv (c : UInt8) : Nat := c.toNat - 48
theorem dv_eq (c : UInt8) : dv c = c.toNat - 48 := by unfold dv; rfl
def stD (a : Nat) (c : UInt8) : Nat := a * 10 + dv c
def valD (acc : Nat) (l : List UInt8) : Nat := l.foldl stD acc
theorem valD_nil (acc : Nat) : valD acc [] = acc := rfl
theorem valD_cons (acc : Nat) (c : UInt8) (r : List UInt8) : valD acc (c :: r) = valD (acc * 10 + (c.toNat - 48)) r := by
  rw [← dv_eq]
  show List.foldl stD acc (c :: r) = List.foldl stD (stD acc c) r
  exact List.foldl_cons ..
theorem valD_append (l r : List UInt8) (acc : Nat) : valD acc (l ++ r) = valD (valD acc l) r := List.foldl_append
theorem ofn {n : Nat} (h : n < 256) : (UInt8.ofNat n).toNat = n := by rw [UInt8.toNat_ofNat']; omega
theorem valD_ge : ∀ (l : List UInt8) (acc : Nat), acc ≤ valD acc l := by
  intro l
  induction l with
  | nil => intro acc; exact Nat.le_refl _
  | cons c r ih =>
    intro acc
    have := ih (acc * 10 + (c.toNat - 48))
    rw [valD_cons]; omega
theorem dec_digs (u : Nat) : ∀ c ∈ Lib.decDigits u, isDig c := by
  induction u using Nat.strongRecOn with
  | _ u ih =>
    intro c hc
    by_cases hu : u < 10
    · rw [Lib.decDigits_one hu] at hc
      rw [List.mem_singleton] at hc
      subst hc
      have : (UInt8.ofNat (48 + u)).toNat = 48 + u := ofn (by omega)
      omega
    · rw [Lib.decDigits, dif_neg hu] at hc
      rcases List.mem_append.1 hc with h | h
      · exact ih (u / 10) (by omega) c h
      · rw [List.mem_singleton] at h
        subst h
        have : (UInt8.ofNat (48 + u % 10)).toNat = 48 + u % 10 := ofn (by omega)
        omega
theorem dec_val (u : Nat) : valD 0 (Lib.decDigits u) = u := by
  induction u using Nat.strongRecOn with
  | _ u ih =>
    by_cases hu : u < 10
    · rw [Lib.decDigits_one hu]
      have : (UInt8.ofNat (48 + u)).toNat = 48 + u := ofn (by omega)
      rw [valD_cons, valD_nil, this]; omega
    · rw [Lib.decDigits, dif_neg hu, valD_append, ih (u / 10) (by omega)]
      have : (UInt8.ofNat (48 + u % 10)).toNat = 48 + u % 10 := ofn (by omega)
      rw [valD_cons, valD_nil, this]; omega
theorem dec_ne (u : Nat) : Lib.decDigits u ≠ [] := by
  intro h
  have := congrArg List.length h
  rw [Lib.decDigits_length] at this
  unfold Lib.nDigits at this
  split at this <;> simp at this
theorem parseM : ∀ (l : List UInt8) (acc : Nat), (∀ c ∈ l, isDig c) → valD acc l ≤ 18446744073709551615 → Lib.parseUintM (2 ^ 64 - 1) acc l = .ok (valD acc l)
  | [], acc, _, _ => rfl
  | c :: r, acc, hd, hv => by
    have h0 := hd c (by simp)
    rw [valD_cons] at hv ⊢
    have hv' := hv
    have h1 := valD_ge r (acc * 10 + (c.toNat - 48))
    rw [Lib.parseUintM, if_pos h0, if_neg (by omega), if_neg (by omega), parseM r _ (fun x hx => hd x (by simp [hx])) hv']
theorem parse_itoa {v : Int} (h0 : -9223372036854775808 ≤ v) (h1 : v ≤ 9223372036854775807) : Lib.parseIntB 64 (Lib.itoa v) = .ok v := by
  unfold Lib.itoa
  by_cases hv : v < 0
  · rw [if_pos hv]
    have hp := parseM (Lib.decDigits v.natAbs) 0 (dec_digs _) (by rw [dec_val]; omega)
    rw [dec_val] at hp
    have h45 : (45 : UInt8).toNat = 45 := rfl
    simp only [Lib.parseIntB, h45, Lib.parseUintB, if_neg (dec_ne v.natAbs), hp, or_true, if_true, not_true_eq_false, false_and, if_false, true_and]
    rw [if_neg (by omega)]
    congr 1; omega
  · rw [if_neg hv]
    have hp := parseM (Lib.decDigits v.toNat) 0 (dec_digs _) (by rw [dec_val]; omega)
    rw [dec_val] at hp
    cases hl : Lib.decDigits v.toNat with
    | nil => exact (dec_ne _ hl).elim
    | cons c r =>
      have hc : isDig c := dec_digs v.toNat c (by rw [hl]; simp)
      rw [hl] at hp
      rw [Lib.parseIntB_plain 64 c r (by omega) (by omega)]
      simp only [Lib.parseUintB, reduceCtorEq, if_false, hp, Lib.signlessC]
      rw [if_neg (by omega)]
      congr 1; omega

theorem sEq_iff (a b : ByteArray) : sEq a b = true ↔ a = b := by
  unfold sEq
  rw [beq_iff_eq]
  constructor
  · intro h
    have : a.data.toList = b.data.toList := by
      have e : ∀ x : ByteArray, x.toList = x.data.toList := fun x => by simp [ByteArray.toList_eq]
      rw [e, e] at h
      exact h
    exact ByteArray.ext (Array.toList_inj.1 this)
  · intro h; rw [h]

theorem w64_range (x : Int) : -9223372036854775808 ≤ w64 x ∧ w64 x ≤ 9223372036854775807 := by
  simp only [w64, IntKind.wrap, IntKind.signed, IntKind.bits]
  simp
  omega
abbrev i64 (v : Int) : Prop := -9223372036854775808 ≤ v ∧ v ≤ 9223372036854775807
/-- A text that is a number's. -/
abbrev IsNum (s : ByteArray) (v : Int) : Prop := i64 v ∧ s = ⟨(Lib.itoa v).toArray⟩
theorem toList_mk (l : List UInt8) : (⟨l.toArray⟩ : ByteArray).data.toList = l := by simp
theorem size_mk (l : List UInt8) : (⟨l.toArray⟩ : ByteArray).size = l.length := rfl
theorem drop_get {l : List UInt8} {k : Nat} {c : UInt8} {r : List UInt8} (h : l.drop k = c :: r) : l[k]? = some c ∧ l.drop (k + 1) = r := by
  have h1 : (l.drop k)[0]? = some c := by rw [h]; rfl
  have h2 : (l.drop k).drop 1 = r := by rw [h]; rfl
  rw [List.getElem?_drop] at h1
  rw [List.drop_drop] at h2
  exact ⟨h1, h2⟩
theorem get_list (s : ByteArray) (k : Nat) : s[k]? = s.data.toList[k]? := by
  rw [Array.getElem?_toList]
  by_cases h : k < s.size
  · rw [getElem?_pos s k h, Array.getElem?_eq_getElem h]; rfl
  · rw [getElem?_neg s k h, Array.getElem?_eq_none (by simpa using h)]
theorem size_list (s : ByteArray) : s.size = s.data.toList.length := by simp
theorem L43_step (s : ByteArray) (f acc : Int) (k n : Nat) : L43_0 (n + 1) (s, f, acc, (k : Int)) () = (bif (decide ((k : Int) < (s.size : Int))) then ((sidx s k).bind fun c8 => (bif (decide ((c8.toNat : Int) < 48)) then (some (O43_0.x0 0 22, ())) else ((sidx s k).bind fun c11 => (bif (decide ((c11.toNat : Int) > 57)) then (some (O43_0.x0 0 22, ())) else ((sidx s k).bind fun c12 => (L43_0 n (s, f, (wu64 ((wu64 (10 * acc)) + (wu64 (wu8 ((c12.toNat : Int) - 48))))), (w64 ((k : Int) + 1))) ())))))) else (some (O43_0.x1 s f acc, ()))) := rfl
theorem L43 (s : ByteArray) (f : Int) (hs : s.size ≤ 1048576) : ∀ (rest : List UInt8) (n k acc : Nat), s.data.toList.drop k = rest → rest.length < n → (∀ c ∈ rest, isDig c) → valD acc rest < 18446744073709551616 → L43_0 n (s, f, (acc : Int), (k : Int)) () = some (O43_0.x1 s f ((valD acc rest : Nat) : Int), ()) := by
  intro rest
  induction rest with
  | nil =>
    intro n k acc hd hn _ _
    obtain ⟨m, rfl⟩ : ∃ m, n = m + 1 := ⟨n - 1, by simp at hn; omega⟩
    have hk : s.size ≤ k := by rw [size_list]; exact List.drop_eq_nil_iff.1 hd
    rw [L43_step, decide_eq_false (by omega), cond_false, valD_nil]
  | cons c r ih =>
    intro n k acc hd hn hdig hv
    obtain ⟨m, rfl⟩ : ∃ m, n = m + 1 := ⟨n - 1, by simp at hn; omega⟩
    obtain ⟨h1, h2⟩ := drop_get hd
    have hk : k < s.size := by rw [size_list]; exact (List.getElem?_eq_some_iff.1 h1).1
    have hc := hdig c (by simp)
    have hsx : sidx s (k : Int) = some c := by rw [sidx_nat, get_list, h1]
    rw [valD_cons] at hv ⊢
    have hge := valD_ge r (acc * 10 + (c.toNat - 48))
    have e1 : wu8 ((c.toNat : Int) - 48) = ((c.toNat - 48 : Nat) : Int) := by rw [wu8_id (by omega) (by omega)]; omega
    have e2 : wu64 (10 * (acc : Int)) = ((acc * 10 : Nat) : Int) := by rw [wu64_id (by omega) (by omega)]; omega
    have e3 : wu64 (((c.toNat - 48 : Nat) : Int)) = ((c.toNat - 48 : Nat) : Int) := wu64_id (by omega) (by omega)
    have e4 : wu64 (((acc * 10 : Nat) : Int) + ((c.toNat - 48 : Nat) : Int)) = ((acc * 10 + (c.toNat - 48) : Nat) : Int) := by rw [wu64_id (by omega) (by omega)]; omega
    have e5 : w64 ((k : Int) + 1) = ((k + 1 : Nat) : Int) := by rw [w64_id (by omega) (by omega)]; omega
    rw [L43_step, decide_eq_true (by omega), cond_true, hsx, Option.bind_some, decide_eq_false (by omega), cond_false, Option.bind_some, decide_eq_false (by omega), cond_false, Option.bind_some, e1, e2, e3, e4, e5]
    exact ih m (k + 1) _ h2 (by simp at hn; omega) (fun x hx => hdig x (by simp [hx])) hv
theorem L43tot (s : ByteArray) (f : Int) (hs : s.size ≤ 1048576) : ∀ (d n k : Nat) (acc : Int), s.size - k = d → d < n → ∃ o, L43_0 n (s, f, acc, (k : Int)) () = some (o, ()) ∧ (o = O43_0.x0 0 22 ∨ ∃ z, o = O43_0.x1 s f z) := by
  intro d
  induction d with
  | zero =>
    intro n k acc hd hn
    obtain ⟨m, rfl⟩ : ∃ m, n = m + 1 := ⟨n - 1, by omega⟩
    rw [L43_step, decide_eq_false (by omega), cond_false]
    exact ⟨_, rfl, .inr ⟨_, rfl⟩⟩
  | succ d ih =>
    intro n k acc hd hn
    obtain ⟨m, rfl⟩ : ∃ m, n = m + 1 := ⟨n - 1, by omega⟩
    obtain ⟨c, hc⟩ : ∃ c, s[k]? = some c := ⟨s[k]'(by omega), getElem?_pos s k (by omega)⟩
    have hsx : sidx s (k : Int) = some c := by rw [sidx_nat, hc]
    have e5 : w64 ((k : Int) + 1) = ((k + 1 : Nat) : Int) := by rw [w64_id (by omega) (by omega)]; omega
    rw [L43_step, decide_eq_true (by omega), cond_true, hsx, Option.bind_some, Option.bind_some, Option.bind_some, e5]
    cases decide ((c.toNat : Int) < 48) with
    | true => exact ⟨_, rfl, .inl rfl⟩
    | false =>
      cases decide ((c.toNat : Int) > 57) with
      | true => exact ⟨_, rfl, .inl rfl⟩
      | false => exact ih m (k + 1) _ (by omega) (by omega)

/-- What is made of the loop's number. -/
def fin43 (f z : Int) (s : ByteArray) : Option (Int × Int) := bif (f == 1) then ((n45 (w64 (0 - (w64 z)))).bind fun y => (bif (!(sEq y s)) then (some (0, 22)) else (some ((w64 (0 - (w64 z))), 0)))) else ((n45 (w64 z)).bind fun y => (bif (!(sEq y s)) then (some (0, 22)) else (some ((w64 z), 0))))
def run43 (s : ByteArray) (f k : Int) : Option (Int × Int) := (L43_0 1000000000000 (s, f, 0, k) ()).bind fun p => match p.1 with | .x0 a b => some (a, b) | .x1 z1 z2 z3 => fin43 z2 z3 z1
theorem n43_eq (s : ByteArray) : n43 s = bif (decide ((s.size : Int) > 0)) then ((sidx s 0).bind fun c3 => (bif ((c3.toNat : Int) == 45) then (bif (bif ((s.size : Int) == 1) then true else (decide ((s.size : Int) > 20))) then (some (0, 22)) else run43 s 1 1) else (bif (bif ((s.size : Int) == 0) then true else (decide ((s.size : Int) > 19))) then (some (0, 22)) else run43 s 0 0))) else (bif (bif ((s.size : Int) == 0) then true else (decide ((s.size : Int) > 19))) then (some (0, 22)) else run43 s 0 0) := rfl
theorem fin43_or (f z : Int) (s : ByteArray) : fin43 f z s = some (0, 22) ∨ ∃ v, IsNum s v ∧ fin43 f z s = some (v, 0) := by
  have key : ∀ v, i64 v → ((n45 v).bind fun y => (bif (!(sEq y s)) then (some (0, 22) : Option (Int × Int)) else (some (v, 0)))) = some (0, 22) ∨ ∃ u, IsNum s u ∧ ((n45 v).bind fun y => (bif (!(sEq y s)) then (some (0, 22) : Option (Int × Int)) else (some (v, 0)))) = some (u, 0) := by
    intro v hv
    rw [decimal_ref hv.1 hv.2, Option.bind_some]
    cases he : sEq ⟨(Lib.itoa v).toArray⟩ s with
    | false => left; rfl
    | true => exact .inr ⟨v, ⟨hv, ((sEq_iff _ _).1 he).symm⟩, rfl⟩
  unfold fin43
  cases (f == 1) with
  | true => exact key (w64 (0 - w64 z)) (w64_range _)
  | false => exact key (w64 z) (w64_range _)
theorem run43_or (s : ByteArray) (hs : s.size ≤ 1048576) (f : Int) (k : Nat) : run43 s f k = some (0, 22) ∨ ∃ v, IsNum s v ∧ run43 s f k = some (v, 0) := by
  obtain ⟨o, h1, h2⟩ := L43tot s f hs (s.size - k) 1000000000000 k 0 rfl (by omega)
  unfold run43
  rw [h1, Option.bind_some]
  rcases h2 with rfl | ⟨z, rfl⟩
  · left; rfl
  · exact fin43_or f z s
theorem n43_or (s : ByteArray) (hs : s.size ≤ 1048576) : n43 s = some (0, 22) ∨ ∃ v, IsNum s v ∧ n43 s = some (v, 0) := by
  rw [n43_eq]
  have k0 := run43_or s hs 0 0
  have k1 := run43_or s hs 1 1
  have key : ∀ (b : Bool) (x : Option (Int × Int)), (x = some (0, 22) ∨ ∃ v, IsNum s v ∧ x = some (v, 0)) → ((bif b then some (0, 22) else x) = some (0, 22) ∨ ∃ v, IsNum s v ∧ (bif b then some (0, 22) else x) = some (v, 0)) := by
    intro b x h
    cases b with
    | true => left; rfl
    | false => exact h
  cases hd : decide ((s.size : Int) > 0) with
  | false => exact key _ _ k0
  | true =>
    have hp : 0 < s.size := by have := of_decide_eq_true hd; omega
    obtain ⟨c, hc⟩ : ∃ c, s[0]? = some c := ⟨s[0], getElem?_pos s 0 hp⟩
    have hsx : sidx s 0 = some c := by have := sidx_nat s 0; rw [hc] at this; exact this
    rw [cond_true, hsx, Option.bind_some]
    cases ((c.toNat : Int) == 45) with
    | true => exact key _ _ k1
    | false => exact key _ _ k0
theorem dec_len {u : Nat} (h : u ≤ 9223372036854775808) : (Lib.decDigits u).length ≤ 19 := by
  rw [Lib.decDigits_length]; exact nDigits_le 19 u (by omega) (by omega)
/-- The reference's Number of a number's text. -/
theorem n43_num {v : Int} (hv : i64 v) : n43 ⟨(Lib.itoa v).toArray⟩ = some (v, 0) := by
  rw [n43_eq]
  have h45 := decimal_ref hv.1 hv.2
  by_cases hn : v < 0
  · have hi : Lib.itoa v = 45 :: Lib.decDigits v.natAbs := by unfold Lib.itoa; rw [if_pos hn]
    have hlen := dec_len (u := v.natAbs) (by omega)
    have hpos : 0 < (Lib.decDigits v.natAbs).length := List.length_pos_iff.2 (dec_ne _)
    have hsz : (⟨(Lib.itoa v).toArray⟩ : ByteArray).size = (Lib.decDigits v.natAbs).length + 1 := by rw [size_mk, hi]; rfl
    have hsx : sidx ⟨(Lib.itoa v).toArray⟩ 0 = some 45 := by
      have := sidx_nat ⟨(Lib.itoa v).toArray⟩ 0
      rw [get_list, toList_mk] at this
      exact this.trans (by rw [hi]; rfl)
    have hr : run43 ⟨(Lib.itoa v).toArray⟩ 1 1 = some (v, 0) := by
      unfold run43
      have := L43 ⟨(Lib.itoa v).toArray⟩ 1 (by rw [hsz]; omega) (Lib.decDigits v.natAbs) 1000000000000 1 0 (by rw [toList_mk, hi]; rfl) (by omega) (dec_digs _) (by rw [dec_val]; omega)
      rw [dec_val] at this
      rw [show ((0 : Nat) : Int) = 0 from rfl, show ((1 : Nat) : Int) = 1 from rfl] at this
      rw [this, Option.bind_some]
      have e : w64 (0 - w64 ((v.natAbs : Nat) : Int)) = v := by
        by_cases hm : v.natAbs = 9223372036854775808
        · have : v = -9223372036854775808 := by omega
          subst this; decide +kernel
        · rw [w64_id (n := ((v.natAbs : Nat) : Int)) (by omega) (by omega), w64_id (by omega) (by omega)]; omega
      show fin43 1 _ _ = _
      unfold fin43
      rw [show ((1 : Int) == 1) = true from rfl, cond_true, e, h45, Option.bind_some, (sEq_iff _ _).2 rfl]
      rfl
    rw [hsz, decide_eq_true (by omega), cond_true, hsx, Option.bind_some, show (((45 : UInt8).toNat : Int) == 45) = true from rfl, cond_true]
    have b1 : (((((Lib.decDigits v.natAbs).length + 1 : Nat) : Int)) == 1) = false := by rw [beq_eq_false_iff_ne]; omega
    rw [b1, cond_false, decide_eq_false (by omega), cond_false, hr]
  · have hi : Lib.itoa v = Lib.decDigits v.toNat := by unfold Lib.itoa; rw [if_neg hn]
    have hlen := dec_len (u := v.toNat) (by omega)
    have hpos : 0 < (Lib.decDigits v.toNat).length := List.length_pos_iff.2 (dec_ne _)
    have hsz : (⟨(Lib.itoa v).toArray⟩ : ByteArray).size = (Lib.decDigits v.toNat).length := by rw [size_mk, hi]
    have hr : run43 ⟨(Lib.itoa v).toArray⟩ 0 0 = some (v, 0) := by
      unfold run43
      have := L43 ⟨(Lib.itoa v).toArray⟩ 0 (by rw [hsz]; omega) (Lib.decDigits v.toNat) 1000000000000 0 0 (by rw [toList_mk, hi]; rfl) (by omega) (dec_digs _) (by rw [dec_val]; omega)
      rw [dec_val] at this
      rw [show ((0 : Nat) : Int) = 0 from rfl] at this
      rw [this, Option.bind_some]
      have e : w64 ((v.toNat : Nat) : Int) = v := by rw [w64_id (by omega) (by omega)]; omega
      show fin43 0 _ _ = _
      unfold fin43
      rw [show ((0 : Int) == 1) = false from rfl, cond_false, e, h45, Option.bind_some, (sEq_iff _ _).2 rfl]
      rfl
    obtain ⟨c, r, hl⟩ : ∃ c r, Lib.decDigits v.toNat = c :: r := by
      cases h : Lib.decDigits v.toNat with
      | nil => exact (dec_ne _ h).elim
      | cons c r => exact ⟨c, r, rfl⟩
    have hsx : sidx ⟨(Lib.itoa v).toArray⟩ 0 = some c := by
      have := sidx_nat ⟨(Lib.itoa v).toArray⟩ 0
      rw [get_list, toList_mk] at this
      exact this.trans (by rw [hi, hl]; rfl)
    have hc := dec_digs v.toNat c (by rw [hl]; simp)
    have b0 : ((c.toNat : Int) == 45) = false := by rw [beq_eq_false_iff_ne]; omega
    have b1 : ((((Lib.decDigits v.toNat).length : Nat) : Int) == 0) = false := by rw [beq_eq_false_iff_ne]; omega
    rw [hsz, decide_eq_true (by omega), cond_true, hsx, Option.bind_some, b0, cond_false, b1, cond_false, decide_eq_false (by omega), cond_false, hr]

theorem n42_num {v : Int} (hv : i64 v) : n42 ⟨(Lib.itoa v).toArray⟩ = some (v, 0) := by
  have hsz : (⟨(Lib.itoa v).toArray⟩ : ByteArray).size ≤ 281474976710656 := by
    rw [size_mk]
    unfold Lib.itoa
    split
    · have := dec_len (u := v.natAbs) (by omega)
      simp; omega
    · have := dec_len (u := v.toNat) (by omega)
      omega
  show ((ask ((10 : Int) = 10 ∧ (64 : Int) = 64 ∧ parOk ⟨(Lib.itoa v).toArray⟩) (some (parse64 ⟨(Lib.itoa v).toArray⟩))).bind fun y3 => (bif y3.2 then (some (0, 22)) else ((n44 y3.1).bind fun y4 => (bif (!(sEq y4 ⟨(Lib.itoa v).toArray⟩)) then (some (0, 22)) else (some (y3.1, 0)))))) = _
  rw [ask_of ⟨rfl, rfl, Nat.ble_eq_true_of_le hsz⟩, Option.bind_some]
  have e : parse64 ⟨(Lib.itoa v).toArray⟩ = (v, false) := by
    unfold parse64
    rw [toList_mk, parse_itoa hv.1 hv.2]
  rw [e]
  show (n44 v).bind _ = _
  rw [decimal_prog hv.1 hv.2, Option.bind_some, (sEq_iff _ _).2 rfl]
  rfl
theorem n42_or (s : ByteArray) (hs : s.size ≤ 1048576) : n42 s = some (0, 22) ∨ ∃ v, IsNum s v ∧ n42 s = some (v, 0) := by
  show ((ask ((10 : Int) = 10 ∧ (64 : Int) = 64 ∧ parOk s) (some (parse64 s))).bind fun y3 => (bif y3.2 then (some (0, 22)) else ((n44 y3.1).bind fun y4 => (bif (!(sEq y4 s)) then (some (0, 22)) else (some (y3.1, 0)))))) = _ ∨ _
  have h42 : n42 s = ((ask ((10 : Int) = 10 ∧ (64 : Int) = 64 ∧ parOk s) (some (parse64 s))).bind fun y3 => (bif y3.2 then (some (0, 22)) else ((n44 y3.1).bind fun y4 => (bif (!(sEq y4 s)) then (some (0, 22)) else (some (y3.1, 0)))))) := rfl
  rw [h42, ask_of ⟨rfl, rfl, Nat.ble_eq_true_of_le (by omega)⟩, Option.bind_some]
  unfold parse64
  rcases hp : Lib.parseIntB 64 s.data.toList with v | _ | _
  ·
    have hb := Lib.parseIntB_bounds hp
    have hv : i64 v := ⟨by have := hb.1; simpa using this, by have := hb.2; simp at this; omega⟩
    show (n44 v).bind _ = _ ∨ ∃ u, _ ∧ (n44 v).bind _ = _
    rw [decimal_prog hv.1 hv.2, Option.bind_some]
    cases he : sEq ⟨(Lib.itoa v).toArray⟩ s with
    | false => left; rfl
    | true => exact .inr ⟨v, ⟨hv, ((sEq_iff _ _).1 he).symm⟩, rfl⟩
  · left; rfl
  · left; rfl
/-- Both read the same numbers. -/
theorem number_eq (s : ByteArray) (hs : s.size ≤ 1048576) : ∃ v e, n42 s = some (v, e) ∧ n43 s = some (v, e) := by
  rcases n42_or s hs with h | ⟨v, ⟨hv, rfl⟩, _⟩
  · rcases n43_or s hs with k | ⟨v, ⟨hv, rfl⟩, _⟩
    · exact ⟨0, 22, h, k⟩
    · exact ⟨v, 0, n42_num hv, n43_num hv⟩
  · exact ⟨v, 0, n42_num hv, n43_num hv⟩
theorem wf_i64 {a : Int} (w : (Lit.int .i64 a).wf = true) : i64 a := by
  simp [Lit.wf, IntKind.min, IntKind.max, IntKind.signed, IntKind.bits] at w
  omega
theorem plain12 (a0 : Int) (a1 : ByteArray) (h : a1.size ≤ 1048576) (w : (Lit.int .i64 a0).wf = true) : n12 (a0, a1) = some true := by
  have hv := wf_i64 w
  obtain ⟨v, e, h1, h2⟩ := number_eq a1 h
  have b : ∀ x : Int, (x == x) = true := fun x => beq_iff_eq.2 rfl
  simp only [n12, h1, h2, Option.bind_some, decimal_prog hv.1 hv.2, decimal_ref hv.1 hv.2, n42_num hv, b, cond_true, n39, (sEq_iff _ _).2 rfl, alive_true, beq_self_eq_true]
end Ev
