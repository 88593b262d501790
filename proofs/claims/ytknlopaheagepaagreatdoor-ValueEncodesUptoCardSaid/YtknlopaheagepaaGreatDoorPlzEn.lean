/- What functions of the program compute, as plain Lean functions, each with its proof by a proved reader; plain laws about them (PlzEn). -/
import Derived.Test.YtknlopaheagepaaGreatDoorPlzO
import Derived.Test.YtknlopaheagepaaGreatDoorPlzArg
set_option linter.unusedSimpArgs false
set_option linter.unusedVariables false
namespace Ev
open Go
theorem app_assoc (a b c : ByteArray) : (a ++ b) ++ c = a ++ (b ++ c) := by apply ByteArray.ext; simp
theorem app_size (a b : ByteArray) : (a ++ b).size = a.size + b.size := by simp
theorem app_no (a : ByteArray) : a ++ noT = a := by apply ByteArray.ext; simp
theorem no_app (a : ByteArray) : noT ++ a = a := by apply ByteArray.ext; simp
theorem addB {n : Nat} {a b : ByteArray} (hn : n = a.size) (h : a.size + b.size ≤ 1099511627776) : addBOk n a b 1 := ⟨hn, by unfold maxBytes; omega⟩
end Ev
namespace Ev
open Go
theorem okL_all : ∀ {l : List V}, V.okL l → ∀ v ∈ l, v.ok
  | [], _, v, hv => by cases hv
  | x :: l, h, v, hv => by
    rw [V.okL] at h
    rcases List.mem_cons.1 hv with rfl | hv
    · exact h.1
    · exact okL_all h.2 v hv
end Ev
namespace Ev
open Go
end Ev
namespace Ev
open Go
theorem wu8_range (n : Int) : 0 ≤ wu8 n ∧ wu8 n < 256 := by
  unfold wu8 IntKind.wrap
  simp only [IntKind.signed, IntKind.bits]
  constructor
  · exact Int.emod_nonneg _ (by decide)
  · exact Int.emod_lt_of_pos _ (by decide)
theorem wu8_ok (n : Int) : byteOk (wu8 n) := wu8_range n
theorem bor8_ok (x y : Int) : byteOk (bOr .u8 x y) := by
  unfold bOr
  exact wu8_range _
def b1 (n : Int) : ByteArray := bcons n ByteArray.empty
theorem b1_size (n : Int) : (b1 n).size = 1 := by
  unfold b1 bcons
  rw [app_size]
  rfl
def uLast (u : Nat) : ByteArray := b1 (wu8 (u : Int))
def uMore (u : Nat) : ByteArray := b1 (bOr .u8 (wu8 (u : Int)) 128)
def uvl : Nat → Nat → ByteArray
  | 0, _ => noT
  | k + 1, u => if u < 128 then uLast u else uMore u ++ uvl k (u / 128)
theorem uvl_size : ∀ k u, (uvl k u).size ≤ k
  | 0, u => Nat.le_refl 0
  | k + 1, u => by
    rw [uvl]
    split
    · rw [uLast, b1_size]; omega
    · rw [app_size, uMore, b1_size]
      have := uvl_size k (u / 128); omega
theorem fdiv7 (u : Nat) : (u : Int).fdiv (2 ^ (min (Int.toNat 7) 64)) = ((u / 128 : Nat) : Int) := by
  rw [show ((2 : Int) ^ (min (Int.toNat 7) 64)) = 128 from rfl, Int.fdiv_eq_ediv_of_nonneg _ (by decide)]
  omega
theorem pow128 (k : Nat) : 128 ^ (k + 1) = 128 ^ k * 128 := Nat.pow_succ ..
theorem n85_eq : ∀ (k u : Nat), 1 ≤ k → k ≤ 64 → u < 128 ^ k → n85 k (u : Int) = some (uvl k u)
  | 0, u, h, _, _ => by omega
  | k + 1, u, _, hk, h => by
    rw [n85, uvl]
    by_cases hu : u < 128
    · rw [decide_eq_true (by omega : (u : Int) < 128), cond_true, ask_of (wu8_ok _), if_pos hu]
      rfl
    · have hk0 : 1 ≤ k := by
        rcases Nat.eq_zero_or_pos k with rfl | hk
        · simp at h; omega
        · exact hk
      rw [pow128] at h
      rw [decide_eq_false (by omega : ¬ (u : Int) < 128), cond_false, ask_of (bor8_ok _ _), if_neg hu, fdiv7, n85_eq k (u / 128) hk0 (by omega) (by omega), Option.bind_some]
      have hs := uvl_size k (u / 128)
      have h1 : (bcons (bOr .u8 (wu8 (u : Int)) 128) ByteArray.empty).size = 1 := b1_size _
      rw [ask_of (addB rfl (by omega))]
      rfl
theorem L84_eq : ∀ (k u n : Nat) (acc : ByteArray) (t : Nat), 1 ≤ k → k ≤ 64 → u < 128 ^ k → k < n → acc.size ≤ 4096 - k * 4 →
    ∃ (u' : Nat) (acc' : ByteArray), L84_0 n ((u : Int), acc, t) () = some (O84_0.x0 (u' : Int) acc' t, ()) ∧ acc' ++ uLast u' = acc ++ uvl k u ∧ acc'.size ≤ 4096
  | 0, u, n, acc, t, h, _, _, _, _ => by omega
  | k + 1, u, n, acc, t, _, hk, h, hn, ha => by
    obtain ⟨n, rfl⟩ : ∃ m, n = m + 1 := ⟨n - 1, by omega⟩
    rw [L84_0, uvl]
    by_cases hu : u < 128
    · rw [decide_eq_false (by omega : ¬ (u : Int) ≥ 128), cond_false, ask_of rfl, if_pos hu]
      exact ⟨u, acc, rfl, rfl, by omega⟩
    · have hk0 : 1 ≤ k := by
        rcases Nat.eq_zero_or_pos k with rfl | hk
        · simp at h; omega
        · exact hk
      rw [pow128] at h
      have h1 : (bcons (bOr .u8 (wu8 (u : Int)) 128) ByteArray.empty).size = 1 := b1_size _
      rw [decide_eq_true (by omega : (u : Int) ≥ 128), cond_true, ask_of (bor8_ok _ _), ask_of (addB rfl (by omega)), ask_of (by rw [app_size]), fdiv7, if_neg hu]
      obtain ⟨u', acc', e1, e2, e3⟩ := L84_eq k (u / 128) n (acc ++ bcons (bOr .u8 (wu8 (u : Int)) 128) ByteArray.empty) t hk0 (by omega) (by omega) (by omega) (by rw [app_size]; omega)
      refine ⟨u', acc', e1, ?_, e3⟩
      rw [e2, app_assoc]
      rfl
def uv (u : Nat) : ByteArray := uvl 64 u
theorem uv_size (u : Nat) : (uv u).size ≤ 64 := uvl_size 64 u
theorem n84_eq {u : Nat} (h : u < 18446744073709551616) : n84 (u : Int) = some (uv u) := by
  have hp : u < 128 ^ 64 := Nat.lt_of_lt_of_le h (by decide)
  obtain ⟨u', acc', e1, e2, e3⟩ := L84_eq 64 u 1000000000000 ByteArray.empty 0 (by omega) (by omega) hp (by omega) (by show 0 ≤ _; omega)
  have h1 : (bcons (wu8 (u' : Int)) ByteArray.empty).size = 1 := b1_size _
  rw [n84, ask_of (show ([0, 0] : List Nat) = [0, ByteArray.empty.size] from rfl), e1, Option.bind_some]
  dsimp only
  rw [ask_of (wu8_ok _), ask_of (addB rfl (by omega))]
  have e2' : acc' ++ bcons (wu8 (u' : Int)) ByteArray.empty = noT ++ uvl 64 u := e2
  rw [e2', no_app]
  rfl
theorem n85_64 {u : Nat} (h : u < 18446744073709551616) : n85 64 (u : Int) = some (uv u) := n85_eq 64 u (by omega) (by omega) (Nat.lt_of_lt_of_le h (by decide))
def zz (i : Int) : Nat := if i < 0 then (-2 * i - 1).toNat else (2 * i).toNat
theorem zz_lt {i : Int} (h0 : -9223372036854775808 ≤ i) (h1 : i ≤ 9223372036854775807) : zz i < 18446744073709551616 := by
  unfold zz; split <;> omega
theorem n86_eq {i : Int} (h0 : -9223372036854775808 ≤ i) (h1 : i ≤ 9223372036854775807) : n86 i = some ((zz i : Nat) : Int) := by
  unfold n86 zz
  by_cases h : i < 0
  · rw [decide_eq_true h, cond_true, if_pos h, w64_id (n := i + 1) (by omega) (by omega), w64_id (by omega) (by omega), wu64_id (n := 0 - (i + 1)) (by omega) (by omega), wu64_id (n := 2 * _) (by omega) (by omega), wu64_id (by omega) (by omega)]
    congr 1; omega
  · rw [decide_eq_false h, cond_false, if_neg h, wu64_id (n := i) (by omega) (by omega), wu64_id (by omega) (by omega)]
    congr 1; omega
theorem bnot64 {x : Int} (h0 : 0 ≤ x) (h1 : x < 18446744073709551616) : bXor .u64 18446744073709551615 x = 18446744073709551615 - x := by
  obtain ⟨n, rfl⟩ : ∃ n : Nat, x = n := ⟨x.toNat, by omega⟩
  have e : (BitVec.ofInt 64 18446744073709551615) ^^^ (BitVec.ofInt 64 (n : Int)) = ~~~ (BitVec.ofNat 64 n) := by
    rw [show BitVec.ofInt 64 18446744073709551615 = BitVec.allOnes 64 by decide, BitVec.ofInt_natCast, BitVec.allOnes_xor]
  have e2 : (~~~ (BitVec.ofNat 64 n)).toNat = 18446744073709551615 - n := by
    rw [BitVec.toNat_not, BitVec.toNat_ofNat, Nat.mod_eq_of_lt (by omega)]
  show IntKind.u64.wrap ((BitVec.ofInt 64 18446744073709551615) ^^^ (BitVec.ofInt 64 (n : Int))).toNat = _
  rw [e, e2]
  have := wu64_id (n := ((18446744073709551615 - n : Nat) : Int)) (by omega) (by omega)
  unfold wu64 at this
  rw [this]
  omega
theorem n82_eq {i : Int} (h0 : -9223372036854775808 ≤ i) (h1 : i ≤ 9223372036854775807) : n82 i = some (uv (zz i)) := by
  have hz := zz_lt h0 h1
  have hm : ∀ x : Int, x * 2 ^ (min (Int.toNat 1) 64) = x * 2 := fun x => by rw [show (2 : Int) ^ (min (Int.toNat 1) 64) = 2 from rfl]
  unfold n82
  by_cases h : i < 0
  · have e1 : wu64 i = i + 18446744073709551616 := by
      unfold wu64 IntKind.wrap
      simp only [IntKind.signed, IntKind.bits]
      have : (i % 18446744073709551616) = i + 18446744073709551616 := by omega
      simpa using this
    have e2 : wu64 ((i + 18446744073709551616) * 2) = 2 * i + 18446744073709551616 := by
      unfold wu64 IntKind.wrap
      simp only [IntKind.signed, IntKind.bits]
      have : ((i + 18446744073709551616) * 2) % 18446744073709551616 = 2 * i + 18446744073709551616 := by omega
      simpa using this
    have e3 : 18446744073709551615 - (2 * i + 18446744073709551616) = ((zz i : Nat) : Int) := by unfold zz; rw [if_pos h]; omega
    rw [decide_eq_true h, cond_true, hm, e1, e2, bnot64 (by omega) (by omega), e3, n84_eq hz]
    rfl
  · have e3 : i * 2 = ((zz i : Nat) : Int) := by unfold zz; rw [if_neg h]; omega
    rw [decide_eq_false h, cond_false, hm, wu64_id (n := i) (by omega) (by omega), e3, wu64_id (by omega) (by omega), n84_eq hz]
    rfl
end Ev
namespace Ev
open Go
mutual
def V.lay : V → ByteArray
  | .mk k i m t l => b1 (wu8 k) ++ (bif (k == 2) then uv (zz i) else bif (k == 1) then b1 (wu8 i) else bif (k == 4) then uv t.size ++ t else bif (k == 3) then uv (zz i) ++ uv (zz m) else uv l.length ++ V.layL l)
def V.layL : List V → ByteArray
  | [] => noT
  | v :: l => v.lay ++ V.layL l
end
mutual
theorem V.lay_size : ∀ v : V, v.lay.size ≤ 256 * v.big
  | .mk k i m t l => by
    have h := V.layL_size l
    have s1 := uv_size (zz i)
    have s2 := uv_size (zz m)
    have s3 := uv_size t.size
    have s4 := uv_size l.length
    have s5 := b1_size (wu8 k)
    have s6 := b1_size (wu8 i)
    rw [V.lay, V.big, app_size]
    cases (k == 2) <;> cases (k == 1) <;> cases (k == 4) <;> cases (k == 3) <;> simp only [cond_true, cond_false, app_size] <;> omega
theorem V.layL_size : ∀ l : List V, (V.layL l).size ≤ 256 * V.bigL l
  | [] => by rw [V.layL]; exact Nat.zero_le _
  | v :: l => by
    have h1 := V.lay_size v
    have h2 := V.layL_size l
    rw [V.layL, V.bigL, app_size]; omega
end
theorem V.lay_pos (v : V) : 1 ≤ v.lay.size := by
  obtain ⟨k, i, m, t, l⟩ := v
  rw [V.lay, app_size, b1_size]; omega
abbrev F52 := ByteArray × Int × Int × Int × ByteArray × List D × Nat → Option (ByteArray × Nat)
def P52 (F : F52) (v : V) : Prop := ∀ buf : ByteArray, buf.size + v.lay.size ≤ 1099511627776 → F (buf, v.tup.1, v.tup.2.1, v.tup.2.2.1, v.tup.2.2.2.1, v.tup.2.2.2.2, buf.size) = some (buf ++ v.lay, (buf ++ v.lay).size)
theorem L52_step (F : F52) (n : Nat) (buf : ByteArray) (l : List V) (i : Nat) (len : Int) (x1 x2 x3 : Int) (x4 : ByteArray) (x5 : List D) (k23 k24 : Nat) (k im mm : Int) (t : ByteArray) (s : List V) (h : l[i]? = some (.mk k im mm t s)) (hi : (i : Int) < len) :
    L52_1 F (n + 1) (buf, V.ds l, len, (i : Int), x1, x2, x3, x4, x5, k23, k24) () = ((F (buf, k, im, mm, t, V.ds s, buf.size)).bind fun y36 => (ask (([y36.2, k23, k24] : List Nat) = [y36.1.size, k23, k24]) (L52_1 F n (y36.1, V.ds l, len, (w64 ((i : Int) + 1)), x1, x2, x3, x4, x5, k23, k24) ()))) := by
  rw [L52_1, lidx_ds, h, Option.map_some, Option.bind_some, V.d_mk, decide_eq_true hi, cond_true]
  rfl
theorem L52_eq {F : F52} {l : List V} (hl : l.length ≤ 1048576) (hF : ∀ v ∈ l, P52 F v) (x1 x2 x3 : Int) (x4 : ByteArray) (x5 : List D) (k23 k24 : Nat) : ∀ (rest : List V) (n i : Nat) (buf : ByteArray), l.drop i = rest → rest.length < n → buf.size + (V.layL rest).size ≤ 1099511627776 →
    L52_1 F n (buf, V.ds l, ((l.length : Nat) : Int), (i : Int), x1, x2, x3, x4, x5, k23, k24) () = some (O52_1.x0 (buf ++ V.layL rest) x1 x2 x3 x4 x5 k23 k24, ()) := by
  intro rest
  induction rest with
  | nil =>
    intro n i buf hr hn hb
    obtain ⟨n, rfl⟩ : ∃ m, n = m + 1 := ⟨n - 1, by simp at hn; omega⟩
    have := drop_nil hr
    rw [L52_1, decide_eq_false (by omega), cond_false, V.layL, app_no]
    exact ask_of rfl
  | cons v rest ih =>
    intro n i buf hr hn hb
    obtain ⟨n, rfl⟩ : ∃ m, n = m + 1 := ⟨n - 1, by simp at hn; omega⟩
    obtain ⟨h1, h2, h3, h4⟩ := drop_cons hr
    have hf := hF v h4
    rw [V.layL, app_size] at hb
    obtain ⟨k, im, mm, t, s⟩ := v
    unfold P52 at hf
    simp only [V.tup] at hf
    rw [L52_step F n buf l i _ x1 x2 x3 x4 x5 k23 k24 k im mm t s h1 (by omega), V.layL, hf buf (by omega), Option.bind_some]
    dsimp only
    rw [ask_of rfl, next_idx (by omega), ih n (i + 1) _ h2 (by simp at hn; omega) (by rw [app_size]; omega), app_assoc]
theorem wlen {n : Nat} (h : n ≤ 1048576) : wu64 ((n : Nat) : Int) = ((n : Nat) : Int) := wu64_id (by omega) (by omega)
theorem n83_eq {t : ByteArray} (h : t.size ≤ 1048576) (hO : nO84 ((t.size : Nat) : Int) = some (uv t.size)) : n83 t = some (uv t.size ++ t) := by
  have := uv_size t.size
  rw [n83, wlen h, hO, Option.bind_some, ask_of (addB rfl (by omega))]
theorem LO84_eq : ∀ (n : Nat) (a : Int) (acc : ByteArray) (t : Nat), (LO84_0 n (a, acc, t) () : Option (OO84_0 × Unit)).map (fun p => match p.1 with | .x0 x y z => (x, y, z)) = (L84_0 n (a, acc, t) () : Option (O84_0 × Unit)).map (fun p => match p.1 with | .x0 x y z => (x, y, z))
  | 0, a, acc, t => rfl
  | n + 1, a, acc, t => by
    rw [LO84_0, L84_0]
    cases decide (a ≥ 128) with
    | false =>
      rw [cond_false, cond_false]
      rw [ask_of rfl, ask_of rfl]
      rfl
    | true =>
      rw [cond_true, cond_true]
      unfold ask
      split
      · split
        · split
          · exact LO84_eq n _ _ _
          · rfl
        · rfl
      · rfl
theorem nO84_eq {u : Nat} (h : u < 18446744073709551616) : nO84 (u : Int) = some (uv u) := by
  have hp : u < 128 ^ 64 := Nat.lt_of_lt_of_le h (by decide)
  obtain ⟨u', acc', e1, e2, e3⟩ := L84_eq 64 u 1000000000000 ByteArray.empty 0 (by omega) (by omega) hp (by omega) (by show 0 ≤ _; omega)
  have e4 := LO84_eq 1000000000000 (u : Int) ByteArray.empty 0
  rw [e1] at e4
  have h1 : (bcons (wu8 (u' : Int)) ByteArray.empty).size = 1 := b1_size _
  have e5 : LO84_0 1000000000000 ((u : Int), ByteArray.empty, 0) () = some (OO84_0.x0 (u' : Int) acc' 0, ()) := by
    cases hq : (LO84_0 1000000000000 ((u : Int), ByteArray.empty, 0) () : Option (OO84_0 × Unit)) with
    | none => rw [hq] at e4; cases e4
    | some p =>
      rw [hq] at e4
      obtain ⟨⟨x, y, z⟩, ⟨⟩⟩ := p
      simp only [Option.map_some, Option.some.injEq, Prod.mk.injEq] at e4
      obtain ⟨rfl, rfl, rfl⟩ := e4
      rfl
  rw [nO84, ask_of (show ([0, 0] : List Nat) = [0, ByteArray.empty.size] from rfl), e5, Option.bind_some]
  dsimp only
  have e2' : acc' ++ bcons (wu8 (u' : Int)) ByteArray.empty = noT ++ uvl 64 u := e2
  have hz : (acc' ++ bcons (wu8 (u' : Int)) ByteArray.empty).size = acc'.size + (bcons (wu8 (u' : Int)) ByteArray.empty).size := app_size _ _
  rw [ask_of (wu8_ok _), ask_of (addB rfl (by omega)), ask_of (by simp only [app_size])]
  rw [e2', no_app]
  rfl
theorem n52_eq : ∀ (k : Nat) (v : V), v.hgt ≤ k → v.big ≤ 1048576 → v.ok → P52 (n52 k) v := by
  intro k
  induction k with
  | zero => intro v h; have := v.hgt_pos; omega
  | succ k ih =>
    intro v h hb hok buf hsz
    obtain ⟨k0, i0, m0, t0, l0⟩ := v
    rw [V.hgt] at h
    rw [V.big] at hb
    rw [V.ok] at hok
    obtain ⟨_, ⟨a1, a2⟩, ⟨b1', b2⟩, hokl⟩ := hok
    have hll := V.len_bigL l0
    simp only [V.tup]
    have s5 : (bcons (wu8 k0) ByteArray.empty).size = 1 := b1_size _
    have s6 : (bcons (wu8 i0) ByteArray.empty).size = 1 := b1_size _
    have s1 := uv_size (zz i0)
    have s2 := uv_size (zz m0)
    have s3 := uv_size t0.size
    have s4 := uv_size l0.length
    have g1 := n82_eq a1 a2
    have g2 := n82_eq b1' b2
    rw [V.lay, app_size, b1_size] at hsz
    rw [n52, ask_of (wu8_ok _), ask_of (addB rfl (by omega)), V.lay]
    cases h2 : (k0 == 2) with
    | true =>
      rw [cond_true, cond_true, g1, Option.bind_some]
      rw [h2, cond_true] at hsz
      rw [ask_of (addB (by simp only [app_size]) (by rw [app_size]; omega))]
      simp only [app_assoc, app_size, Nat.add_assoc, b1]
    | false =>
      rw [cond_false, cond_false]
      rw [h2, cond_false] at hsz
      cases h1 : (k0 == 1) with
      | true =>
        rw [cond_true, cond_true, ask_of (wu8_ok _)]
        rw [h1, cond_true, b1_size] at hsz
        rw [ask_of (addB (by simp only [app_size]) (by rw [app_size]; omega))]
        simp only [app_assoc, app_size, Nat.add_assoc, b1]
      | false =>
        rw [cond_false, cond_false]
        rw [h1, cond_false] at hsz
        cases h4 : (k0 == 4) with
        | true =>
          rw [h4, cond_true, app_size] at hsz
          rw [cond_true, cond_true, n83_eq (by omega) (nO84_eq (by omega)), Option.bind_some]
          rw [ask_of (addB (by simp only [app_size]) (by rw [app_size, app_size]; omega))]
          simp only [app_assoc, app_size, Nat.add_assoc, b1]
        | false =>
          rw [cond_false, cond_false]
          rw [h4, cond_false] at hsz
          cases h3 : (k0 == 3) with
          | true =>
            rw [h3, cond_true, app_size] at hsz
            rw [cond_true, cond_true, g1, Option.bind_some, ask_of (addB (by simp only [app_size]) (by rw [app_size]; omega)), g2, Option.bind_some, ask_of (addB (by simp only [app_size]) (by rw [app_size, app_size]; omega))]
            simp only [app_assoc, app_size, Nat.add_assoc, b1]
          | false =>
            rw [h3, cond_false, app_size] at hsz
            rw [cond_false, cond_false, ds_length, wlen (by omega), n84_eq (by omega), Option.bind_some, ask_of (addB (by simp only [app_size]) (by rw [app_size]; omega)), ask_of (by simp only [app_size])]
            have hL := L52_eq (F := n52 k) (l := l0) (by omega) (fun v hv => ih v (by have := V.mem_hgtL hv; omega) (by have := V.mem_bigL hv; omega) (okL_all hokl v hv)) k0 i0 m0 t0 (V.ds l0) 0 (bcons (wu8 k0) ByteArray.empty).size l0 1000000000000 0 ((buf ++ bcons (wu8 k0) ByteArray.empty) ++ uv l0.length) (by simp) (by omega) (by rw [app_size, app_size]; omega)
            rw [show ((0 : Nat) : Int) = 0 from rfl] at hL
            rw [hL, Option.bind_some]
            dsimp only
            simp only [app_assoc, app_size, Nat.add_assoc, b1]
end Ev
namespace Ev
open Go
abbrev F53 := Int × Int × Int × ByteArray × List D → Option ByteArray
theorem L53_step (F : F53) (n : Nat) (buf : ByteArray) (l : List V) (i : Nat) (x1 x2 x3 : Int) (x4 : ByteArray) (k21 : Nat) (v : V) (h : l[i]? = some v) (hi : i < l.length) :
    L53_1 F (n + 1) (buf, (i : Int), x1, x2, x3, x4, V.ds l, k21) () = ((F v.tup).bind fun y33 => (ask (addBOk buf.size buf y33 1) (ask (([k21, (buf.size + y33.size)] : List Nat) = [k21, (buf ++ y33).size]) (L53_1 F n ((buf ++ y33), (w64 ((i : Int) + 1)), x1, x2, x3, x4, V.ds l, k21) ())))) := by
  obtain ⟨k, im, mm, t, s⟩ := v
  rw [L53_1, lidx_ds, h, Option.map_some, Option.bind_some, V.d_mk, ds_length, decide_eq_true (by omega : (i : Int) < ((l.length : Nat) : Int)), cond_true]
  rfl
theorem L53_eq {F : F53} {l : List V} (hl : l.length ≤ 1048576) (hF : ∀ v ∈ l, F v.tup = some v.lay) (x1 x2 x3 : Int) (x4 : ByteArray) (k21 : Nat) : ∀ (rest : List V) (n i : Nat) (buf : ByteArray), l.drop i = rest → rest.length < n → buf.size + (V.layL rest).size ≤ 1099511627776 →
    L53_1 F n (buf, (i : Int), x1, x2, x3, x4, V.ds l, k21) () = some (O53_1.x0 (buf ++ V.layL rest) x1 x2 x3 x4 (V.ds l) k21, ()) := by
  intro rest
  induction rest with
  | nil =>
    intro n i buf hr hn hb
    obtain ⟨n, rfl⟩ : ∃ m, n = m + 1 := ⟨n - 1, by simp at hn; omega⟩
    have := drop_nil hr
    rw [L53_1, ds_length, decide_eq_false (by omega), cond_false, V.layL, app_no]
    exact ask_of rfl
  | cons v rest ih =>
    intro n i buf hr hn hb
    obtain ⟨n, rfl⟩ : ∃ m, n = m + 1 := ⟨n - 1, by simp at hn; omega⟩
    obtain ⟨h1, h2, h3, h4⟩ := drop_cons hr
    rw [V.layL, app_size] at hb
    rw [L53_step F n buf l i x1 x2 x3 x4 k21 v h1 h3, hF v h4, Option.bind_some, ask_of (addB rfl (by omega)), ask_of (by simp only [app_size]), next_idx (by omega), ih n (i + 1) _ h2 (by simp at hn; omega) (by rw [app_size]; omega), V.layL, app_assoc]
theorem n53_eq : ∀ (k : Nat) (v : V), v.hgt ≤ k → v.big ≤ 1048576 → v.ok → n53 k v.tup = some v.lay := by
  intro k
  induction k with
  | zero => intro v h; have := v.hgt_pos; omega
  | succ k ih =>
    intro v h hb hok
    have hls := V.lay_size v
    obtain ⟨k0, i0, m0, t0, l0⟩ := v
    rw [V.hgt] at h
    have hb0 := hb
    rw [V.big] at hb
    rw [V.ok] at hok
    obtain ⟨_, ⟨a1, a2⟩, ⟨c1, c2⟩, hokl⟩ := hok
    have hll := V.len_bigL l0
    have hlz := V.layL_size l0
    simp only [V.tup]
    have s5 : (bcons (wu8 k0) ByteArray.empty).size = 1 := b1_size _
    have s6 : (bcons (wu8 i0) ByteArray.empty).size = 1 := b1_size _
    have s1 := uv_size (zz i0)
    have s2 := uv_size (zz m0)
    have s3 := uv_size t0.size
    have s4 := uv_size l0.length
    have g1 := n86_eq a1 a2
    have g2 := n86_eq c1 c2
    have g3 := n85_64 (zz_lt a1 a2)
    have g4 := n85_64 (zz_lt c1 c2)
    rw [n53, ask_of (wu8_ok _), V.lay]
    cases h1 : (k0 == 1) with
    | true =>
      have e : k0 = 1 := by simpa using h1
      subst e
      rw [cond_true, ask_of (wu8_ok _), ask_of (addB rfl (by omega))]
      rfl
    | false =>
      rw [cond_false]
      cases h2 : (k0 == 2) with
      | true =>
        rw [cond_true, cond_true, g1, Option.bind_some, g3, Option.bind_some, ask_of (addB rfl (by omega))]
        rfl
      | false =>
        rw [cond_false, cond_false, cond_false]
        cases h3 : (k0 == 3) with
        | true =>
          have e : k0 = 3 := by simpa using h3
          subst e
          rw [cond_true, g1, Option.bind_some, g3, Option.bind_some, ask_of (addB rfl (by omega)), g2, Option.bind_some, g4, Option.bind_some, ask_of (addB (by simp only [app_size]) (by rw [app_size]; omega)), app_assoc]
          rfl
        | false =>
          rw [cond_false]
          cases h4 : (k0 == 4) with
          | true =>
            rw [cond_true, cond_true, wlen (by omega), n85_64 (by omega), Option.bind_some, ask_of (addB rfl (by omega)), ask_of (addB (by simp only [app_size]) (by rw [app_size]; omega)), app_assoc]
            rfl
          | false =>
            rw [cond_false, cond_false, cond_false, ds_length, wlen (by omega), n85_64 (by omega), Option.bind_some, ask_of (addB rfl (by omega)), ask_of (by simp only [app_size])]
            have hL := L53_eq (F := n53 k) (l := l0) (by omega) (fun v hv => ih v (by have := V.mem_hgtL hv; omega) (by have := V.mem_bigL hv; omega) (okL_all hokl v hv)) k0 i0 m0 t0 0 l0 1000000000000 0 (bcons (wu8 k0) ByteArray.empty ++ uv l0.length) (by simp) (by omega) (by rw [app_size]; omega)
            rw [show ((0 : Nat) : Int) = 0 from rfl] at hL
            rw [hL, Option.bind_some]
            dsimp only
            rw [app_assoc]
            rfl
theorem LZ52_step (n : Nat) (buf : ByteArray) (l : List V) (i : Nat) (len : Int) (x1 x2 x3 : Int) (x4 : ByteArray) (x5 : List D) (k20 k21 : Nat) (k im mm : Int) (t : ByteArray) (s : List V) (h : l[i]? = some (.mk k im mm t s)) (hi : (i : Int) < len) :
    LZ52_1 (n + 1) (buf, V.ds l, len, (i : Int), x1, x2, x3, x4, x5, k20, k21) () = ((n52 64 (buf, k, im, mm, t, V.ds s, buf.size)).bind fun y33 => (ask (([k20, k21, y33.2] : List Nat) = [k20, k21, y33.1.size]) (LZ52_1 n (y33.1, V.ds l, len, (w64 ((i : Int) + 1)), x1, x2, x3, x4, x5, k20, k21) ()))) := by
  rw [LZ52_1, lidx_ds, h, Option.map_some, Option.bind_some, V.d_mk, decide_eq_true hi, cond_true]
  rfl
theorem LZ52_eq {l : List V} (hl : l.length ≤ 1048576) (hF : ∀ v ∈ l, P52 (n52 64) v) (x1 x2 x3 : Int) (x4 : ByteArray) (x5 : List D) (k20 k21 : Nat) : ∀ (rest : List V) (n i : Nat) (buf : ByteArray), l.drop i = rest → rest.length < n → buf.size + (V.layL rest).size ≤ 1099511627776 →
    LZ52_1 n (buf, V.ds l, ((l.length : Nat) : Int), (i : Int), x1, x2, x3, x4, x5, k20, k21) () = some (OZ52_1.x0 (buf ++ V.layL rest) x1 x2 x3 x4 x5 k20 k21, ()) := by
  intro rest
  induction rest with
  | nil =>
    intro n i buf hr hn hb
    obtain ⟨n, rfl⟩ : ∃ m, n = m + 1 := ⟨n - 1, by simp at hn; omega⟩
    have := drop_nil hr
    rw [LZ52_1, decide_eq_false (by omega), cond_false, V.layL, app_no]
    exact ask_of rfl
  | cons v rest ih =>
    intro n i buf hr hn hb
    obtain ⟨n, rfl⟩ : ∃ m, n = m + 1 := ⟨n - 1, by simp at hn; omega⟩
    obtain ⟨h1, h2, h3, h4⟩ := drop_cons hr
    have hf := hF v h4
    rw [V.layL, app_size] at hb
    obtain ⟨k, im, mm, t, s⟩ := v
    unfold P52 at hf
    simp only [V.tup] at hf
    rw [LZ52_step n buf l i _ x1 x2 x3 x4 x5 k20 k21 k im mm t s h1 (by omega), V.layL, hf buf (by omega), Option.bind_some]
    dsimp only
    rw [ask_of rfl, next_idx (by omega), ih n (i + 1) _ h2 (by simp at hn; omega) (by rw [app_size]; omega), app_assoc]
theorem newB {b : ByteArray} (h0 : b.size ≠ 0) (h : b.size ≤ 1099511627776) : newBOk b 1 := ⟨h0, by unfold maxBytes; omega⟩
theorem nZ52_eq {v : V} (h : v.hgt ≤ 64) (hb : v.big ≤ 1048576) (hok : v.ok) : nZ52 v.tup = some v.lay := by
  have hls := V.lay_size v
  obtain ⟨k0, i0, m0, t0, l0⟩ := v
  rw [V.hgt] at h
  rw [V.big] at hb
  rw [V.ok] at hok
  obtain ⟨_, ⟨a1, a2⟩, ⟨c1, c2⟩, hokl⟩ := hok
  have hll := V.len_bigL l0
  have hlz := V.layL_size l0
  simp only [V.tup]
  have s5 : (bcons (wu8 k0) ByteArray.empty).size = 1 := b1_size _
  have s6 : (bcons (wu8 i0) ByteArray.empty).size = 1 := b1_size _
  have s1 := uv_size (zz i0)
  have s2 := uv_size (zz m0)
  have s3 := uv_size t0.size
  have s4 := uv_size l0.length
  have g1 := n82_eq a1 a2
  have g2 := n82_eq c1 c2
  rw [nZ52, ask_of (wu8_ok _), ask_of (newB (by omega) (by omega)), V.lay]
  cases h2 : (k0 == 2) with
  | true =>
    rw [cond_true, cond_true, g1, Option.bind_some, ask_of (addB rfl (by omega)), ask_of (by simp only [app_size])]
    rfl
  | false =>
    rw [cond_false, cond_false]
    cases h1 : (k0 == 1) with
    | true =>
      rw [cond_true, cond_true, ask_of (wu8_ok _), ask_of (addB rfl (by omega)), ask_of (by simp only [app_size])]
      rfl
    | false =>
      rw [cond_false, cond_false]
      cases h4 : (k0 == 4) with
      | true =>
        rw [cond_true, cond_true, n83_eq (by omega) (nO84_eq (by omega)), Option.bind_some, ask_of (addB rfl (by rw [app_size]; omega)), ask_of (by simp only [app_size])]
        rfl
      | false =>
        rw [cond_false, cond_false]
        cases h3 : (k0 == 3) with
        | true =>
          rw [cond_true, cond_true, g1, Option.bind_some, ask_of (addB rfl (by omega)), g2, Option.bind_some, ask_of (addB (by simp only [app_size]) (by rw [app_size]; omega)), ask_of (by simp only [app_size]), app_assoc]
          rfl
        | false =>
          rw [cond_false, cond_false, ds_length, wlen (by omega), n84_eq (by omega), Option.bind_some, ask_of (addB rfl (by omega)), ask_of (by simp only [app_size])]
          have hL := LZ52_eq (l := l0) (by omega) (fun v hv => n52_eq 64 v (by have := V.mem_hgtL hv; omega) (by have := V.mem_bigL hv; omega) (okL_all hokl v hv)) k0 i0 m0 t0 (V.ds l0) 0 (bcons (wu8 k0) ByteArray.empty).size l0 1000000000000 0 (bcons (wu8 k0) ByteArray.empty ++ uv l0.length) (by simp) (by omega) (by rw [app_size]; omega)
          rw [show ((0 : Nat) : Int) = 0 from rfl] at hL
          rw [hL, Option.bind_some]
          dsimp only
          rw [ask_of rfl, app_assoc]
          rfl
def V.enc (v : V) : ByteArray × Int := bif v.right then (v.lay, 0) else (noT, 40)
theorem right_small {v : V} (h : v.right = true) : v.hgt ≤ 16 := hgt_small ((Bool.and_eq_true _ _ ▸ h : _ ∧ _)).1
theorem encode_eq {v : V} (hb : v.big ≤ 1048576) (hok : v.ok) : nU24 v.tup = some v.enc := by
  have h1 := check_eq hb
  cases hr : v.right with
  | false =>
    rw [hr] at h1
    have he : v.enc = (noT, 40) := by unfold V.enc; rw [hr]; rfl
    rw [he]
    obtain ⟨k, i, m, t, l⟩ := v
    simp only [V.tup, nU24] at h1 ⊢
    rw [h1, Option.bind_some]
    simp only [cond_false, show ((40 : Int) != 0) = true from rfl, cond_true]
    exact ask_of rfl
  | true =>
    rw [hr] at h1
    have h3 := nZ52_eq (by have := right_small hr; omega) hb hok
    have he : v.enc = (v.lay, 0) := by unfold V.enc; rw [hr]; rfl
    rw [he]
    generalize v.lay = T at *
    obtain ⟨k, i, m, t, l⟩ := v
    simp only [V.tup, nU24] at h1 h3 ⊢
    rw [h1, Option.bind_some]
    simp only [cond_true, show ((0 : Int) != 0) = false from rfl, cond_false]
    rw [h3, Option.bind_some]
    exact ask_of (by first | trivial | rfl)
theorem encodeR_eq {v : V} (hb : v.big ≤ 1048576) (hok : v.ok) : n25 v.tup = some v.enc := by
  have h1 := right_eq hb
  cases hr : v.right with
  | false =>
    rw [hr] at h1
    have he : v.enc = (noT, 40) := by unfold V.enc; rw [hr]; rfl
    rw [he]
    obtain ⟨k, i, m, t, l⟩ := v
    simp only [V.tup, n25] at h1 ⊢
    rw [h1, Option.bind_some]
    rfl
  | true =>
    rw [hr] at h1
    have h3 := n53_eq 64 v (by have := right_small hr; omega) hb hok
    have he : v.enc = (v.lay, 0) := by unfold V.enc; rw [hr]; rfl
    rw [he]
    generalize v.lay = T at *
    obtain ⟨k, i, m, t, l⟩ := v
    simp only [V.tup, n25] at h1 h3 ⊢
    rw [h1, Option.bind_some]
    simp only [cond_true, Bool.not_true, cond_false]
    rw [h3, Option.bind_some]
theorem rowBytes_of (b : ByteArray) : rowBytes b.size (bytesD b) = some b := by
  unfold rowBytes
  rw [if_pos (bytesD_len b)]
  have : ∀ l : List UInt8, toBytes (l.map fun x => D.val (.int .u8 x.toNat)) = some ⟨l.toArray⟩ := by
    intro l
    induction l with
    | nil => rfl
    | cons x l ih =>
      have hx := x.toNat_lt
      rw [List.map_cons, toBytes, ih]
      dsimp only
      rw [if_pos ⟨by omega, by omega⟩]
      have : ((x.toNat : Int).toNat.toUInt8) = x := by simp
      rw [this]
      congr 1
  unfold bytesD
  rw [this]
theorem fogB {n m : Nat} (h : n + m ≤ 1099511627776) : fogOk n n m 1 := ⟨rfl, by unfold maxBytes; omega⟩
theorem L6v1_eq (c : ByteArray) (x1 x2 x3 : Int) (x4 : ByteArray) (x5 : List D) (sz : Nat) (hs : sz ≤ 1099511627776) : ∀ (m n i : Nat) (es : List D), sz - i = m → i ≤ sz → m < n → es.length = sz → (∀ d ∈ es, d.cells.length = 1) →
    ∃ es', L6_0v1 n (sz, c, (i : Int), x1, x2, x3, x4, x5, es) () = some (O6_0v1.x0 sz c x1 x2 x3 x4 x5 es', ())
  | 0, n, i, es, hm, hi, hn, hl, hd => by
    obtain ⟨n, rfl⟩ : ∃ k, n = k + 1 := ⟨n - 1, by omega⟩
    rw [L6_0v1, decide_eq_false (by omega), cond_false]
    exact ⟨es, rfl⟩
  | m + 1, n, i, es, hm, hi, hn, hl, hd => by
    obtain ⟨n, rfl⟩ : ∃ k, n = k + 1 := ⟨n - 1, by omega⟩
    have hie : i < es.length := by omega
    have hg : es[i]? = some es[i] := List.getElem?_eq_getElem hie
    have hc : (es[i]).cells.length = 1 := hd _ (List.getElem_mem hie)
    rw [L6_0v1, decide_eq_true (by omega), cond_true, ask_of (by unfold rowIn; omega), show Int.toNat (i : Int) = i from rfl, hg, Option.bind_some, ask_of hc, next_idx (by omega)]
    refine L6v1_eq c x1 x2 x3 x4 x5 sz hs m n (i + 1) _ (by omega) (by omega) (by omega) (by rw [List.length_set]; exact hl) (fun d hdm => ?_)
    rcases List.mem_or_eq_of_mem_set hdm with q | rfl
    · exact hd d q
    · have hp : ∀ (x : D), x.cells.length = 1 → (D.put x 0 [.val (.int .u8 255)]).cells.length = 1 := by
        intro x hx
        cases x with
        | agg cs =>
          simp only [D.cells] at hx
          simp only [D.put, spliceD, D.cells, List.length_set]
          exact hx
        | _ => rfl
      exact hp _ hc
end Ev
namespace Ev
open Go
theorem L6_0_end (c : ByteArray) (x1 x2 x3 : Int) (x4 : ByteArray) (x5 : List D) : L6_0 1000000000000 (ByteArray.empty, c, 0, x1, x2, x3, x4, x5) () = some (O6_0.x0 ByteArray.empty c x1 x2 x3 x4 x5, ()) := by
  rw [show (1000000000000 : Nat) = 999999999999 + 1 from rfl, L6_0]
  rfl
theorem n14_eq (e : Int) : n14 e = some e := rfl
theorem plain6 {v : V} (hb : v.big ≤ 1048576) (hok : v.ok) : n6 v.tup = some true := by
  have h1 := encode_eq hb hok
  have h2 := encodeR_eq hb hok
  have hE : (bcons 254 ByteArray.empty).size = 1 := b1_size _
  cases hr : v.right with
  | false =>
    have he : v.enc = (noT, 40) := by unfold V.enc; rw [hr]; rfl
    rw [he] at h1 h2
    obtain ⟨k, i, m, t, l⟩ := v
    simp only [V.tup, n6] at h1 h2 ⊢
    rw [h1, Option.bind_some]
    dsimp only
    rw [show Nat.beq noT.size 0 = true from rfl, cond_true, h2, Option.bind_some, n14_eq, Option.bind_some]
    dsimp only
    rw [show ((40 : Int) != 40) = false from rfl, cond_false, show sEq ByteArray.empty noT = true from (sEq_iff _ _).2 rfl, Bool.not_true, cond_false, ask_of (show ([0] : List Nat) = [ByteArray.empty.size] from rfl), show (noT : ByteArray) = ByteArray.empty from rfl, L6_0_end, Option.bind_some]
    dsimp only
    have hz : ByteArray.empty.size = 0 := rfl
    iterate 20 rw [ask_of (addB (by simp only [app_size]) (by simp only [app_size, hE, hz]; omega))]
    have h1' : nU24 (k, i, m, t, V.ds l) = some (ByteArray.empty, 40) := h1
    rw [h1', Option.bind_some]
    dsimp only
    rw [show Nat.beq ByteArray.empty.size 0 = true from rfl, cond_true, show sEq ByteArray.empty ByteArray.empty = true from (sEq_iff _ _).2 rfl]
    rfl
  | true =>
    have he : v.enc = (v.lay, 0) := by unfold V.enc; rw [hr]; rfl
    rw [he] at h1 h2
    have hp := V.lay_pos v
    have hs := V.lay_size v
    have hs' : v.lay.size ≤ 268435456 := by omega
    clear hs he
    generalize v.lay = T at *
    obtain ⟨k, i, m, t, l⟩ := v
    have hbeq : Nat.beq T.size 0 = false := by
      cases hq : Nat.beq T.size 0 with
      | false => rfl
      | true => have := Nat.eq_of_beq_eq_true hq; omega
    simp only [V.tup, n6] at h1 h2 ⊢
    rw [h1, Option.bind_some]
    dsimp only
    rw [hbeq, cond_false, h2, Option.bind_some, n14_eq, Option.bind_some]
    dsimp only
    rw [show ((0 : Int) != 0) = false from rfl, cond_false, rowBytes_of, Option.bind_some, show sEq T T = true from (sEq_iff _ _).2 rfl, Bool.not_true, cond_false]
    obtain ⟨es', hL⟩ := L6v1_eq T k i m t (V.ds l) T.size (by omega) T.size 1000000000000 0 (bytesD T) (by omega) (by omega) (by omega) (bytesD_len T) (fun d hd => by
      unfold bytesD at hd
      obtain ⟨x, _, rfl⟩ := List.mem_map.1 hd
      rfl)
    rw [show ((0 : Nat) : Int) = 0 from rfl] at hL
    rw [hL, Option.bind_some]
    dsimp only
    iterate 20 rw [ask_of (fogB (by simp only [hE]; omega))]
    rw [h1, Option.bind_some]
    dsimp only
    rw [hbeq, cond_false, rowBytes_of, Option.bind_some, show sEq T T = true from (sEq_iff _ _).2 rfl]
    rfl
end Ev
