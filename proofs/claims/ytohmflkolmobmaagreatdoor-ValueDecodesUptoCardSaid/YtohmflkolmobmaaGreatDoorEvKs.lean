/- What functions of the program compute, as plain Lean functions, each with its proof by a proved reader; plain laws about them (EvKs). -/
import Derived.Test.YtohmflkolmobmaaGreatDoorEvK
import Derived.Test.YtohmflkolmobmaaGreatDoorEvV
set_option linter.unusedSimpArgs false
set_option linter.unusedVariables false
namespace Ev
open Go
variable {σ β : Type} {C : Cfg} {T : Told} {H : Hd} {Y : Yd σ} {P : Program}
theorem bind_some {α β : Type} {o : Option α} {k : α → Option β} {r : β} (h : o.bind k = some r) : ∃ x, o = some x ∧ k x = some r := by
  cases o with
  | none => cases h
  | some x => exact ⟨x, rfl, h⟩
theorem ask_some {p : Prop} [Decidable p] {x : Option β} {r : β} (h : ask p x = some r) : p ∧ x = some r := by
  unfold ask at h
  split at h
  · exact ⟨‹_›, h⟩
  · cases h
theorem leafK_sound {t : TypeId} {d : D} {k : D → Option β} {r : β} (h : leafK P t d k = some r) : k d = some r := by
  unfold leafK at h
  split at h
  · obtain ⟨n, h1, h2⟩ := bind_some h
    unfold asInt at h1
    split at h1
    · split at h1
      · rename_i hk; cases h1; subst hk; exact h2
      · cases h1
    · cases h1
  · obtain ⟨n, h1, h2⟩ := bind_some h
    unfold asBool at h1
    split at h1
    · cases h1; exact h2
    · cases h1
  · obtain ⟨n, h1, h2⟩ := bind_some h
    unfold asStr at h1
    split at h1
    · cases h1; exact h2
    · cases h1
  · split at h
    · obtain ⟨n, h1, h2⟩ := bind_some h
      unfold asBytes at h1
      split at h1
      · cases h1; exact h2
      · cases h1
    · obtain ⟨n, h1, h2⟩ := bind_some h
      unfold asRow at h1
      split at h1
      · cases h1; exact h2
      · cases h1
  · cases h
theorem cellsK_sound {d : D} : ∀ {ts : List TypeId} {i : Nat} {k : List D → Option β} {r : β}, cellsK P d i ts k = some r → ∃ cs, (d.cells.drop i).take ts.length = cs ∧ cs.length = ts.length ∧ k cs = some r
  | [], i, k, r, h => ⟨[], by simp, rfl, h⟩
  | t :: ts, i, k, r, h => by
    simp only [cellsK] at h
    obtain ⟨c, h1, h2⟩ := bind_some h
    obtain ⟨cs, q1, q2, q3⟩ := cellsK_sound (leafK_sound h2)
    refine ⟨c :: cs, ?_, by simp [q2], q3⟩
    unfold cellAt at h1
    have hi := (List.getElem?_eq_some_iff.1 h1).1
    rw [List.drop_eq_getElem_cons hi]
    have : d.cells[i] = c := by
      have := List.getElem?_eq_getElem hi
      rw [h1] at this; exact (Option.some.inj this).symm
    simp [this, q1]
theorem allD_map' : ∀ (cs : List D), allD (cs.map .d) = some cs
  | [] => rfl
  | c :: cs => by simp [allD, allD_map' cs]
theorem loadK_sound {t : TypeId} {d : D} {off : Nat} {k : AV → Option β} {r : β} (h : loadK P t d off k = some r) : ∃ v, partA P t (d.cells.map .d) off = some v ∧ k v = some r := by
  unfold loadK at h
  split at h
  case isFalse => cases h
  rename_i hu
  unfold partA
  have hn : (P.underlying t).isNone = false := by cases e : P.underlying t <;> simp_all
  rw [hn]
  split at h
  · rename_i ha
    split at h
    · rename_i hl
      obtain ⟨cs, q1, q2, q3⟩ := cellsK_sound h
      refine ⟨_, ?_, q3⟩
      have hlen : off + P.cellsOf t ≤ (d.cells.map AV.d).length := by
        rw [← hl.1]
        have hpos := hl.2
        rw [← hl.1] at hpos
        rw [← q1] at q2
        simp at q2 ⊢
        omega
      simp only [Bool.false_eq_true, if_false, ha, if_true, hlen]
      rw [← List.map_drop, ← List.map_take, ← hl.1, q1, mkAgg, allD_map']
    · cases h
  · rename_i ha
    obtain ⟨c, q1, q2⟩ := bind_some h
    refine ⟨.d c, ?_, leafK_sound q2⟩
    simp only [Bool.false_eq_true, if_false, ha]
    unfold cellAt at q1
    rw [List.getElem?_map, q1]; rfl
theorem sidx_some {s : ByteArray} {i : Int} {c : UInt8} (h : sidx s i = some c) : 0 ≤ i ∧ s[i.toNat]? = some c := by
  unfold sidx at h
  split at h
  · exact ⟨‹_›, h⟩
  · cases h
theorem lidx_some {s : List D} {i : Int} {c : D} (h : lidx s i = some c) : 0 ≤ i ∧ s[i.toNat]? = some c := by
  unfold lidx at h
  split at h
  · exact ⟨‹_›, h⟩
  · cases h
theorem indexK_sound {t : TypeId} {x i : AV} {k : AV → Option β} {r : β} (h : indexK C t x i k = some r) : ∃ v, evIndex C.P t x i = some v ∧ k v = some r := by
  unfold indexK at h
  split at h
  · rename_i j hu hj
    split at h
    · rename_i s
      obtain ⟨c, h1, h2⟩ := bind_some h
      obtain ⟨q1, q2⟩ := sidx_some h1
      exact ⟨_, by simp only [evIndex, hu, hj, q1, if_true, q2], h2⟩
    · cases h
  · split at h
    · exact ⟨_, ‹_›, h⟩
    · cases h
  · cases h
theorem indexAddrK_sound {t : TypeId} {x i : AV} {k : AV → Option β} {r : β} (h : indexAddrK C t x i k = some r) : ∃ v, evIndexAddr C.P t x i = some v ∧ k v = some r := by
  unfold indexAddrK at h
  split at h
  · rename_i e j hu hj
    split at h
    · rename_i b
      split at h
      · rename_i hc
        obtain ⟨c, h1, h2⟩ := bind_some h
        obtain ⟨q1, q2⟩ := sidx_some h1
        exact ⟨_, by simp only [evIndexAddr, hu, hj, q1, if_true, elemAt, q2]; rw [if_pos ⟨by simp [D.cells, hc.1], hc.2⟩], h2⟩
      · cases h
    · rename_i b
      split at h
      · rename_i hc
        obtain ⟨c, h1, h2⟩ := bind_some h
        obtain ⟨q1, q2⟩ := sidx_some h1
        exact ⟨_, by simp only [evIndexAddr, hu, hj, q1, if_true, elemAt, q2]; rw [if_pos ⟨by simp [D.cells, hc.1], hc.2⟩], h2⟩
      · cases h
    · rename_i es
      split at h
      · rename_i hc
        obtain ⟨c, h1, h2⟩ := bind_some h
        obtain ⟨q1, q2⟩ := lidx_some h1
        obtain ⟨q3, q4⟩ := ask_some h2
        exact ⟨_, by simp only [evIndexAddr, hu, hj, q1, if_true, elemAt, q2]; rw [if_pos ⟨q3, hc⟩], q4⟩
      · cases h
    · rename_i es
      split at h
      · rename_i hc
        obtain ⟨c, h1, h2⟩ := bind_some h
        obtain ⟨q1, q2⟩ := lidx_some h1
        obtain ⟨q3, q4⟩ := ask_some h2
        exact ⟨_, by simp only [evIndexAddr, hu, hj, q1, if_true, elemAt, q2]; rw [if_pos ⟨q3, hc⟩], q4⟩
      · cases h
    · rename_i ib z n
      split at h
      · rename_i hc
        obtain ⟨⟨q1, q2⟩, q4⟩ := ask_some h
        exact ⟨_, by simp only [evIndexAddr, hu, hj, q1, if_true]; rw [if_pos ⟨q2, hc⟩], q4⟩
      · cases h
    · rename_i ib z off n
      split at h
      · rename_i hc
        obtain ⟨⟨q1, q2⟩, q4⟩ := ask_some h
        exact ⟨_, by simp only [evIndexAddr, hu, hj, q1, if_true]; rw [if_pos ⟨q2, hc⟩], q4⟩
      · cases h
    · cases h
  · split at h
    · exact ⟨_, ‹_›, h⟩
    · cases h
theorem sliceK_sound {t : TypeId} {ρ : Operand → AV} {x : Operand} {lo hi mx : Option Operand} {k : AV → Option β} {r : β} (h : sliceK C t ρ x lo hi mx k = some r) : ∃ v, evSlice C.P t ρ x lo hi mx = some v ∧ k v = some r := by
  unfold sliceK at h
  split at h
  · rename_i hu
    split at h
    · rename_i s hx
      split at h
      · rename_i l hh hl hh'
        obtain ⟨q1, q2⟩ := ask_some h
        have q1' : 0 ≤ l ∧ l ≤ hh ∧ hh ≤ (s.size : Int) := q1
        exact ⟨_, by simp only [evSlice, hu, hx, hl, hh']; exact if_pos q1', q2⟩
      · cases h
    · cases h
  · rename_i e hu
    split at h
    · rename_i n hn
      split at h
      · rename_i l hh m hl hh' hm
        obtain ⟨q1, q2⟩ := ask_some h
        split at q2
        · rename_i hc
          split at q2
          · rename_i v hv
            refine ⟨v, ?_, q2⟩
            simp only [evSlice, hu, hn, hl, hh', hm]
            rw [if_pos ⟨q1.1, q1.2.1, q1.2.2.1, q1.2.2.2.1, q1.2.2.2.2.1, q1.2.2.2.2.2, hc⟩]
            exact hv
          · cases q2
        · cases q2
      · cases h
    · cases h
  · cases h
theorem nextK_sound {x : AV} {boxes : List Box} {toks : List Nat} {k : AV → List Box → List Nat → Option β} {r : β} (h : nextK x boxes toks k = some r) : ∃ v b t, evNext x boxes toks = some (v, b, t) ∧ k v b t = some r := by
  unfold nextK at h
  split at h
  · rename_i i
    split at h
    · rename_i s pos hb
      by_cases hp : pos < s.size
      · simp only [hp, decide_true, cond_true] at h
        exact ⟨_, _, _, by simp only [evNext, hb, hp, if_true], h⟩
      · simp only [hp, decide_false, cond_false] at h
        exact ⟨_, _, _, by simp only [evNext, hb, hp, if_false], h⟩
    · cases h
  · cases h
theorem set_self {α : Type} {l : List α} {t : Nat} {x : α} (h : l[t]? = some x) : l.set t x = l := by
  apply List.ext_getElem?
  intro j
  by_cases hj : t = j
  · subst hj
    have := (List.getElem?_eq_some_iff.1 h).1
    simp [this, h]
    exact (List.getElem?_eq_some_iff.1 h).2.symm
  · rw [List.getElem?_set_ne hj]
theorem appendK_sound {t : TypeId} {x y : AV} {boxes : List Box} {toks : List Nat} {k : AV → List Box → List Nat → Option β} {r : β} (h : appendK C t x y boxes toks k = some r) : ∃ v b tk, evAppend C.P t x y boxes toks = some (v, b, tk) ∧ k v b tk = some r := by
  unfold appendK at h
  split at h
  · rename_i e hu
    split at h
    · rename_i hby
      split at h
      · rename_i b hb
        split at h
        · rename_i tk a
          split at h
          · rename_i n hn
            split at h
            · rename_i hc
              obtain ⟨⟨rfl, q1⟩, q2⟩ := ask_some h
              by_cases hb0 : b.size = 0
              · have hbe : b = .empty := ByteArray.size_eq_zero_iff.1 hb0
                subst hbe
                have h1 : a ++ ByteArray.empty = a := by simp
                have h2 : toks.set tk (a.size + ByteArray.empty.size) = toks := set_self (by simpa using hn)
                rw [h1, h2] at q2
                exact ⟨_, _, _, by simp [evAppend, hu, hby, hb, slen], q2⟩
              · refine ⟨_, _, _, ?_, q2⟩
                simp only [evAppend, hu, hby, if_true, hb, hb0, if_false]
                rw [if_pos ⟨hn, q1, hc⟩]
            · cases h
          · cases h
        · split at h
          · rename_i hc
            obtain ⟨⟨hb0, q1⟩, q2⟩ := ask_some h
            refine ⟨_, _, _, ?_, q2⟩
            simp only [evAppend, hu, hby, if_true, hb, hb0, if_false]
            rw [if_pos ⟨q1, hc.1, hc.2⟩]
          · cases h
        · cases h
      · cases h
    · rename_i hby
      split at h
      · rename_i b hb
        split at h
        · rename_i tk a
          split at h
          · rename_i n hn
            split at h
            · rename_i hc
              obtain ⟨⟨rfl, q0, q0', q1⟩, q2⟩ := ask_some h
              by_cases hb0 : b = []
              · subst hb0
                have h2 : toks.set tk (a.length + ([] : List D).length) = toks := set_self (by simpa using hn)
                rw [List.append_nil, h2] at q2
                exact ⟨_, _, _, by simp [evAppend, hu, hby, hb, slen, hc.2], q2⟩
              · refine ⟨_, _, _, ?_, q2⟩
                have hbe : b.isEmpty = false := by cases b <;> simp_all
                have hf : fitsA (C.P.cellsOf e) (.osl tk a) = true := q0'
                simp only [evAppend, hu, hby, if_false, hb, hbe, Bool.false_eq_true, q0, hf, and_self, if_true, hn, q1, hc.1]
            · cases h
          · cases h
        · cases b with
          | nil => cases h
          | cons c r =>
            dsimp only at h
            split at h
            · rename_i hc
              obtain ⟨⟨_, q0, _, q1⟩, q2⟩ := ask_some h
              refine ⟨_, _, _, ?_, q2⟩
              have q1' : (c :: r).length * C.P.bytesOf e ≤ maxBytes := by simpa using q1
              simp only [evAppend, hu, hby, if_false, hb, List.isEmpty_cons, Bool.false_eq_true, q0, fitsA, and_self, if_true, q1', hc]
            · cases h
        · cases h
      · cases h
  · cases h
theorem lookL_sound {kd q : IntKind} {n : Int} {kz : Option β} {k : Value → Option β} {r : β} : ∀ (es : List (Value × Value)) (i : Nat), lookL kd n es kz k = some r → (∃ j v, Instr.findNow (.int q) (.int kd n) (entriesOf es) i = some (some (j, v)) ∧ k v = some r) ∨ (Instr.findNow (.int q) (.int kd n) (entriesOf es) i = some none ∧ kz = some r)
  | [], i, h => .inr ⟨rfl, h⟩
  | (x, v) :: es, i, h => by
    cases x with
    | int k' m =>
      simp only [lookL] at h
      split at h
      · rename_i hk
        subst hk
        simp only [entriesOf, List.map_cons, Instr.findNow, Instr.sameNow, if_true]
        cases hb : (n == m) with
        | true => rw [hb] at h; exact .inl ⟨_, _, rfl, h⟩
        | false => rw [hb] at h; exact lookL_sound es (i + 1) h
      · cases h
    | _ => simp [lookL] at h
theorem lookK_sound {o : Oper} {t : TypeId} {m x : Operand} {env : List AV} {boxes : List Box} {toks : List Nat} {k : AV → Option β} {r : β} (ho : o.op = .lookup t m x false) (h : lookK C t (operand env m) (operand env x) boxes k = some r) : ∃ v, evRest C.P o env boxes toks = some (v, boxes, toks) ∧ k v = some r := by
  unfold lookK at h
  split at h
  case h_2 => cases h
  rename_i i kd n hm hx
  split at h
  case h_2 => cases h
  rename_i es kt et hb ht
  split at h
  case h_2 => cases h
  rename_i q hq
  have hck : semPure C.P (Instr.checkKey es.isEmpty 10000 kt (.int kd n)) = some () := by
    show semPure C.P (Instr.checkKey es.isEmpty (9999 + 1) kt (.int kd n)) = some ()
    unfold Instr.checkKey
    rw [semPure_bind, semPure_und hq]
    rfl
  have hv : (operand env x).toVal = some (.int kd n) := by rw [hx]; rfl
  rcases lookL_sound (q := q) es 0 h with ⟨j, v, h1, h2⟩ | ⟨h1, h2⟩
  · refine ⟨_, ?_, h2⟩
    simp only [evRest, ho, hm, hv, hb, ht, hck, hq, h1]
  · split at h2
    · rename_i z hz
      refine ⟨_, ?_, h2⟩
      simp only [evRest, ho, hm, hv, hb, ht, hck, hq, h1, hz]
    · cases h2
theorem convRK_sound {o : Oper} {src dst : TypeId} {x : Operand} {env : List AV} {boxes : List Box} {toks : List Nat} {k : AV → Option β} {r : β} (ho : o.op = .convert src dst x) (h : convRK C src dst (operand env x) boxes k = some r) : ∃ v, evRest C.P o env boxes toks = some (v, boxes, toks) ∧ evPlain C.P o env boxes toks = none ∧ k v = some r := by
  unfold convRK at h
  split at h
  case h_3 => cases h
  case h_2 =>
    rename_i e i z off n hs hd hx
    split at h
    case isFalse => cases h
    rename_i hc
    split at h
    case h_2 => cases h
    rename_i z' es hb
    split at h
    case isFalse => cases h
    rename_i hz
    obtain ⟨b, h1, h2⟩ := bind_some h
    refine ⟨_, ?_, ?_, h2⟩
    · simp only [evRest, ho, hs, hd, hx, hc, and_self, if_true, hb, hz, h1]
    · simp only [evPlain, ho, evConvert, hs, hd, hx, hc.1, if_true, bytesOf]
  rename_i e i z n hs hd hx
  split at h
  case isFalse => cases h
  rename_i hc
  split at h
  case h_2 => cases h
  rename_i z' es hb
  split at h
  case isFalse => cases h
  rename_i hz
  obtain ⟨b, h1, h2⟩ := bind_some h
  refine ⟨_, ?_, ?_, h2⟩
  · simp only [evRest, ho, hs, hd, hx, hc, and_self, if_true, hb, hz, h1]
  · simp only [evPlain, ho, evConvert, hs, hd, hx, hc.1, if_true, bytesOf]
theorem sliceRK_sound {o : Oper} {t : TypeId} {x : Operand} {lo hi : Option Operand} {env : List AV} {boxes : List Box} {toks : List Nat} {k : AV → Option β} {r : β} (ho : o.op = .slice t x lo hi none) (h : sliceRK C t (operand env) x lo hi k = some r) :
    ∃ v, evRest C.P o env boxes toks = some (v, boxes, toks) ∧ evPlain C.P o env boxes toks = none ∧ k v = some r := by
  unfold sliceRK at h
  split at h
  case h_2 => cases h
  rename_i e n hu hn
  split at h
  case h_2 => cases h
  rename_i l hh hl hhi
  split at h
  case isFalse => cases h
  rename_i hinf
  have fin : ∀ (i z off : Nat) (m : Nat), (∀ q : AV, cutRow (isByte C.P e) (operand env x) (C.P.cellsOf e) l.toNat hh.toNat = (if hh.toNat ≤ n ∧ z = C.P.cellsOf e then (if l.toNat < hh.toNat then some (AV.rsb i z (off + l.toNat) (hh.toNat - l.toNat)) else some (.d (if isByte C.P e then .bytes .empty else .slice []))) else none)) → cutA (operand env x) l.toNat hh.toNat = none → z = C.P.cellsOf e →
      ask (cutOk l hh n) (bif Nat.blt l.toNat hh.toNat then k (.rsb i z (off + l.toNat) (hh.toNat - l.toNat)) else k (.d (if isByte C.P e then .bytes .empty else .slice []))) = some r →
      ∃ v, evRest C.P o env boxes toks = some (v, boxes, toks) ∧ evPlain C.P o env boxes toks = none ∧ k v = some r := by
    intro i z off m hcut hcA hz h
    obtain ⟨q, h⟩ := ask_some h
    have q' : 0 ≤ l ∧ l ≤ hh ∧ hh ≤ (n : Int) := q
    have hpl : evPlain C.P o env boxes toks = none := by
      have hm' : optIdx (operand env) (n : Int) none = some (n : Int) := rfl
      simp only [evPlain, ho, evSlice, hu, hn, hl, hhi, hm', hcA, ite_self, resB]
    have hcut' := hcut .undef
    rw [if_pos ⟨by omega, hz⟩] at hcut'
    cases hb : Nat.blt l.toNat hh.toNat with
    | true =>
      rw [hb, cond_true] at h
      have hlt : l.toNat < hh.toNat := Nat.le_of_ble_eq_true hb
      rw [if_pos hlt] at hcut'
      exact ⟨_, by simp only [evRest, ho, hu, hl, hn, hhi]; rw [if_pos ⟨q'.1, q'.2.1, hinf⟩, hcut'], hpl, h⟩
    | false =>
      rw [hb, cond_false] at h
      have hlt : ¬ l.toNat < hh.toNat := fun hc => by
        have : Nat.blt l.toNat hh.toNat = true := Nat.ble_eq_true_of_le hc
        rw [hb] at this; cases this
      rw [if_neg hlt] at hcut'
      exact ⟨_, by simp only [evRest, ho, hu, hl, hn, hhi]; rw [if_pos ⟨q'.1, q'.2.1, hinf⟩, hcut'], hpl, h⟩
  split at h
  · rename_i i z m hx
    split at h
    case isFalse => cases h
    rename_i hz
    rw [hx] at hn
    simp only [slen, Option.some.injEq] at hn
    subst hn hz
    exact fin i _ 0 m (fun _ => by rw [hx]; simp only [cutRow, Nat.zero_add]) (by rw [hx]; rfl) rfl (by rw [Nat.zero_add]; exact h)
  · rename_i i z off m hx
    split at h
    case isFalse => cases h
    rename_i hz
    rw [hx] at hn
    simp only [slen, Option.some.injEq] at hn
    subst hn hz
    exact fin i _ off m (fun _ => by rw [hx]; simp only [cutRow]) (by rw [hx]; rfl) rfl h
  · cases h
theorem rowAK_sound {t : TypeId} {x y : AV} {boxes : List Box} {toks : List Nat} {k : AV → List Box → Option β} {r : β} (h : rowAK C t x y boxes k = some r) : ∃ v b, evRowN C.P t x y boxes toks = some (v, b, toks) ∧ k v b = some r := by
  unfold rowAK at h
  split at h
  case h_2 => cases h
  rename_i e b hu hb
  split at h
  case isFalse => cases h
  rename_i hc
  cases hz : Nat.beq b.size 0 with
  | true =>
    rw [hz, cond_true] at h
    have h0 := Nat.eq_of_beq_eq_true hz
    refine ⟨_, _, ?_, h⟩
    simp only [evRowN, hu, hb]
    rw [if_pos ⟨hc.1, hc.2.1, hc.2.2, by rw [h0]; simp⟩, if_pos h0]
  | false =>
    rw [hz, cond_false] at h
    obtain ⟨⟨h0, h1⟩, h2⟩ := ask_some h
    refine ⟨_, _, ?_, h2⟩
    simp only [evRowN, hu, hb]
    rw [if_pos ⟨hc.1, hc.2.1, hc.2.2, h1⟩, if_neg h0]
theorem fogK_sound {t : TypeId} {x y : AV} {boxes : List Box} {toks : List Nat} {k : AV → List Box → List Nat → Option β} {r : β} (h : fogK C t x y boxes toks k = some r) :
    ∃ v b tk, evFogA C.P t x y boxes toks = some (v, b, tk) ∧ evAppend C.P t x y boxes toks = none ∧ k v b tk = some r := by
  unfold fogK at h
  split at h
  · rename_i e hu
    split at h
    · rename_i hby
      split at h
      case h_2 => cases h
      rename_i b hb
      split at h
      · cases h
      rename_i hb0
      split at h
      case isFalse => cases h
      rename_i hc
      split at h
      · rename_i i z n
        split at h
        case h_2 => cases h
        rename_i z' es hbx
        split at h
        case isFalse => cases h
        rename_i hz
        obtain ⟨⟨_, q1⟩, q2⟩ := ask_some h
        refine ⟨_, _, _, ?_, ?_, q2⟩
        · simp only [evFogA, evFogB, hu, hby, if_true, hb, hb0, if_false, hc.2, hbx, hz, q1, hc.1, and_self]
        · simp only [evAppend, hu, hby, if_true, hb, hb0, if_false]
      · rename_i i t' z n
        split at h
        case h_2 => cases h
        rename_i z' es n' hbx hn'
        split at h
        case isFalse => cases h
        rename_i hz
        obtain ⟨⟨q0, q1⟩, q2⟩ := ask_some h
        subst q0
        refine ⟨_, _, _, ?_, ?_, q2⟩
        · simp only [evFogA, evFogB, hu, hby, if_true, hb, hb0, if_false, hc.2, hbx, hn', hz, q1, hc.1, and_self]
        · simp only [evAppend, hu, hby, if_true, hb, hb0, if_false]
      · cases h
    · rename_i hby
      split at h
      · rename_i b hb
        split at h
        · cases h
        · rename_i hbe
          split at h
          · rename_i hc
            split at h
            · rename_i i z n
              split at h
              · rename_i z' es hbx
                obtain ⟨⟨_, q1⟩, q2⟩ := ask_some h
                refine ⟨_, _, _, ?_, ?_, q2⟩
                · simp only [evFogA, hu, hby, if_false, hb, hbe, Bool.false_eq_true, hc.2, and_self, if_true, hbx, q1, hc.1]
                · simp only [evAppend, hu, hby, if_false, hb, hbe, Bool.false_eq_true, hc.2, and_self, if_true]
              · cases h
            · rename_i i t' z n
              split at h
              · rename_i z' es n' hbx hn'
                obtain ⟨⟨q0, q1⟩, q2⟩ := ask_some h
                subst q0
                refine ⟨_, _, _, ?_, ?_, q2⟩
                · simp only [evFogA, hu, hby, if_false, hb, hbe, Bool.false_eq_true, hc.2, and_self, if_true, hbx, hn', q1, hc.1]
                · simp only [evAppend, hu, hby, if_false, hb, hbe, Bool.false_eq_true, hc.2, and_self, if_true]
              · cases h
            · cases h
          · cases h
      · cases h
  · cases h
theorem eqK_sound {t : TypeId} {xs ys : List D} {b : Bool} (h : eqK P t xs ys = some b) (ox oy : Operand) :
    evBin P .eql t ox oy (.d (.agg xs)) (.d (.agg ys)) = some (.d (.val (.bool b))) ∧ evBin P .neq t ox oy (.d (.agg xs)) (.d (.agg ys)) = some (.d (.val (.bool !b))) := by
  unfold eqK at h
  split at h
  · rename_i vx vy hx hy
    split at h
    · rename_i hg
      have he := eqV_sound h
      have hG : ∀ op, semPure P (eqGuard op t ox oy (.agg vx.toArray) (.agg vy.toArray)) = some () := by
        intro op
        have hp : semPure P program = some P := rfl
        cases op <;> simp [eqGuard, semPure_bind, hp, hg, semPure_pure]
      have hb : binOp .eql t (.agg vx.toArray) (.agg vy.toArray) = (do pure (.bool (← Op.equal t (.agg vx.toArray) (.agg vy.toArray))) : Sem Value) := rfl
      have hn : binOp .neq t (.agg vx.toArray) (.agg vy.toArray) = (do pure (.bool (!(← Op.equal t (.agg vx.toArray) (.agg vy.toArray)))) : Sem Value) := rfl
      have he' : semPure P (Op.equal t (.agg vx.toArray) (.agg vy.toArray)) = some b := he
      constructor
      · simp only [evBin, AV.toVal, D.toVal, hx, hy, semPure_bind, hG, Option.bind_some, hb, he', semPure_pure]
        rfl
      · simp only [evBin, AV.toVal, D.toVal, hx, hy, semPure_bind, hG, Option.bind_some, hn, he', semPure_pure]
        rfl
    · cases h
  · cases h
theorem binK_sound {op : BinOp} {t : TypeId} {ox oy : Operand} {x y : AV} {k : AV → Option β} {r : β} (h : binK P op t ox oy x y k = some r) : ∃ v, evBin P op t ox oy x y = some v ∧ k v = some r := by
  unfold binK at h
  split at h
  · rename_i a b
    obtain ⟨q1, q2⟩ := ask_some h
    have q1' : ¬ (((a.size + b.size : Nat) : Int) > IntKind.i64.max) := by
      have := Nat.le_of_ble_eq_true q1
      have hm : IntKind.i64.max = 9223372036854775807 := by decide
      rw [hm]; omega
    refine ⟨_, ?_, q2⟩
    simp only [evBin, AV.toVal, D.toVal, eqGuard, binOp, Op.stringOp, q1', if_false]
    rfl
  · rename_i q a q' b
    split at h
    · rename_i hq
      subst hq
      obtain ⟨q1, q2⟩ := ask_some h
      refine ⟨_, ?_, q2⟩
      simp only [evBin, AV.toVal, D.toVal, eqGuard, binOp, Op.intDiv, q1, if_false, ne_eq, not_true_eq_false]
      rfl
    · cases h
  · rename_i q a q' b
    split at h
    · rename_i hq
      subst hq
      obtain ⟨q1, q2⟩ := ask_some h
      refine ⟨_, ?_, q2⟩
      simp only [evBin, AV.toVal, D.toVal, eqGuard, binOp, Op.intDiv, q1, if_false, ne_eq, not_true_eq_false]
      rfl
    · cases h
  · rename_i q a q' b
    obtain ⟨q1, q2⟩ := ask_some h
    have q1' : ¬ b < 0 := by omega
    refine ⟨_, ?_, q2⟩
    simp only [evBin, AV.toVal, D.toVal, eqGuard, binOp, Op.shift, q1', if_false]
    rfl
  · rename_i q a q' b
    obtain ⟨q1, q2⟩ := ask_some h
    have q1' : ¬ b < 0 := by omega
    refine ⟨_, ?_, q2⟩
    simp only [evBin, AV.toVal, D.toVal, eqGuard, binOp, Op.shift, q1', if_false]
    rfl
  · split at h
    · exact ⟨_, (eqK_sound ‹_› ox oy).1, h⟩
    · cases h
  · split at h
    · exact ⟨_, (eqK_sound ‹_› ox oy).2, h⟩
    · cases h
  · split at h
    · exact ⟨_, ‹_›, h⟩
    · cases h
theorem bytesK_sound : ∀ {es : List D} {k : ByteArray → Option β} {r : β}, bytesK es k = some r → ∃ b, toBytes es = some b ∧ k b = some r
  | [], k, r, h => ⟨_, rfl, h⟩
  | .val (.int .u8 n) :: es, k, r, h => by
    simp only [bytesK] at h
    obtain ⟨h1, h2⟩ := ask_some h
    obtain ⟨b, q1, q2⟩ := bytesK_sound h2
    have h1' : 0 ≤ n ∧ n < 256 := h1
    exact ⟨bcons n b, by simp only [toBytes, q1, h1', and_self, if_true]; rfl, q2⟩
  | .val (.int .i8 _) :: _, _, _, h | .val (.int .i16 _) :: _, _, _, h | .val (.int .i32 _) :: _, _, _, h | .val (.int .i64 _) :: _, _, _, h | .val (.int .u16 _) :: _, _, _, h | .val (.int .u32 _) :: _, _, _, h | .val (.int .u64 _) :: _, _, _, h | .val (.bool _) :: _, _, _, h | .val (.float _ _) :: _, _, _, h | .val (.complex _ _ _) :: _, _, _, h | .val (.string _) :: _, _, _, h | .val (.pointer _) :: _, _, _, h | .val (.slice _ _ _) :: _, _, _, h | .val (.map _) :: _, _, _, h | .val (.chan _) :: _, _, _, h | .val (.func _ _ _) :: _, _, _, h | .val .nilFunc :: _, _, _, h | .val (.iface _ _) :: _, _, _, h | .val .nilIface :: _, _, _, h | .val (.agg _) :: _, _, _, h | .val (.tuple _) :: _, _, _, h | .bytes _ :: _, _, _, h | .slice _ :: _, _, _, h | .agg _ :: _, _, _, h => by simp [bytesK] at h
theorem buildSliceK_sound {t : TypeId} {len : Nat} {ρ : Operand → AV} {parts : List (Nat × Operand)} {boxes : List Box} {toks : List Nat} {k : AV → List Box → List Nat → Option β} {r : β} (h : buildSliceK P t len ρ parts boxes toks k = some r) :
    ∃ v b tk, evBuildSlice P t len ρ parts boxes toks = some (v, b, tk) ∧ k v b tk = some r := by
  unfold buildSliceK at h
  split at h
  · rename_i e hu
    split at h
    · rename_i es hes
      split at h
      · rename_i hc
        split at h
        · rename_i hby
          split at h
          · rename_i h1c
            obtain ⟨b, q1, q2⟩ := bytesK_sound h
            exact ⟨_, _, _, by simp only [evBuildSlice, hu, hes]; rw [if_pos hc]; simp only [newRowA, hby, if_true, q1, h1c], q2⟩
          · cases h
        · rename_i hby
          exact ⟨_, _, _, by simp only [evBuildSlice, hu, hes]; rw [if_pos hc]; simp only [newRowA, hby, if_false, Bool.false_eq_true], h⟩
      · cases h
    · cases h
  · cases h
theorem putV_eq {st : St σ} {d : Option Tmp} {v : AV} {k : St σ → Option β} : putV st d v k = k (putSt st d v st.boxes st.toks st.s) := by
  unfold putV
  split
  · rw [fA_eq, setK_eq]; rfl
  · rfl
theorem putW_eq {st : St σ} {d : Option Tmp} {v : AV} {b : List Box} {t : List Nat} {s : σ} {k : St σ → Option β} : putW st d v b t s k = k (putSt st d v b t s) := by
  unfold putW
  split
  · rw [fA_eq, setK_eq]; rfl
  · rfl
theorem putK_eq {st : St σ} {d : Option Tmp} {v : AV} {b : List Box} {t : List Nat} {s : σ} {k : St σ → Option β} : putK st d v b t s k = k (putSt st d v b t s) := by
  unfold putK
  split
  · rw [fA_eq, setK_eq, fBs_eq, fSp_eq]; rfl
  · rw [fBs_eq, fSp_eq]; rfl
def PureOk (T : Told) (H : Hd) : Prop := ∀ f (e : PureE), T.pure f = some @e → ∀ (β : Type) (ds : List D) (k : PR → Option β) (r : β), e ds k = some r → ∃ d, pureCall H f ds = some d ∧ k d = some r
def MethOk (T : Told) (H : Hd) : Prop := ∀ f (e : MethE), T.meth f = some @e → ∀ (σ β : Type) (Y : Yd σ) (args : List AV) (boxes : List Box) (toks : List Nat) (s : σ) (k : AV → List Box → List Nat → σ → Option β) (r : β), e σ args boxes toks s k = some r →
  ∃ v b t s', H σ Y f args boxes toks s = some (.ret v, b, t, s') ∧ k v b t s' = some r
def InlOk (H : Hd) (Y : Yd σ) (inl : InlE σ β) : Prop := ∀ f args boxes toks s (k : AV → List Box → List Nat → σ → Option β) r, inl f args boxes toks s k = some r → ∃ v b t s', H σ Y f args boxes toks s = some (.ret v, b, t, s') ∧ k v b t s' = some r
def InlPOk (H : Hd) (Y : Yd σ) (inl : InlP σ β) : Prop := ∀ f args boxes toks s (k : Out → List Box → List Nat → σ → Option β) r, inl f args boxes toks s k = some r → ∃ o b t s', H σ Y f args boxes toks s = some (o, b, t, s') ∧ k o b t s' = some r
theorem retK_some {k : AV → List Box → List Nat → σ → Option β} {o : Out} {b : List Box} {t : List Nat} {s : σ} {r : β} (h : retK k o b t s = some r) : ∃ v, o = .ret v ∧ k v b t s = some r := by
  cases o with
  | ret v => exact ⟨v, rfl, h⟩
  | panic v => cases h
theorem lendP_sound {inl : InlP σ β} (hI : InlPOk H Y inl) {f : FuncId} {args : List AV} {boxes : List Box} {toks : List Nat} {s : σ} {k : Out → List Box → List Nat → σ → Option β} {r : β} (h : lendP inl f args boxes toks s k = some r) :
    ∃ o b t s', lend H σ Y f args boxes toks s = some (o, b, t, s') ∧ k o b t s' = some r := by
  unfold lendP at h
  dsimp only at h
  split at h
  · rename_i hl
    obtain ⟨v, b, t, s', h1, h2⟩ := hI _ _ _ _ _ _ _ h
    refine ⟨_, _, _, _, ?_, h2⟩
    unfold lend
    dsimp only
    rw [if_pos hl, h1]
  · cases h
theorem lendK_sound {inl : InlE σ β} (hI : InlOk H Y inl) {f : FuncId} {args : List AV} {boxes : List Box} {toks : List Nat} {s : σ} {k : AV → List Box → List Nat → σ → Option β} {r : β} (h : lendK inl f args boxes toks s k = some r) :
    ∃ v b t s', lend H σ Y f args boxes toks s = some (.ret v, b, t, s') ∧ k v b t s' = some r := by
  unfold lendK at h
  dsimp only at h
  split at h
  · rename_i hl
    obtain ⟨v, b, t, s', h1, h2⟩ := hI _ _ _ _ _ _ _ h
    refine ⟨_, _, _, _, ?_, h2⟩
    unfold lend
    dsimp only
    rw [if_pos hl, h1]
    rfl
  · cases h
theorem pick_sym {x : Bool} {a b : AV} (h : isBools a b = false) : evPick (.d (.val (.bool x))) a b = some (bif x then a else b) := by
  cases x <;> (unfold evPick; split <;> simp_all [isBools])
theorem evKOp_sound {inl : InlP σ β} (hp : PureOk T H) (hI : InlPOk H Y inl) {draw : Bool} {o : Oper} {st : St σ} {k : St σ → Option β} {kp : Value → St σ → Option β} {r : β} (h : evKOp C T Y inl draw o st k kp = some r) :
    (∃ st', evOp C H Y draw o st = some (.normal, st') ∧ k st' = some r) ∨ (∃ u st', draw = false ∧ evOp C H Y draw o st = some (.panic (.d (.val u)), st') ∧ kp u st' = some r) := by
  have plainOk : ∀ (hnc : ∀ g args ats, o.op ≠ .call { callee := .value g, args := args, argTypes := ats }) (hnp : ∀ x, o.op ≠ .panic x),
      (match globLoad C o st.env with
        | some v => k (putSt st o.dst v st.boxes st.toks st.s)
        | none => match plainOf C o st.env st.boxes st.toks with
          | some (v, b, t) => k (putSt st o.dst v b t st.s)
          | none => none) = some r → ∃ st', evOp C H Y draw o st = some (.normal, st') ∧ k st' = some r := by
    intro hnc hnp e
    unfold evOp
    split
    · exact (hnc _ _ _ ‹_›).elim
    · exact (hnp _ ‹_›).elim
    · split at e
      · rename_i v hv
        exact ⟨_, by simp only [hv]; rfl, e⟩
      · rename_i hv
        split at e
        · rename_i v b t hv'
          exact ⟨_, by simp only [hv, hv']; rfl, e⟩
        · cases e
  have opOk : ∀ (hsk : skipPlain C o = false) (hnc : ∀ g args ats, o.op ≠ .call { callee := .value g, args := args, argTypes := ats }) (hnp : ∀ x, o.op ≠ .panic x) (hng : globLoad C o st.env = none) (v : AV) (b : List Box) (t : List Nat),
      evPlain C.P o st.env st.boxes st.toks = some (v, b, t) → k (putSt st o.dst v b t st.s) = some r → ∃ st', evOp C H Y draw o st = some (.normal, st') ∧ k st' = some r := by
    intro hsk hnc hnp hng v b t hv e
    exact plainOk hnc hnp (by rw [hng, plainOf_eq hsk, hv]; exact e)
  have moreOk : ∀ (hsk : skipPlain C o = false) (hbs : ∀ t n ps, o.op ≠ .buildSlice t n ps) (hap : ∀ as ts, o.op ≠ .call { callee := .builtin .append, args := as, argTypes := ts }) (hnc : ∀ g args ats, o.op ≠ .call { callee := .value g, args := args, argTypes := ats }) (hnp : ∀ x, o.op ≠ .panic x) (hng : globLoad C o st.env = none) (hpn : evPlain C.P o st.env st.boxes st.toks = none) (hfg : evFog C.P o st.env st.boxes st.toks = none) (hdr : ¬ draw = true) (v : AV) (b : List Box) (t : List Nat),
      evRest C.P o st.env st.boxes st.toks = some (v, b, t) → k (putSt st o.dst v b t st.s) = some r → ∃ st', evOp C H Y draw o st = some (.normal, st') ∧ k st' = some r := by
    intro hsk hbs hap hnc hnp hng hpn hfg hdr v b t hmore e
    have hpn' : plainOf C o st.env st.boxes st.toks = none := by rw [plainOf_eq hsk]; exact hpn
    have hm : evMore C o st.env st.boxes st.toks = some (v, b, t) := by
      unfold evMore
      split
      · rename_i hh; exact absurd hh (hbs _ _ _)
      · rename_i hh; exact absurd hh (hap _ _)
      · rw [hfg]; exact hmore
    refine ⟨putSt st o.dst v b t st.s, ?_, e⟩
    unfold evOp
    split
    · rename_i hh; exact absurd hh (hnc _ _ _)
    · rename_i hh; exact absurd hh (hnp _)
    · simp only [hng, hpn', if_neg hdr, hm]; rfl
  unfold evKOp at h
  dsimp only at h
  simp only [putK_eq, putV_eq, putW_eq, ite_self] at h
  split at h
  · 
    rename_i g args ats ho
    split at h
    · rename_i f first caps hg
      split at h
      · rename_i g' hodd
        split at h
        · cases h
        rename_i hdr
        obtain ⟨v, b, t, hg', h'⟩ := g'.fair _ _ _ _ _ _ h
        refine .inl ⟨putSt st o.dst v b t st.s, ?_, h'⟩
        simp only [evOp, ho, hg, hodd]
        rw [if_neg hdr, hg']; rfl
      rename_i hodd
      split at h
      · cases h
      rename_i hth
      have evCall : ∀ v b t s', (match tryPure C H f (first ++ args.toList.map (operand st.env) ++ caps) with
          | some r => some (Out.ret (PR.av r), st.boxes, st.toks, st.s)
          | none => if draw then none else lend H σ Y f ((if C.keep f then first ++ args.toList.map (operand st.env) else (first ++ args.toList.map (operand st.env)).map AV.demote) ++ caps) st.boxes st.toks st.s) = some (Out.ret v, b, t, s') →
          evOp C H Y draw o st = some (.normal, putSt st o.dst v b t s') := by
        intro v b t s' e
        simp only [evOp, ho, hg, hodd]
        rw [if_neg hth]
        split at e
        · rename_i q hq
          cases e
          rw [hq]; rfl
        · rename_i hq
          rw [hq]
          cases draw with
          | true => simp at e
          | false =>
            simp only [Bool.false_eq_true, if_false] at e ⊢
            rw [e]; rfl
      split at h
      · rename_i pe hpe
        split at h
        · cases h
        rename_i hk
        split at h
        · rename_i ds hds
          obtain ⟨d, h1, h2⟩ := hp f pe hpe _ ds _ r h
          refine .inl ⟨_, evCall d.av st.boxes st.toks st.s ?_, h2⟩
          have : tryPure C H f (first ++ args.toList.map (operand st.env) ++ caps) = some d := by
            unfold tryPure
            rw [if_neg hk, hds]; exact h1
          rw [this]
        · cases h
      · split at h
        · cases h
        rename_i hdr
        split at h
        · rename_i hkd
          have hnp : tryPure C H f (first ++ args.toList.map (operand st.env) ++ caps) = none := by
            unfold tryPure
            split
            · rfl
            · rename_i hk
              simp only [hk, Bool.false_or, Option.isNone_iff_eq_none] at hkd
              rw [hkd]
          obtain ⟨q, b, t, s', h1, h2⟩ := lendP_sound hI h
          cases q with
          | ret v =>
            simp only at h2
            exact .inl ⟨_, evCall v b t s' (by rw [hnp, if_neg hdr]; exact h1), h2⟩
          | panic pv =>
            simp only [fBs_eq, fSp_eq] at h2
            split at h2
            · cases ‹Out.panic _ = Out.ret _›
            · rename_i u he
              cases he
              refine .inr ⟨u, _, by simpa using hdr, ?_, h2⟩
              simp only [evOp, ho, hg, hodd]
              rw [if_neg hth, hnp]
              simp only [if_neg hdr]
              rw [h1]
            · cases h2
        · cases h
    · rename_i hg
      split at h
      · cases h
      rename_i hdr
      split at h
      · rename_i ds hds
        obtain ⟨⟨b, s'⟩, h1, h2⟩ := bind_some h
        refine .inl ⟨_, ?_, h2⟩
        simp only [evOp, ho, hg, if_neg hdr, hds, h1]
        simp [putSt, hdr, hds, h1]
      · cases h
    · cases h
  · 
    rename_i x ho
    split at h
    · cases h
    rename_i hdr
    split at h
    · rename_i t v hv
      refine .inr ⟨_, _, by simpa using hdr, ?_, h⟩
      simp only [evOp, ho, hv, if_neg hdr]
    · cases h
  · 
    rename_i t a ho
    left
    split at h
    · rename_i d off ha
      obtain ⟨v, h1, h2⟩ := loadK_sound h
      refine opOk (by simp [skipPlain, ho]) (by simp [ho]) (by simp [ho]) (by simp [globLoad, ho, ha]) v st.boxes st.toks ?_ h2
      simp only [evPlain, ho, ha, evLoad, h1, resB]
    · rename_i i z j off ha
      split at h
      · rename_i z' es hb
        split at h
        · rename_i hz
          obtain ⟨d, g1, g2⟩ := bind_some h
          obtain ⟨g3, g4⟩ := ask_some g2
          obtain ⟨v, h1, h2⟩ := loadK_sound g4
          refine opOk (by simp [skipPlain, ho]) (by simp [ho]) (by simp [ho]) (by simp [globLoad, ho, ha]) v st.boxes st.toks ?_ h2
          simp only [evPlain, ho, ha, evLoad, hb, g1]
          rw [if_pos ⟨hz, g3⟩, h1]; rfl
        · cases h
      · cases h
    · exact plainOk (by simp [ho]) (by simp [ho]) h
  · 
    rename_i t a x ho
    left
    split at h
    · rename_i i z j off ha
      split at h
      · rename_i z' es y hb hy
        split at h
        · rename_i hz
          obtain ⟨rfl, z0, z1, z2, z3⟩ := hz
          obtain ⟨d, g1, g2⟩ := bind_some h
          obtain ⟨g3, g4⟩ := ask_some g2
          refine opOk (by simp [skipPlain, ho]) (by simp [ho]) (by simp [ho]) (by simp [globLoad, ho]) .undef _ st.toks ?_ g4
          simp only [evPlain, ho, ha, evStore, hb, hy, g1]
          rw [if_pos ⟨by trivial, g3, z0, z1, z2, z3⟩]
        · cases h
      · cases h
    · exact plainOk (by simp [ho]) (by simp [ho]) h
  · rename_i op t x y q ho
    left
    obtain ⟨v, h1, h2⟩ := binK_sound h
    exact opOk (by simp [skipPlain, ho]) (by simp [ho]) (by simp [ho]) (by simp [globLoad, ho]) v st.boxes st.toks (by simp only [evPlain, ho, h1, resB]) h2
  · rename_i t x i ho
    left
    obtain ⟨v, h1, h2⟩ := indexK_sound h
    exact opOk (by simp [skipPlain, ho]) (by simp [ho]) (by simp [ho]) (by simp [globLoad, ho]) v st.boxes st.toks (by simp only [evPlain, ho, h1, resB]) h2
  · rename_i t x i ho
    left
    obtain ⟨v, h1, h2⟩ := indexAddrK_sound h
    exact opOk (by simp [skipPlain, ho]) (by simp [ho]) (by simp [ho]) (by simp [globLoad, ho]) v st.boxes st.toks (by simp only [evPlain, ho, h1, resB]) h2
  · rename_i t x lo hi mx ho
    left
    split at h
    · split at h
      · cases h
      rename_i hdr
      simp only [Bool.or_eq_true, not_or, Bool.not_eq_true, Option.isSome_eq_false_iff, Option.isNone_iff_eq_none] at hdr
      obtain ⟨hdr, rfl⟩ := hdr
      obtain ⟨v, hmore, hp, h⟩ := sliceRK_sound (boxes := st.boxes) (toks := st.toks) ho h
      exact moreOk (by simp [skipPlain, ho]) (by simp [ho]) (by simp [ho]) (by simp [ho]) (by simp [ho]) (by simp [globLoad, ho]) hp (by simp [evFog, ho]) (by simp [hdr]) v _ _ hmore h
    obtain ⟨v, h1, h2⟩ := sliceK_sound h
    exact opOk (by simp [skipPlain, ho]) (by simp [ho]) (by simp [ho]) (by simp [globLoad, ho]) v st.boxes st.toks (by simp only [evPlain, ho, h1, resB]) h2
  · rename_i t len parts ho
    left
    split at h
    · cases h
    rename_i hdp
    obtain ⟨v, b, tk, h1, h2⟩ := buildSliceK_sound h
    exact opOk (by simp only [skipPlain, ho]; simpa using hdp) (by simp [ho]) (by simp [ho]) (by simp [globLoad, ho]) v b tk (by simp only [evPlain, ho, h1]) h2
  · rename_i it ho
    left
    obtain ⟨v, b, t, h1, h2⟩ := nextK_sound h
    exact opOk (by simp [skipPlain, ho]) (by simp [ho]) (by simp [ho]) (by simp [globLoad, ho]) v b t (by simp only [evPlain, ho, h1]) h2
  · rename_i c a b ho
    left
    split at h
    · rename_i x hc
      split at h
      · exact plainOk (by simp [ho]) (by simp [ho]) h
      · rename_i hnb
        have hpk := pick_sym (x := x) (a := operand st.env a) (b := operand st.env b) (by simpa using hnb)
        rw [← hc] at hpk
        refine opOk (by simp [skipPlain, ho]) (by simp [ho]) (by simp [ho]) (by simp [globLoad, ho]) (bif x then operand st.env a else operand st.env b) st.boxes st.toks ?_ ?_
        · simp only [evPlain, ho, hpk, resB]
        · cases x <;> exact h
    · cases h
  · rename_i args ats ho
    left
    split at h
    · rename_i t x y h0 h1 h2
      split at h
      · cases h
      rename_i hin
      split at h
      · rename_i hra
        split at h
        · cases h
        rename_i hdr
        obtain ⟨v, b, q1, q2⟩ := rowAK_sound (toks := st.toks) h
        refine ⟨putSt st o.dst v b st.toks st.s, ?_, q2⟩
        have hng : globLoad C o st.env = none := by simp [globLoad, ho]
        have hpn' : plainOf C o st.env st.boxes st.toks = none := by simp [plainOf, skipPlain, rowApp, ho, h0, hra]
        have hfg : evMore C o st.env st.boxes st.toks = some (v, b, st.toks) := by simp only [evMore, evRowA, rowApp, ho, h0, h1, h2, hra, cond_true, if_neg hin, q1]
        unfold evOp
        split
        · rename_i hh; rw [ho] at hh; cases hh
        · rename_i hh; rw [ho] at hh; cases hh
        · simp only [hng, hpn', if_neg hdr, hfg]; rfl
      rename_i hra
      have hra' : C.rowA t = false := by simpa using hra
      split at h
      · split at h
        · cases h
        rename_i hdr
        obtain ⟨v, b, tk, q1, q0, q2⟩ := fogK_sound h
        refine ⟨putSt st o.dst v b tk st.s, ?_, q2⟩
        have hng : globLoad C o st.env = none := by simp [globLoad, ho]
        have hpn : evPlain C.P o st.env st.boxes st.toks = none := by simp only [evPlain, ho, h0, h1, h2, if_neg hin, q0]
        have hpn' : plainOf C o st.env st.boxes st.toks = none := by rw [plainOf_eq (by simp [skipPlain, rowApp, ho, h0, hra'])]; exact hpn
        have hfg : evMore C o st.env st.boxes st.toks = some (v, b, tk) := by simp only [evMore, evFog, rowApp, ho, h0, h1, h2, hra', cond_false, if_neg hin, q1]
        unfold evOp
        split
        · rename_i hh; rw [ho] at hh; cases hh
        · rename_i hh; rw [ho] at hh; cases hh
        · simp only [hng, hpn', if_neg hdr, hfg]; rfl
      obtain ⟨v, b, tk, q1, q2⟩ := appendK_sound h
      refine opOk (by simp [skipPlain, rowApp, ho, h0, hra']) (by simp [ho]) (by simp [ho]) (by simp [globLoad, ho]) v b tk ?_ q2
      simp only [evPlain, ho, h0, h1, h2, if_neg hin, q1]
    · cases h
  · rename_i src dst x0 ho
    left
    split at h
    · split at h
      · cases h
      rename_i hdr
      obtain ⟨v, hmore, hp, h⟩ := convRK_sound (toks := st.toks) ho h
      exact moreOk (by simp [skipPlain, ho]) (by simp [ho]) (by simp [ho]) (by simp [ho]) (by simp [ho]) (by simp [globLoad, ho]) hp (by simp [evFog, ho]) hdr v _ _ hmore h
    · exact plainOk (by simp [ho]) (by simp [ho]) h
  · rename_i t0 x0 ho
    left
    split at h
    · rename_i v hv
      exact opOk (by simp [skipPlain, ho]) (by simp [ho]) (by simp [ho]) (by simp [globLoad, ho]) v st.boxes st.toks (by simp only [evPlain, ho, hv, resB]) h
    rename_i hv
    split at h
    · cases h
    rename_i hdr
    split at h
    · rename_i v b t hmore
      exact moreOk (by simp [skipPlain, ho]) (by simp [ho]) (by simp [ho]) (by simp [ho]) (by simp [ho]) (by simp [globLoad, ho]) (by simp only [evPlain, ho, hv, resB]) (by simp [evFog, ho]) hdr v b t hmore h
    · cases h
  · rename_i x0 xt0 t0 q0 ho
    left
    split at h
    · cases h
    rename_i hdr
    split at h
    · rename_i v b t hmore
      exact moreOk (by simp [skipPlain, ho]) (by simp [ho]) (by simp [ho]) (by simp [ho]) (by simp [ho]) (by simp [globLoad, ho]) (by simp [evPlain, ho]) (by simp [evFog, ho]) hdr v b t hmore h
    · cases h
  · rename_i t0 ho
    left
    split at h
    · cases h
    rename_i hdr
    split at h
    · rename_i v b t hmore
      exact moreOk (by simp [skipPlain, ho]) (by simp [ho]) (by simp [ho]) (by simp [ho]) (by simp [ho]) (by simp [globLoad, ho]) (by simp [evPlain, ho]) (by simp [evFog, ho]) hdr v b t hmore h
    · cases h
  · rename_i t0 m0 x0 y0 ho
    left
    split at h
    · cases h
    rename_i hdr
    split at h
    · rename_i v b t hmore
      exact moreOk (by simp [skipPlain, ho]) (by simp [ho]) (by simp [ho]) (by simp [ho]) (by simp [ho]) (by simp [globLoad, ho]) (by simp [evPlain, ho]) (by simp [evFog, ho]) hdr v b t hmore h
    · cases h
  · rename_i t0 m0 x0 ho
    left
    split at h
    · cases h
    rename_i hdr
    obtain ⟨v, hmore, h⟩ := lookK_sound (toks := st.toks) ho h
    exact moreOk (by simp [skipPlain, ho]) (by simp [ho]) (by simp [ho]) (by simp [ho]) (by simp [ho]) (by simp [globLoad, ho]) (by simp [evPlain, ho]) (by simp [evFog, ho]) hdr v _ _ hmore h
  · left
    rename_i n1 n2 n3 n4 n5 n6 n7 n8 n9 n10 n11 n12 n13 n14 n15 n16 n17 n18
    exact plainOk n1 n2 h
theorem putA_set {env : List AV} {t : Nat} {b : Bool} (h : env.getD t .undef = .d (.val (.bool b))) : env.set t (.d (.val (.bool b))) = env := by
  refine set_self ?_
  rw [List.getD_eq_getElem?_getD] at h
  cases e : env[t]? with
  | none => rw [e] at h; simp at h
  | some x => rw [e] at h; simp at h; rw [h]
theorem stepK_sound {inl : InlP σ β} (hp : PureOk T H) (hI : InlPOk H Y inl) {draw : Bool} {all : List Oper} {o : Oper} {st : St σ} {k : St σ → Option β} {kp : Value → St σ → Option β} {r : β} (h : stepK C T Y inl draw all o st k kp = some r) :
    (∃ st', step1 C H Y draw all o st = some (.normal, st') ∧ k st' = some r) ∨ (∃ u st', draw = false ∧ step1 C H Y draw all o st = some (.panic (.d (.val u)), st') ∧ kp u st' = some r) := by
  unfold stepK at h
  split at h
  · rename_i hg
    rcases evKOp_sound hp hI h with ⟨st', h1, h2⟩ | ⟨u, st', hd, h1, h2⟩
    · exact .inl ⟨st', by simp only [step1, wantedA, hg]; exact h1, h2⟩
    · exact .inr ⟨u, st', hd, by simp only [step1, wantedA, hg]; exact h1, h2⟩
  · rename_i j want hg
    split at h
    case h_2 => cases h
    rename_i q hq
    split at h
    case h_2 => cases h
    rename_i t ht
    split at h
    · rename_i b hb
      have hs : ({ st with env := st.env.set t (.d (.val (.bool b))) } : St σ) = st := by rw [putA_set hb]
      have hw : wantedA all st.env o = some (b == want) := by simp only [wantedA, hg, hq, ht, hb]
      have yes : b = want → evKOp C T Y inl draw o st k kp = some r → (∃ st', step1 C H Y draw all o st = some (.normal, st') ∧ k st' = some r) ∨ (∃ u st', draw = false ∧ step1 C H Y draw all o st = some (.panic (.d (.val u)), st') ∧ kp u st' = some r) := by
        intro e h
        rcases evKOp_sound hp hI h with ⟨st', h1, h2⟩ | ⟨u, st', hd, h1, h2⟩
        · exact .inl ⟨st', by simp only [step1, hw, e, beq_self_eq_true]; exact h1, h2⟩
        · exact .inr ⟨u, st', hd, by simp only [step1, hw, e, beq_self_eq_true]; exact h1, h2⟩
      have no : b ≠ want → k { st with env := putA st.env o.dst (.tup []) } = some r → (∃ st', step1 C H Y draw all o st = some (.normal, st') ∧ k st' = some r) ∨ (∃ u st', draw = false ∧ step1 C H Y draw all o st = some (.panic (.d (.val u)), st') ∧ kp u st' = some r) := by
        intro e h
        have : (b == want) = false := by simpa using e
        exact .inl ⟨_, by simp only [step1, hw, this], h⟩
      cases b <;> cases want <;> simp only [cond_true, cond_false, Bool.false_eq_true, if_true, if_false] at h
      · exact yes rfl (by rw [hs] at h; exact h)
      · exact no (by simp) (by rw [putA_set hb] at h; exact h)
      · exact no (by simp) (by rw [putA_set hb] at h; exact h)
      · exact yes rfl (by rw [hs] at h; exact h)
    · rename_i hb
      exact .inl ⟨_, by simp only [step1, wantedA, hg, hq, ht, hb], h⟩
    · cases h
theorem quiet_class {P : Program} {o : Oper} (h : quietOp o = true) : classOf P o.op ≠ .writes ∧ classOf P o.op ≠ .toks ∧ (∀ g args ats, o.op ≠ .call { callee := .value g, args := args, argTypes := ats }) ∧ (∀ x, o.op ≠ .panic x) ∧ ∃ d, o.dst = some d := by
  unfold quietOp at h
  simp only [Bool.and_eq_true] at h
  obtain ⟨h1, h2⟩ := h
  obtain ⟨d, hd⟩ := Option.isSome_iff_exists.1 h2
  refine ⟨?_, ?_, ?_, ?_, d, hd⟩
  · intro e; split at h1 <;> first | (cases h1; done) | skip
    unfold classOf at e
    split at e <;> simp_all
  · intro e; split at h1 <;> first | (cases h1; done) | skip
    unfold classOf at e
    split at e <;> simp_all
  · intro g args ats e; rw [e] at h1; simp at h1
  · intro x e; rw [e] at h1; simp at h1
theorem quiet_op {o : Oper} (h : quietOp o = true) {st : St σ} {env env' : List AV} {draw : Bool} (e : (match globLoad C o env with | some v => some (putA env o.dst v) | none => match evPlain C.P o env st.boxes st.toks with | some (v, _, _) => some (putA env o.dst v) | none => none) = some env') :
    evOp C H Y draw o { st with env := env } = some (.normal, { st with env := env' }) := by
  obtain ⟨c1, c2, c3, c4, _⟩ := quiet_class h
  have hsk : skipPlain C o = false := by
    unfold skipPlain
    split
    · rename_i t l ps ho
      unfold quietOp at h
      rw [ho] at h
      simp at h
    · rename_i as ts ho
      unfold quietOp at h
      rw [ho] at h
      simp at h
    · rfl
  unfold evOp
  split
  · exact (c3 _ _ _ ‹_›).elim
  · exact (c4 _ ‹_›).elim
  · split at e
    · rename_i v hv
      cases e
      simp only [hv]
    · rename_i hv
      split at e
      · rename_i v b t hp
        cases e
        obtain ⟨q1, q2, _⟩ := plain_to (b2 := st.boxes) (k2 := st.toks) hp (fun _ _ => rfl) (fun _ _ _ _ h => h) (fun _ => rfl) (fun _ => rfl)
        rw [q1 c1, q2 c2] at hp
        simp only [hv, plainOf_eq hsk, hp]
      · cases e
theorem groupOf_spec {c : Tmp} {g : Option (Nat × Bool)} : ∀ {l : List Oper} {G : List Oper} {p : Oper} {rest : List Oper}, groupOf c g l = some (G, p, rest) →
    l = G ++ p :: rest ∧ (∀ o ∈ G, o.guard = g ∧ quietOp o = true ∧ (∀ c' x y, o.op ≠ .pick (.tmp c') x y)) ∧ (∃ x y, p.op = .pick (.tmp c) x y) ∧ p.guard = none ∧ ∃ d, p.dst = some d
  | [], _, _, _, h => by cases h
  | o :: r, G, p, rest, h => by
    unfold groupOf at h
    split at h
    · rename_i c' x y ho
      split at h
      · rename_i hc
        split at h
        · rename_i hg
          simp only [Bool.and_eq_true, Option.isNone_iff_eq_none] at hg
          cases h
          subst hc
          exact ⟨rfl, by simp, ⟨x, y, ho⟩, hg.1, Option.isSome_iff_exists.1 hg.2⟩
        · cases h
      · cases h
    · rename_i hnp
      split at h
      · rename_i hq
        simp only [Bool.and_eq_true, beq_iff_eq] at hq
        split at h
        · rename_i a p' b hr
          cases h
          obtain ⟨q1, q2, q3⟩ := groupOf_spec hr
          refine ⟨by rw [q1]; rfl, fun o' ho' => ?_, q3⟩
          rcases List.mem_cons.1 ho' with rfl | ho'
          · exact ⟨hq.1, hq.2, fun c' x y e => hnp c' x y e⟩
          · exact q2 o' ho'
        · cases h
      · cases h
theorem forgets_nopick {all : List Oper} {o : Oper} (h : ∀ c' x y, o.op ≠ .pick (.tmp c') x y) : forgets all o = [] := by
  unfold forgets
  split
  · rename_i c x y ho; exact (h _ _ _ ho).elim
  · rfl
theorem forgetSt_nopick {draw : Bool} {all : List Oper} {o : Oper} (h : ∀ c' x y, o.op ≠ .pick (.tmp c') x y) (st : St σ) : forgetSt draw all o st = st := by
  unfold forgetSt
  split
  · rfl
  · rw [forgets_nopick h]; rfl
theorem forgetL_get (F : List Nat) : ∀ (xs : List AV) (i : Nat), (forgetL F xs)[i]? = if i ∈ F then (xs[i]?).map (fun _ => AV.undef) else xs[i]? := by
  induction F with
  | nil => intro xs i; simp [forgetL]
  | cons d F ih =>
    intro xs i
    show (forgetL F (xs.set d .undef))[i]? = _
    rw [ih]
    by_cases hid : d = i
    · subst hid
      by_cases hF : d ∈ F
      · rw [if_pos hF, if_pos (by simp [hF])]
        rw [List.getElem?_set]
        by_cases hl : d < xs.length
        · simp [hl, List.getElem?_eq_getElem hl]
        · simp [hl, List.getElem?_eq_none (by omega : xs.length ≤ d)]
      · rw [if_neg hF, if_pos (by simp)]
        rw [List.getElem?_set]
        by_cases hl : d < xs.length
        · simp [hl, List.getElem?_eq_getElem hl]
        · simp [hl, List.getElem?_eq_none (by omega : xs.length ≤ d)]
    · rw [List.getElem?_set_ne hid]
      by_cases hF : i ∈ F
      · rw [if_pos hF, if_pos (by simp [hF])]
      · rw [if_neg hF, if_neg (by simp [hF]; omega)]
theorem forgetL_congr {F : List Nat} {xs ys : List AV} (hl : xs.length = ys.length) (h : ∀ i, i ∉ F → xs[i]? = ys[i]?) : forgetL F xs = forgetL F ys := by
  apply List.ext_getElem?
  intro i
  rw [forgetL_get, forgetL_get]
  by_cases hF : i ∈ F
  · rw [if_pos hF, if_pos hF]
    by_cases hi : i < xs.length
    · rw [List.getElem?_eq_getElem hi, List.getElem?_eq_getElem (by omega : i < ys.length)]; rfl
    · rw [List.getElem?_eq_none (by omega), List.getElem?_eq_none (by omega)]
  · rw [if_neg hF, if_neg hF, h i hF]
theorem operand_forget {F : List Nat} {xs ys : List AV} (h : ∀ i, i ∉ F → xs[i]? = ys[i]?) {x : Operand} {b : Bool} (e : operand (forgetL F xs) x = .d (.val (.bool b))) : operand ys x = .d (.val (.bool b)) := by
  cases x with
  | tmp t =>
    simp only [operand, List.getD_eq_getElem?_getD] at e ⊢
    rw [forgetL_get] at e
    by_cases hF : t ∈ F
    · rw [if_pos hF] at e
      cases hx : xs[t]? <;> simp [hx] at e
    · rw [if_neg hF, h t hF] at e; exact e
  | _ => exact e
theorem evPick_want {want : Bool} {x y : AV} {e : Bool} (h : (if want then x else y) = .d (.val (.bool e))) : evPick (.d (.val (.bool want))) x y = some (.d (.val (.bool e))) := by
  cases want with
  | true =>
    simp only [if_true] at h
    subst h
    unfold evPick
    split <;> simp_all
  | false =>
    simp only [Bool.false_eq_true, if_false] at h
    subst h
    unfold evPick
    split <;> simp_all
theorem group_yes {all : List Oper} {j c : Nat} {want : Bool} {q : Oper} (hq : all[j]? = some q) (hqc : q.dst = some c) : ∀ {G : List Oper} {st : St σ} {env env1 : List AV}, (∀ o ∈ G, o.guard = some (j, want) ∧ quietOp o = true ∧ (∀ c' x y, o.op ≠ .pick (.tmp c') x y)) → (∀ o ∈ G, ∀ d, o.dst = some d → d ≠ c) →
    env.getD c .undef = .d (.val (.bool want)) → quietEnv C st G env = some env1 → ∀ rest, evOps C H Y false all (G ++ rest) { st with env := env } = evOps C H Y false all rest { st with env := env1 }
  | [], st, env, env1, _, _, _, h, rest => by cases h; rfl
  | o :: G, st, env, env1, h1, h2, h3, h, rest => by
    obtain ⟨g1, g2, g3⟩ := h1 o (by simp)
    have hstep : ∀ env', (match globLoad C o env with | some v => some (putA env o.dst v) | none => match evPlain C.P o env st.boxes st.toks with | some (v, _, _) => some (putA env o.dst v) | none => none) = some env' → step1 C H Y false all o { st with env := env } = some (.normal, { st with env := env' }) := by
      intro env' e
      unfold step1
      have hw : wantedA all env o = some true := by simp only [wantedA, g1, hq, hqc, h3, beq_self_eq_true]
      simp only [hw]
      exact quiet_op g2 e
    have key : ∀ env', (match globLoad C o env with | some v => some (putA env o.dst v) | none => match evPlain C.P o env st.boxes st.toks with | some (v, _, _) => some (putA env o.dst v) | none => none) = some env' → env'.getD c .undef = env.getD c .undef := by
      intro env' e
      obtain ⟨_, _, _, _, d, hd⟩ := quiet_class (P := C.P) g2
      have hne := h2 o (by simp) d hd
      have : ∃ v, env' = env.set d v := by
        split at e
        · cases e; exact ⟨_, by rw [hd]; rfl⟩
        · split at e
          · cases e; exact ⟨_, by rw [hd]; rfl⟩
          · cases e
      obtain ⟨v, rfl⟩ := this
      rw [List.getD_eq_getElem?_getD, List.getElem?_set_ne hne, ← List.getD_eq_getElem?_getD]
    simp only [quietEnv] at h
    have main : ∀ env', (match globLoad C o env with | some v => some (putA env o.dst v) | none => match evPlain C.P o env st.boxes st.toks with | some (v, _, _) => some (putA env o.dst v) | none => none) = some env' → quietEnv C st G env' = some env1 → evOps C H Y false all (o :: G ++ rest) { st with env := env } = evOps C H Y false all rest { st with env := env1 } := by
      intro env' e e'
      simp only [List.cons_append, evOps, hstep env' e, forgetSt_nopick g3]
      exact group_yes hq hqc (fun o' ho' => h1 o' (by simp [ho'])) (fun o' ho' => h2 o' (by simp [ho'])) (by rw [key env' e]; exact h3) e' rest
    split at h
    · rename_i v hv
      exact main _ (by rw [hv]) h
    · rename_i hv
      split at h
      · rename_i v b t hp
        exact main _ (by rw [hv, hp]) h
      · cases h
theorem quietEnv_keep {F : List Nat} : ∀ {G : List Oper} {st : St σ} {env env1 : List AV}, (∀ o ∈ G, ∃ d, o.dst = some d ∧ d ∈ F) → quietEnv C st G env = some env1 → env1.length = env.length ∧ ∀ i, i ∉ F → env1[i]? = env[i]?
  | [], st, env, env1, _, h => by cases h; exact ⟨rfl, fun _ _ => rfl⟩
  | o :: G, st, env, env1, h1, h => by
    obtain ⟨d, hd, hF⟩ := h1 o (by simp)
    have go : ∀ v, quietEnv C st G (putA env o.dst v) = some env1 → env1.length = env.length ∧ ∀ i, i ∉ F → env1[i]? = env[i]? := by
      intro v e
      obtain ⟨q1, q2⟩ := quietEnv_keep (fun o' ho' => h1 o' (by simp [ho'])) e
      rw [hd] at q1 q2
      simp only [putA] at q1 q2
      refine ⟨by rw [q1]; simp, fun i hi => ?_⟩
      rw [q2 i hi, List.getElem?_set_ne (fun e => hi (by rw [← e]; exact hF))]
    simp only [quietEnv] at h
    split at h
    · exact go _ h
    · split at h
      · exact go _ h
      · cases h
theorem group_no {all : List Oper} {j c : Nat} {want b : Bool} (hb : b ≠ want) {q : Oper} (hq : all[j]? = some q) (hqc : q.dst = some c) {F : List Nat} : ∀ {G : List Oper} {st : St σ} {env : List AV}, (∀ o ∈ G, o.guard = some (j, want) ∧ quietOp o = true ∧ (∀ c' x y, o.op ≠ .pick (.tmp c') x y)) → (∀ o ∈ G, ∃ d, o.dst = some d ∧ d ∈ F) → c ∉ F →
    env.getD c .undef = .d (.val (.bool b)) → ∃ env0, env0.length = env.length ∧ (∀ i, i ∉ F → env0[i]? = env[i]?) ∧ ∀ rest, evOps C H Y false all (G ++ rest) { st with env := env } = evOps C H Y false all rest { st with env := env0 }
  | [], st, env, _, _, _, h => ⟨env, rfl, fun _ _ => rfl, fun _ => rfl⟩
  | o :: G, st, env, h1, h2, hc, h => by
    obtain ⟨g1, g2, g3⟩ := h1 o (by simp)
    obtain ⟨d, hd, hF⟩ := h2 o (by simp)
    have hne : d ≠ c := fun e => hc (e ▸ hF)
    have hw : wantedA all env o = some false := by
      simp only [wantedA, g1, hq, hqc, h]
      have : (b == want) = false := by simpa using hb
      rw [this]
    obtain ⟨env0, q1, q2, q3⟩ := group_no hb hq hqc (F := F) (G := G) (st := st) (env := env.set d (.tup [])) (fun o' ho' => h1 o' (by simp [ho'])) (fun o' ho' => h2 o' (by simp [ho'])) hc (by
      rw [List.getD_eq_getElem?_getD, List.getElem?_set_ne hne, ← List.getD_eq_getElem?_getD]; exact h)
    refine ⟨env0, by rw [q1]; simp, fun i hi => ?_, fun rest => ?_⟩
    · rw [q2 i hi, List.getElem?_set_ne (fun e => hi (by rw [← e]; exact hF))]
    · rw [← q3 rest]
      simp only [List.cons_append, evOps, step1, hw, forgetSt_nopick g3, hd, putA]
theorem joinK_sound {all : List Oper} {j c : Nat} {want : Bool} {q : Oper} (hq : all[j]? = some q) (hqc : q.dst = some c) {l : List Oper} {st : St σ} {k : List Oper → St σ → Option β} {r : β} (h : joinK C all j want c l st k = some r) :
    ∃ rest st2, evOps C H Y false all l st = evOps C H Y false all rest st2 ∧ k rest st2 = some r := by
  unfold joinK at h
  split at h
  case h_2 => cases h
  rename_i G p rest hg
  obtain ⟨rfl, hG, ⟨x0, y0, hp⟩, hpg, d, hpd⟩ := groupOf_spec hg
  rw [hp] at h
  split at h
  case h_2 => cases h
  rename_i x y b env1 hop hb henv
  cases hop
  split at h
  case h_2 => cases h
  rename_i e1 e0 h1 h0
  split at h
  case isFalse => cases h
  rename_i hc
  simp only [Bool.and_eq_true, List.all_eq_true, bne_iff_ne, ne_eq, Bool.not_eq_true', List.contains_eq_mem, decide_eq_false_iff_not] at hc
  obtain ⟨⟨hc1, hc2⟩, hc3⟩ := hc
  have hF : ∀ o ∈ G, ∃ d, o.dst = some d ∧ d ∈ forgets all p := fun o ho => by
    have := hc1 o ho
    split at this
    · rename_i d' hd'
      simp only [Bool.and_eq_true, decide_eq_true_eq] at this
      exact ⟨d', hd', by simpa using this.1⟩
    · cases this
  have hne : ∀ o ∈ G, ∀ d, o.dst = some d → d ≠ c := fun o ho d hd e => by
    obtain ⟨d', hd', hm⟩ := hF o ho
    rw [hd] at hd'; cases hd'
    exact hc3 (e ▸ hm)
  rw [fSp_eq] at h
  refine ⟨rest, _, ?_, h⟩
  have hdc : d ≠ c := fun e => hc2 (by rw [hpd, e])
  have pickStep : ∀ (env : List AV) (e : Bool), (∀ i, i ∉ forgets all p → env[i]? = st.env[i]?) → env.length = st.env.length → evPick (operand env (.tmp c)) (operand env x0) (operand env y0) = some (.d (.val (.bool e))) →
      evOps C H Y false all (p :: rest) { st with env := env } = evOps C H Y false all rest { st with env := forgetL (forgets all p) (putA st.env p.dst (.d (.val (.bool e)))) } := by
    intro env e hag hlen hpk
    have hs : step1 C H Y false all p { st with env := env } = some (.normal, { st with env := putA env p.dst (.d (.val (.bool e))) }) := by
      simp only [step1, wantedA, hpg, evOp, hp, globLoad, plainOf, skipPlain, cond_false, evPlain, hpk, resB]
    simp only [evOps, hs, forgetSt, Bool.false_eq_true, if_false]
    rw [hpd]
    simp only [putA]
    rw [forgetL_congr (xs := env.set d _) (ys := st.env.set d (.d (.val (.bool e)))) (by simp [hlen]) (fun i hi => ?_)]
    rw [List.getElem?_set, List.getElem?_set, hlen, hag i hi]
  have hst : st = { st with env := st.env } := rfl
  have hcE : ∀ env : List AV, (∀ i, i ∉ forgets all p → env[i]? = st.env[i]?) → operand env (.tmp c) = .d (.val (.bool b)) := fun env hag => by
    simp only [operand]
    rw [List.getD_eq_getElem?_getD, hag c hc3, ← List.getD_eq_getElem?_getD]; exact hb
  by_cases hbw : b = want
  · subst hbw
    rw [hst, group_yes hq hqc hG hne hb henv (p :: rest)]
    obtain ⟨k1, k2⟩ := quietEnv_keep hF henv
    have hv : (bif b then (bif b then e1 else e0) else (bif b then e0 else e1)) = e1 := by cases b <;> rfl
    rw [hv]
    refine pickStep env1 e1 k2 k1 ?_
    rw [hcE env1 k2]
    refine evPick_want ?_
    rw [← h1]
    cases b <;> rfl
  · obtain ⟨env0, k1, k2, k3⟩ := group_no (H := H) (Y := Y) (C := C) hbw hq hqc (F := forgets all p) (st := st) hG hF hc3 hb
    rw [hst, k3 (p :: rest)]
    have hv : (bif want then (bif b then e1 else e0) else (bif b then e0 else e1)) = e0 := by cases b <;> cases want <;> simp_all
    rw [hv]
    refine pickStep env0 e0 k2 k1 ?_
    rw [hcE env0 k2]
    refine evPick_want ?_
    have : operand env0 (if want then y0 else x0) = .d (.val (.bool e0)) := operand_forget (fun i hi => (k2 i hi).symm) h0
    rw [← this]
    cases b <;> cases want <;> simp_all
theorem opsK_sound {inl : InlP σ β} (hp : PureOk T H) (hI : InlPOk H Y inl) {draw : Bool} {jn : List Nat} {all : List Oper} : ∀ {n : Nat} {l : List Oper} {st : St σ} {k : St σ → Option β} {kp : Value → St σ → Option β} {r : β}, opsK C T Y inl draw jn all n l st k kp = some r →
    (∃ st', evOps C H Y draw all l st = some (.normal, st') ∧ k st' = some r) ∨ (∃ u st', draw = false ∧ evOps C H Y draw all l st = some (.panic (.d (.val u)), st') ∧ kp u st' = some r)
  | 0, l, st, k, kp, r, h => by cases h
  | n + 1, [], st, k, kp, r, h => .inl ⟨st, rfl, h⟩
  | n + 1, o :: l, st, k, kp, r, h => by
    simp only [opsK] at h
    split at h
    · rename_i j want c hj
      have hdr : draw = false := by
        cases draw with
        | false => rfl
        | true => simp at hj
      subst hdr
      simp only [Bool.false_eq_true, if_false] at hj
      unfold joinAt at hj
      split at hj
      · split at hj
        · rename_i j' want' hg
          split at hj
          · rename_i q hq
            split at hj
            · rename_i c' hc'
              cases hj
              obtain ⟨rest, st2, h1, h2⟩ := joinK_sound (H := H) (Y := Y) hq hc' h
              rcases opsK_sound hp hI h2 with ⟨st', h3, h4⟩ | ⟨u, st', hd, h3, h4⟩
              · exact .inl ⟨st', by rw [h1]; exact h3, h4⟩
              · exact .inr ⟨u, st', hd, by rw [h1]; exact h3, h4⟩
            · cases hj
          · cases hj
        · cases hj
      · cases hj
    · rcases stepK_sound hp hI h with ⟨st1, h1, h2⟩ | ⟨u, st1, hd, h1, h2⟩
      · have hf : (∃ st', evOps C H Y draw all l (forgetSt draw all o st1) = some (.normal, st') ∧ k st' = some r) ∨ (∃ u st', draw = false ∧ evOps C H Y draw all l (forgetSt draw all o st1) = some (.panic (.d (.val u)), st') ∧ kp u st' = some r) := by
          split at h2
          · rename_i hfo
            have : forgetSt draw all o st1 = st1 := by
              unfold forgetSt
              rw [hfo]
              split <;> rfl
            rw [this]
            exact opsK_sound hp hI h2
          · rename_i d ds hfo
            rw [fSp_eq] at h2
            have : forgetSt draw all o st1 = { st1 with env := forgetL (if draw then [] else d :: ds) st1.env } := by
              unfold forgetSt
              rw [hfo]
              cases draw <;> rfl
            rw [this]
            exact opsK_sound hp hI h2
        rcases hf with ⟨st', h3, h4⟩ | ⟨u, st', hd, h3, h4⟩
        · exact .inl ⟨st', by simp only [evOps, h1]; exact h3, h4⟩
        · exact .inr ⟨u, st', hd, by simp only [evOps, h1]; exact h3, h4⟩
      · exact .inr ⟨u, st1, hd, by simp only [evOps, h1], h2⟩
theorem splitK_eq : ∀ {l A : List Oper} {oc : Oper} {g : Operand} {args : List Operand} {B : List Oper}, splitCall l = some (A, oc, g, args, B) → l = A ++ oc :: B ∧ oc.guard = none ∧ ∃ as ats, as.toList = args ∧ oc.op = .call { callee := .value g, args := as, argTypes := ats }
  | [], _, _, _, _, _, h => by cases h
  | o :: r, A, oc, g, args, B, h => by
    unfold splitCall at h
    split at h
    · rename_i g' as ats ho
      split at h
      · rename_i hg
        cases h
        exact ⟨rfl, by simpa using hg, as, ats, rfl, ho⟩
      · cases h
    · split at h
      · rename_i a c g' as b hr
        cases h
        obtain ⟨q1, q2⟩ := splitK_eq hr
        exact ⟨by rw [q1]; rfl, q2⟩
      · cases h
theorem evOps_draw_app {all : List Oper} : ∀ {A : List Oper} {r : List Oper} {st stA : St σ}, evOps C H Y true all A st = some (.normal, stA) → evOps C H Y true all (A ++ r) st = evOps C H Y true all r stA
  | [], r, st, stA, h => by cases h; rfl
  | o :: A, r, st, stA, h => by
    simp only [evOps, List.cons_append] at h ⊢
    split at h
    · rename_i st1 h1
      exact evOps_draw_app h
    · rename_i hne
      exact (hne _ h).elim
theorem drawLK_sound {inl : InlP σ β} (hp : PureOk T H) (hI : InlPOk H Y inl) {ops : List Oper} {st : St σ} {k : Ex → St σ → Option β} {r : β} (h : drawLK C T Y inl ops st k = some r) :
    ∃ ex st', evDrawL C H Y ops st = some (ex, st') ∧ (∀ st2, evOps C H Y true ops ops st ≠ some (.normal, st2)) ∧ k ex st' = some r := by
  unfold drawLK at h
  split at h
  case h_2 => cases h
  rename_i A oc g args B hs
  obtain ⟨hops, hgd, as0, ats, rfl, hoc⟩ := splitK_eq hs
  obtain ⟨stA, h1, h2⟩ := (opsK_sound hp hI h).resolve_right (fun ⟨u, stA, hd, _⟩ => by cases hd)
  split at h2
  case h_2 => cases h2
  rename_i f as hca
  split at h2
  case isFalse => cases h2
  rename_i hc
  simp only [Bool.and_eq_true] at hc
  have hne : ∀ st2, evOps C H Y true ops ops st ≠ some (.normal, st2) := by
    intro st2 he
    have hx : evOps C H Y true ops (A ++ oc :: B) st = some (.normal, st2) := by rw [← hops]; exact he
    rw [evOps_draw_app h1] at hx
    have hz : step1 C H Y true ops oc stA = none := by
      unfold callArgs at hca
      simp only [step1, wantedA, hgd, evOp, hoc]
      split at hca
      · rename_i f' first caps hg
        simp only [lendable, hg] at hc
        split at hca
        · rename_i hc'
          simp only [Bool.and_eq_true, Bool.not_eq_true', Option.isNone_iff_eq_none] at hc'
          have hth : ¬ C.thaw f' = true := by rw [hc'.2]; simp
          have hnp : tryPure C H f' (first ++ as0.toList.map (operand stA.env) ++ caps) = none := by
            unfold tryPure
            split
            · rfl
            · rename_i hk
              have h3 := hc.1
              simp only [hk, Bool.false_or, Option.isNone_iff_eq_none] at h3
              rw [h3]
          simp only [hg, hc'.1]
          rw [if_neg hth, hnp]
          simp
        · cases hca
      · cases hca
    simp only [evOps, hz] at hx
    cases hx
  obtain ⟨q, b, t, s', h3, h4⟩ := lendP_sound hI h2
  have hlight : (lightOk stA.env stA.boxes.length (lentB as stA.boxes) ops oc 0 A && B.all (edge A.length) && drawOk C.P stA.env ops 0 ops) = true := by simp only [Bool.and_eq_true]; exact hc.2
  cases q with
  | ret v =>
    simp only [putK_eq] at h4
    rcases opsK_sound hp hI h4 with ⟨stf, h5, h6⟩ | ⟨u, stf, hd, _⟩
    · split at h6
      · rename_i hok
        refine ⟨.normal, stf, ?_, hne, h6⟩
        unfold evDrawL
        simp only [hs, h1, hca, h3]
        rw [if_pos hlight]
        have h5' : evOps C H Y true ops B { env := putA stA.env oc.dst v, boxes := b, toks := t, s := s' } = some (.normal, stf) := h5
        simp only [h5']
        rw [if_pos hok]
      · cases h6
    · cases hd
  | panic pv =>
    simp only [fBs_eq, fSp_eq] at h4
    split at h4
    · cases ‹Out.panic _ = Out.ret _›
    · rename_i u he
      cases he
      refine ⟨.panic (.d (.val u)), _, ?_, hne, h4⟩
      unfold evDrawL
      simp only [hs, h1, hca, h3]
      rw [if_pos hlight]
    · cases h4
def SegOk (C : Cfg) (H : Hd) (f : FuncId) (rnd : Bool) (Y : Yd σ) (e : SegE σ) (code : Code) : Prop := ∀ (β : Type) (st : St σ) (k : Ex → St σ → Option β) (r : β), e st k = some r →
  ∃ ex st', evCode C H f C.lim rnd σ Y code st = some (ex, st') ∧ k ex st' = some r
def segsOf (seg : Nat → Option (SegE σ)) : Code → List (Nat × Code)
  | .seq a b => segsOf seg a ++ segsOf seg b
  | .cond _ a b => segsOf seg a ++ segsOf seg b
  | .block id c => match seg id with
    | some _ => [(id, c)]
    | none => segsOf seg c
  | .loop c => segsOf seg c
  | _ => []
def SegsOk (C : Cfg) (H : Hd) (f : FuncId) (rnd : Bool) (Y : Yd σ) (seg : Nat → Option (SegE σ)) (code : Code) : Prop := ∀ p ∈ segsOf seg code, ∀ (e : SegE σ), seg p.1 = some @e → SegOk C H f rnd Y @e (.block p.1 p.2)
theorem lit_eq {st : St σ} {c : Operand} {b : Bool} (h : operand st.env c = .d (.val (.bool b))) : litSt st c b = st := by
  cases c with
  | tmp t => simp only [litSt]; rw [putA_set h]
  | _ => rfl
theorem evK_sound {inl : InlP σ β} (hp : PureOk T H) (hI : InlPOk H Y inl) {seg : Nat → Option (SegE σ)} {f : FuncId} {rnd : Bool} : ∀ {code : Code} {st : St σ} {k : Ex → St σ → Option β} {r : β}, SegsOk C H f rnd Y seg code → evK C T Y inl seg f code st k = some r →
    ∃ ex st', evCode C H f C.lim rnd σ Y code st = some (ex, st') ∧ k ex st' = some r := by
  intro code
  induction code with
  | skip => intro st k r _ h; exact ⟨_, _, rfl, h⟩
  | region id ops draw =>
    intro st k r _ h
    simp only [evK, fSt_eq] at h
    split at h
    · rename_i hdl
      simp only [Bool.and_eq_true] at hdl
      obtain ⟨hdr, _⟩ := hdl
      subst hdr
      obtain ⟨ex, st', h1, h2, h3⟩ := drawLK_sound hp hI h
      refine ⟨ex, st', ?_, h3⟩
      simp only [evCode]
      exact h1
    · rcases opsK_sound hp hI h with ⟨st', h1, h2⟩ | ⟨u, st', hd, h1, h2⟩
      · cases draw with
        | true =>
          simp only [if_true] at h2
          split at h2
          · rename_i hok
            exact ⟨.normal, st', by simp only [evCode, h1, hok, if_true], h2⟩
          · cases h2
        | false =>
          simp only [Bool.false_eq_true, if_false] at h2
          exact ⟨.normal, st', by simp only [evCode]; exact h1, h2⟩
      · subst hd
        simp only [Bool.false_eq_true, if_false] at h2
        exact ⟨_, st', by simp only [evCode]; exact h1, h2⟩
  | seq a b iha ihb =>
    intro st k r hs h
    simp only [evK] at h
    obtain ⟨ex, st1, h1, h2⟩ := iha (fun p hp' => hs p (by simp [segsOf, hp'])) h
    cases ex with
    | normal =>
      obtain ⟨ex, st2, h3, h4⟩ := ihb (fun p hp' => hs p (by simp [segsOf, hp'])) h2
      exact ⟨ex, st2, by simp only [evCode, h1]; exact h3, h4⟩
    | exit j => exact ⟨.exit j, st1, by simp only [evCode, h1], h2⟩
    | ret => exact ⟨.ret, st1, by simp only [evCode, h1], h2⟩
    | panic v => exact ⟨.panic v, st1, by simp only [evCode, h1], h2⟩
  | cond c a b iha ihb =>
    intro st k r hs h
    simp only [evK] at h
    split at h
    · rename_i x hc
      cases x with
      | true =>
        simp only [cond_true] at h
        rw [lit_eq hc] at h
        obtain ⟨ex, st1, h1, h2⟩ := iha (fun p hp' => hs p (by simp [segsOf, hp'])) h
        exact ⟨ex, st1, by simp only [evCode, hc]; exact h1, h2⟩
      | false =>
        simp only [cond_false] at h
        rw [lit_eq hc] at h
        obtain ⟨ex, st1, h1, h2⟩ := ihb (fun p hp' => hs p (by simp [segsOf, hp'])) h
        exact ⟨ex, st1, by simp only [evCode, hc]; exact h1, h2⟩
    · cases h
  | block id c ih =>
    intro st k r hs h
    simp only [evK] at h
    split at h
    · rename_i e he
      exact hs (id, c) (by simp [segsOf, he]) e he _ _ _ _ h
    · rename_i he
      obtain ⟨ex, st1, h1, h2⟩ := ih (fun p hp' => hs p (by simp only [segsOf, he]; exact hp')) h
      cases ex with
      | normal => exact ⟨.normal, _, by simp only [evCode, h1], h2⟩
      | exit j =>
        simp only at h2
        split at h2
        · rename_i hj
          exact ⟨.normal, _, by simp only [evCode, h1, if_pos hj], h2⟩
        · rename_i hj
          exact ⟨.exit j, _, by simp only [evCode, h1, if_neg hj], h2⟩
      | ret => exact ⟨.ret, _, by simp only [evCode, h1], h2⟩
      | panic v => exact ⟨.panic v, _, by simp only [evCode, h1], h2⟩
  | loop c ih =>
    intro st k r hs h
    simp only [evK] at h
    have key : ∀ (n m mt : Nat) (st : St σ), unrollK (fun st k => evK C T Y inl seg f c st k) m mt n st k = some r → ∃ ex st', loopN (evCode C H f C.lim rnd σ Y c) m mt n st = some (ex, st') ∧ k ex st' = some r := by
      intro n m mt
      induction n with
      | zero => intro st h; cases h
      | succ n ihn =>
        intro st h
        simp only [unrollK, fSt_eq] at h
        obtain ⟨ex, st1, h1, h2⟩ := ih (fun p hp' => hs p (by simpa [segsOf] using hp')) h
        cases ex with
        | normal =>
          obtain ⟨ex, st2, h3, h4⟩ := ihn _ h2
          exact ⟨ex, st2, by simp only [loopN, h1]; exact h3, h4⟩
        | exit j => exact ⟨.exit j, _, by simp only [loopN, h1], h2⟩
        | ret => exact ⟨.ret, _, by simp only [loopN, h1], h2⟩
        | panic v => exact ⟨.panic v, _, by simp only [loopN, h1], h2⟩
    obtain ⟨ex, st', h1, h2⟩ := key _ _ _ _ h
    exact ⟨ex, st', by simp only [evCode]; exact h1, h2⟩
  | exit id => intro st k r _ h; exact ⟨_, _, rfl, h⟩
  | ret => intro st k r _ h; exact ⟨_, _, rfl, h⟩
  | _ => intro st k r _ h; simp [evK] at h
theorem bodyK_sound {inl : InlP σ β} (hp : PureOk T H) (hI : InlPOk H Y inl) {seg : Nat → Option (SegE σ)} {f : FuncId} {fn : Func} (hs : ∀ c, fn.body = some c → SegsOk C H f false Y seg c) {args : List AV} {boxes : List Box} {toks : List Nat} {s : σ} {k : Out → List Box → List Nat → σ → Option β} {r : β}
    (h : bodyK C T Y inl seg f fn args boxes toks s k = some r) : ∃ o b t s', evBody C H f C.lim fn σ Y args boxes toks s = some (o, b, t, s') ∧ k o b t s' = some r := by
  unfold bodyK at h
  split at h
  · rename_i c hc
    obtain ⟨ex, st', h1, h2⟩ := evK_sound hp hI (hs c hc) h
    have fin : (match resultsA C.P st'.env st'.boxes fn.results.toList with
      | some vs => if finAt C f boxes toks then k (.ret (single (vs.map (gcA boxes.length toks.length)))) ((st'.boxes.take boxes.length).map (gcBox boxes.length toks.length)) (st'.toks.take toks.length) st'.s else k (.ret (single vs)) st'.boxes st'.toks st'.s
      | none => none) = some r → (ex = .normal ∨ ex = .ret) → ∃ v b t s', evBody C H f C.lim fn σ Y args boxes toks s = some (v, b, t, s') ∧ k v b t s' = some r := by
      intro h2 he
      split at h2
      · rename_i vs hvs
        split at h2
        · rename_i hf
          refine ⟨_, _, _, _, ?_, h2⟩
          rcases he with rfl | rfl <;> simp only [evBody, hc, h1, hvs, if_pos hf]
        · rename_i hf
          refine ⟨_, _, _, _, ?_, h2⟩
          rcases he with rfl | rfl <;> simp only [evBody, hc, h1, hvs, if_neg hf]
      · cases h2
    cases ex with
    | normal => exact fin h2 (.inl rfl)
    | ret => exact fin h2 (.inr rfl)
    | exit j => cases h2
    | panic v => exact ⟨_, _, _, _, by simp only [evBody, hc, h1], h2⟩
  · cases h
theorem bodyK_ret {inl : InlP σ β} (hp : PureOk T H) (hI : InlPOk H Y inl) {seg : Nat → Option (SegE σ)} {f : FuncId} {fn : Func} (hs : ∀ c, fn.body = some c → SegsOk C H f false Y seg c) {args : List AV} {boxes : List Box} {toks : List Nat} {s : σ} {k : AV → List Box → List Nat → σ → Option β} {r : β}
    (h : bodyK C T Y inl seg f fn args boxes toks s (retK k) = some r) : ∃ v b t s', evBody C H f C.lim fn σ Y args boxes toks s = some (.ret v, b, t, s') ∧ k v b t s' = some r := by
  obtain ⟨o, b, t, s', h1, h2⟩ := bodyK_sound hp hI hs h
  obtain ⟨v, rfl, h3⟩ := retK_some h2
  exact ⟨v, b, t, s', h1, h3⟩
end Ev
