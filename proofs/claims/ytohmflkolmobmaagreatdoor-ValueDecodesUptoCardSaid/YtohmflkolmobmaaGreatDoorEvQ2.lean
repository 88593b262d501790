/- What functions of the program compute, as plain Lean functions, each with its proof by a proved reader; plain laws about them (EvQ2). -/
import Derived.LaidEqlPtr
import Derived.Test.YtohmflkolmobmaaGreatDoorEvQ
set_option linter.unusedSimpArgs false
set_option linter.unusedVariables false
namespace Ev
open Go Go.RowKit
variable {P : Program} {c : Cx}
def spliceV (us : List Value) (off : Nat) : List Value → List Value
  | [] => us
  | v :: r => spliceV (us.set off v) (off + 1) r
theorem ACells.set : ∀ {cs : List AV} {us : List Value}, ACells c cs us → ∀ (t : Nat) {x : AV} {u : Value}, u.oneCell' = true → ARel c x u → ACells c (cs.set t x) (us.set t u)
  | [], us, h, _, _, _, _, _ => by
    have : us = [] := h
    subst this; exact rfl
  | x :: xs, us, h, t, y, v, hv, hy => by
    obtain ⟨u, us', rfl, ho, h1, h2⟩ := h
    cases t with
    | zero => exact ⟨v, us', rfl, hv, hy, h2⟩
    | succ t => exact ⟨u, us'.set t v, rfl, ho, h1, ACells.set h2 t hv hy⟩
theorem ACells.splice : ∀ {vs : List AV} {ws : List Value} {cs : List AV} {us : List Value} (off : Nat), ACells c vs ws → ACells c cs us → ACells c (splice cs off vs) (spliceV us off ws)
  | [], ws, cs, us, off, h, h' => by
    have : ws = [] := h
    subst this; exact h'
  | x :: vs, ws, cs, us, off, h, h' => by
    obtain ⟨u, us', rfl, ho, h1, h2⟩ := h
    exact ACells.splice (off + 1) h2 (ACells.set h' off ho h1)
theorem length_splice : ∀ (vs : List AV) (cs : List AV) (off : Nat), (splice cs off vs).length = cs.length
  | [], _, _ => rfl
  | _ :: vs, cs, off => by simp only [splice]; rw [length_splice vs]; simp
theorem length_spliceV : ∀ (vs : List Value) (cs : List Value) (off : Nat), (spliceV cs off vs).length = cs.length
  | [], _, _ => rfl
  | _ :: vs, cs, off => by simp only [spliceV]; rw [length_spliceV vs]; simp
theorem foldl_splice : ∀ (ws : List Value) (k off : Nat) (us : Array Value), ((ws.zipIdx k).foldl (fun (cs : Array Value) (p : Value × Nat) => cs.setIfInBounds (off + p.2) p.1) us).toList = spliceV us.toList (off + k) ws
  | [], _, _, _ => rfl
  | w :: ws, k, off, us => by
    simp only [List.zipIdx_cons, List.foldl_cons, spliceV]
    rw [foldl_splice ws (k + 1) off]
    simp [Nat.add_assoc]
theorem fill_rel {place : Nat → Option (Nat × Nat)} {ρ : Operand → AV} {ρ' : Operand → Value} (hρ : ∀ x, ARel c (ρ x) (ρ' x)) : ∀ {parts : List (Nat × Operand)} {cs r : List AV} {us : Array Value}, ACells c cs us.toList → fillA place ρ cs parts = some r →
    ∃ rs : Array Value, Instr.fill place us (parts.map fun p => (p.1, ρ' p.2)) = some rs ∧ ACells c r rs.toList
  | [], cs, r, us, h, e => by simp only [fillA, Option.some.injEq] at e; subst e; exact ⟨us, rfl, h⟩
  | (i, x) :: parts, cs, r, us, h, e => by
    simp only [fillA] at e
    split at e
    · rename_i off size vs hp hv
      split at e
      · rename_i hb
        have hw := ARel.cells (hρ x) hv
        have hl := ACells.length hw
        have hlu := ACells.length h
        have hs : (ρ' x).cells.size = size := by rw [← hb.1, hl]; simp
        have hz : ((ρ' x).cells.zipIdx.foldl (fun cs (c, j) => cs.setIfInBounds (off + j) c) us).toList = spliceV us.toList off (ρ' x).cells.toList := by
          have := foldl_splice (ρ' x).cells.toList 0 off us
          rw [Nat.add_zero] at this
          rw [← this]
          congr 1
          rw [← Array.foldl_toList]
          simp
        obtain ⟨rs, h1, h2⟩ := fill_rel hρ (us := (ρ' x).cells.zipIdx.foldl (fun cs (c, j) => cs.setIfInBounds (off + j) c) us) (by rw [hz]; exact ACells.splice off hw h) e
        refine ⟨rs, ?_, h2⟩
        simp only [List.map_cons, Instr.fill, hp]
        rw [if_neg (by simp at hlu; simp [hs]; omega)]
        exact h1
      · cases e
    · cases e
theorem zeroOf_rel (c : Cx) {t : TypeId} {x : AV} (e : zeroOf P t = some x) : ∃ z, (∀ w, (zeroValue t).run P w = .ok z w) ∧ ARel c x z := by
  unfold zeroOf at e
  split at e
  · rename_i i hi
    cases hz : i.zero with
    | none => simp [hz] at e
    | some z =>
      simp [hz] at e
      subst e
      exact ⟨z, fun w => by simp [zeroValue, typeInfo, hi, hz], ofConst_rel c z⟩
  · cases e
theorem place_run {t : TypeId} {pl : Nat → Option (Nat × Nat)} (e : placeOf P t = some pl) {zero : Array Value} {parts : List (Nat × Value)} {rs : Array Value} (hf : Instr.fill pl zero parts = some rs) {z : Value} (hz : z.cells = zero) (hzr : ∀ w, (zeroValue t).run P w = .ok z w) (w : World) :
    (Instr.build t parts.toArray).run P w = .ok (.agg rs) w := by
  unfold placeOf at e
  split at e
  · rename_i fs hs
    split at e
    · rename_i places hp
      cases e
      simp only [Instr.build, Sem.run_bind, hzr w, Result.andThen, run_underlying hs, semPure_run _ hp w, hz, hf, Sem.run_pure]
    · cases e
  · rename_i n el hs
    split at e
    · rename_i hi
      cases e
      obtain ⟨i, hinf⟩ := Option.isSome_iff_exists.1 hi
      have hc := cellsOf_info hinf
      rw [hc] at hf
      simp only [Instr.build, Sem.run_bind, hzr w, Result.andThen, run_underlying hs, sizeOf_run w hinf, hz, hf, Sem.run_pure]
    · cases e
  · cases e
theorem build_run {t : TypeId} {ρ : Operand → AV} {ρ' : Operand → Value} (hρ : ∀ x, ARel c (ρ x) (ρ' x)) {parts : Array (Nat × Operand)} {r : AV} (e : evBuild P t ρ parts.toList = some r) (w : World) :
    ∃ q, (Instr.build t (parts.map fun (i, x) => (i, ρ' x))).run P w = .ok q w ∧ ARel c r q := by
  unfold evBuild at e
  split at e
  · rename_i zs pl hz hp
    split at e
    · rename_i cs hf
      cases e
      cases hzz : zeroOf P t with
      | none => simp [hzz] at hz
      | some x =>
        simp [hzz] at hz
        obtain ⟨z, hzr, hzrel⟩ := zeroOf_rel c hzz
        obtain ⟨rs, h1, h2⟩ := fill_rel (us := z.cells) hρ (ARel.cells hzrel hz) hf
        have := place_run hp h1 rfl hzr w
        refine ⟨.agg rs, ?_, ?_⟩
        · rw [← this]
          congr 2
          apply Array.ext'
          simp
        · have := mkAgg_rel h2
          simpa using this
    · cases e
  · cases e
theorem equal_of {t : TypeId} {u v : Value} {b : Bool} {w : World} (h : ∀ n, (Op.equalIn (n + 1) t u v).run P w = .ok b w) : (Op.equal t u v).run P w = .ok b w := h 9999
theorem same_run {x y : AV} {u v : Value} {b : Bool} (hx : ARel c x u) (hy : ARel c y v) {d : TypeDesc} (e : sameT P d x y = some b) {t : TypeId} (ht : P.underlying t = some d) (op : BinOp) (ox oy : Operand) (w : World) :
    (Op.equal t u v).run P w = .ok b w ∧ (eqGuard op t ox oy u v).run P w = .ok () w ∧ (∀ k n, u ≠ .int k n) ∧ (∀ k n, u ≠ .float k n) ∧ (∀ k n m, u ≠ .complex k n m) ∧ ∀ s, u ≠ .string s := by
  unfold sameT at e
  split at e <;> first | (cases e; done) | skip
  · rename_i el i off j off'
    split at e
    · rename_i hc
      obtain ⟨hi, rfl⟩ := hc
      obtain ⟨inf, hinf⟩ := Option.isSome_iff_exists.1 hi
      simp only [ARel] at hx hy
      obtain ⟨k, hk, rfl⟩ := hx
      obtain ⟨k', hk', rfl⟩ := hy
      rw [hk] at hk'
      cases hk'
      split at e
      · rename_i ho
        subst ho
        cases e
        refine ⟨equal_of fun n => ?_, by unfold eqGuard; cases op <;> rfl, by simp, by simp, by simp, by simp⟩
        simp [Op.equalIn, run_underlying ht, Go.sizeOf, typeInfo, hinf, run_sameAddr_same]
      · rename_i ho
        split at e
        · rename_i hz
          cases e
          have hz' : inf.size ≠ 0 := by rwa [cellsOf_info hinf] at hz
          have hne : ((⟨k, off, none⟩ : Addr) == ⟨k, off', none⟩) = false := by
            cases hq : ((⟨k, off, none⟩ : Addr) == ⟨k, off', none⟩) with
            | false => rfl
            | true =>
              have := eq_of_beq hq
              simp only [Addr.mk.injEq] at this
              exact (ho this.2.1).elim
          refine ⟨equal_of fun n => ?_, by unfold eqGuard; cases op <;> rfl, by simp, by simp, by simp, by simp⟩
          simp [Op.equalIn, run_underlying ht, Go.sizeOf, typeInfo, hinf, hz', sameAddr, hne]
        · cases e
    · cases e
  · cases e
    simp only [ARel, DRel] at hx hy
    obtain ⟨k, _, rfl⟩ := hx
    obtain ⟨rfl, _⟩ := hy
    refine ⟨equal_of fun n => ?_, by unfold eqGuard; cases op <;> rfl, by simp, by simp, by simp, by simp⟩
    simp only [Op.equalIn, Sem.run_bind, run_underlying ht, Result.andThen]
    rfl
  · cases e
    simp only [ARel, DRel] at hx hy
    obtain ⟨k, _, rfl⟩ := hy
    obtain ⟨rfl, _⟩ := hx
    refine ⟨equal_of fun n => ?_, by unfold eqGuard; cases op <;> rfl, by simp, by simp, by simp, by simp⟩
    simp only [Op.equalIn, Sem.run_bind, run_underlying ht, Result.andThen]
    rfl
  · cases e
    simp only [ARel, DRel] at hx hy
    obtain ⟨us, vs, rfl, _⟩ := hx
    obtain ⟨rfl, _⟩ := hy
    refine ⟨equal_of fun n => ?_, by unfold eqGuard; cases op <;> rfl, by simp, by simp, by simp, by simp⟩
    simp only [Op.equalIn, Sem.run_bind, run_underlying ht, Result.andThen]
    rfl
  · cases e
    simp only [ARel, DRel] at hx hy
    obtain ⟨us, vs, rfl, _⟩ := hy
    obtain ⟨rfl, _⟩ := hx
    refine ⟨equal_of fun n => ?_, by unfold eqGuard; cases op <;> rfl, by simp, by simp, by simp, by simp⟩
    simp only [Op.equalIn, Sem.run_bind, run_underlying ht, Result.andThen]
    rfl
  · cases e
    simp only [ARel, DRel] at hx hy
    obtain ⟨l, _, rfl⟩ := hx
    obtain ⟨rfl, _⟩ := hy
    refine ⟨equal_of fun n => ?_, by unfold eqGuard; cases op <;> rfl, by simp, by simp, by simp, by simp⟩
    simp only [Op.equalIn, Sem.run_bind, run_underlying ht, Result.andThen]
    rfl
  · cases e
    simp only [ARel, DRel] at hx hy
    obtain ⟨z, rfl, _⟩ := hx
    obtain ⟨rfl, _⟩ := hy
    refine ⟨equal_of fun n => ?_, by unfold eqGuard; cases op <;> rfl, by simp, by simp, by simp, by simp⟩
    simp only [Op.equalIn, Sem.run_bind, run_underlying ht, Result.andThen]
    rfl
  · cases e
    simp only [ARel, DRel] at hx hy
    obtain ⟨z, rfl, _⟩ := hy
    obtain ⟨rfl, _⟩ := hx
    refine ⟨equal_of fun n => ?_, by unfold eqGuard; cases op <;> rfl, by simp, by simp, by simp, by simp⟩
    simp only [Op.equalIn, Sem.run_bind, run_underlying ht, Result.andThen]
    rfl
theorem bin_run {x y : AV} {u v : Value} {r : AV} {op : BinOp} {t : TypeId} {ox oy : Operand} (hx : ARel c x u) (hy : ARel c y v) (e : evBin P op t ox oy x y = some r) (w : World) :
    ∃ q, (do eqGuard op t ox oy u v; binOp op t u v : Sem Value).run P w = .ok q w ∧ ARel c r q := by
  unfold evBin at e
  split at e
  · rename_i vx vy h1 h2
    split at e
    · rename_i q hq
      cases e
      rw [ARel.toVal hx h1, ARel.toVal hy h2]
      exact ⟨q, semPure_run _ hq w, ofVal_rel c q⟩
    · cases e
  · split at e
    · rename_i d ht
      split at e
      · rename_i b hb
        cases e
        obtain ⟨h1, h2, n1, n2, n3, n4⟩ := same_run (P := P) hx hy hb ht .eql ox oy w
        refine ⟨.bool b, ?_, by simp [ARel, DRel, Value.oneCell']⟩
        have hbin : binOp .eql t u v = (do pure (.bool (← Op.equal t u v)) : Sem Value) := by
          unfold binOp
          cases u <;> simp_all
        simp only [Sem.run_bind, h2, Result.andThen, hbin, h1, Sem.run_pure]
      · rename_i b hb
        cases e
        obtain ⟨h1, h2, n1, n2, n3, n4⟩ := same_run (P := P) hx hy hb ht .neq ox oy w
        refine ⟨.bool (!b), ?_, by simp [ARel, DRel, Value.oneCell']⟩
        have hbin : binOp .neq t u v = (do pure (.bool (!(← Op.equal t u v))) : Sem Value) := by
          unfold binOp
          cases u <;> simp_all
        simp only [Sem.run_bind, h2, Result.andThen, hbin, h1, Sem.run_pure]
      · cases e
    · cases e
theorem bytesOf_rel {x : AV} {u : Value} {b : ByteArray} (hx : ARel c x u) (e : bytesOf x = some b) : DRel c.ro (.bytes b) u := by
  unfold bytesOf at e
  split at e <;> first | (cases e; done) | skip
  · cases e; exact hx
  · cases e; exact ARel.toD _ hx rfl
  · cases e
    simp only [ARel, DRel] at hx ⊢
    obtain ⟨A, k, rfl, hk, _⟩ := hx
    exact ⟨A, k, rfl, hk, .inl rfl⟩
  · cases e
    simp only [ARel] at hx
    subst hx
    simp only [DRel]
    exact ⟨none, 0, rfl, Nat.le_refl _, .inl rfl⟩
theorem strOfNums_bytes (b : ByteArray) : strOfNums (b.data.toList.map fun x => (x.toNat : Int)) = b := by
  have h : (strOfNums (b.data.toList.map fun x => (x.toNat : Int))).data.toList = b.data.toList := by
    rw [strOfNums_data, List.map_map]
    have : ((fun n : Int => UInt8.ofNat n.toNat) ∘ fun x : UInt8 => (x.toNat : Int)) = id := by
      funext x; simp
    rw [this, List.map_id]
  have h2 := Array.ext' h
  cases b
  cases h3 : strOfNums (List.map (fun x : UInt8 => (x.toNat : Int)) _)
  simp_all
theorem bytes_string_run {x : AV} {u : Value} {b : ByteArray} (hx : ARel c x u) (e : bytesOf x = some b) {src dst el : TypeId} (hs : P.underlying src = some (.slice el)) (he : isByte P el = true) (hd : P.underlying dst = some .string) {w : World} (hro : c.ro.holds w) :
    (convert src dst u).run P w = .ok (.string b) w := by
  have he' : P.underlying el = some (.int .u8) := by
    unfold isByte at he
    split at he
    · assumption
    · cases he
  have h := bytesOf_rel hx e
  simp only [DRel] at h
  obtain ⟨A, k, rfl, hk, hc⟩ := h
  rcases hc with h0 | ⟨g, off, rfl, hm⟩
  · have hb : b = ByteArray.empty := by
      cases b with
      | mk d => simp [ByteArray.size] at h0; subst h0; rfl
    subst hb
    cases A with
    | none => exact run_convert_bytes_nil w src el hs he' _ _ dst hd
    | some a =>
      rw [run_convert_bytes_string w src dst el _ _ k hs he' hd]
      have := run_bytesToString (P := P) w a 0 k [] (by simp [loadCells, loadCellsFrom])
      simpa using this
  · have := run_convert_bytes_arg (P := P) w src el hs he' g off b.size k (b.data.toList.map fun x => (x.toNat : Int)) (by rw [List.length_map, Array.length_toList]; rfl) (fun i hi => by
      have hb : b[i]? = some b[i] := getElem?_pos b i hi
      rw [hro _ _ _ (hm i _ hb)]
      have hl : i < b.data.toList.length := by rw [Array.length_toList]; exact hi
      rw [List.getD_eq_getElem?_getD, List.getElem?_map, List.getElem?_eq_getElem hl]
      rfl) dst hd
    rw [this, strOfNums_bytes]
end Ev
