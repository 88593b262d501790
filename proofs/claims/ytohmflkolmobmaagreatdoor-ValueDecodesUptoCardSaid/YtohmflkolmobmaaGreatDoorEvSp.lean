/- What functions of the program compute, as plain Lean functions, each with its proof by a proved reader; plain laws about them (EvSp). -/
import Derived.Test.YtohmflkolmobmaaGreatDoorEvF
import Derived.Test.YtohmflkolmobmaaGreatDoorEvK
import Derived.Lib.UnsafeStr
set_option linter.unusedSimpArgs false
set_option linter.unusedVariables false
namespace Ev
open Go Go.RowKit
variable {P : Program}
def Cx.spend (c : Cx) (t : Nat) : Cx := { c with τ := c.τ.set t none, toks := c.toks.set t (c.toks.getD t 0 + 1) }
theorem spend_τ {c : Cx} {t t' : Nat} {x : Nat × Nat × Nat × Bool} (e : (c.spend t).τ[t']? = some (some x)) : t ≠ t' ∧ c.τ[t']? = some (some x) := by
  simp only [Cx.spend] at e
  by_cases h : t = t'
  · subst h
    rw [List.getElem?_set] at e
    simp at e
  · rw [List.getElem?_set_ne h] at e
    exact ⟨h, e⟩
theorem Cx.le_spend (c : Cx) {t n : Nat} (hn : c.toks[t]? = some n) : c.le (c.spend t) where
  ro := RO.le_refl _
  box := fun _ _ _ e => e
  tok := fun i m _ e => by
    simp only [id, Cx.spend]
    by_cases h : t = i
    · subst h
      rw [hn] at e; cases e
      have hl := (List.getElem?_eq_some_iff.1 hn).1
      refine ⟨n + 1, ?_, by omega, fun e => by omega⟩
      have : c.toks.getD t 0 = n := by simp [List.getD_eq_getElem?_getD, hn]
      rw [this]; simp [hl]
    · exact ⟨m, by rw [List.getElem?_set_ne h]; exact e, Nat.le_refl _, fun _ => by rw [List.getElem?_set_ne h]⟩
  l := rfl
theorem WOk.spend {c : Cx} {boxes : List Box} {w w' : World} (h : WOk c boxes w) {t g cap n : Nat} {z : Nat × Bool} (hn : c.toks[t]? = some n) (hτ : c.τ[t]? = some (some (g, cap, z)))
    (hs : w'.heap.size = w.heap.size) (hold : ∀ j, j ≠ g → w'.heap[j]? = w.heap[j]?) (hcell : ∀ o, w'.cell? ⟨g, o, none⟩ = w.cell? ⟨g, o, none⟩) (hsz : ∀ m, sized w g m → sized w' g m) : WOk (c.spend t) boxes w' where
  ro := ⟨fun b o v e => by
    by_cases hb : b = g
    · subst hb; rw [hcell]; exact h.ro b o v e
    · rw [cell_of_block (hold b hb)]; exact h.ro b o v e, fun b q e => by
    by_cases hb : b = g
    · subst hb; exact hsz q (h.ro.whole b q e)
    · exact (h.ro.whole b q e).same (hold b hb), h.ro.known, fun b q e => by
    by_cases hb : b = g
    · subst hb; exact hsz q (h.ro.big b q e)
    · exact (h.ro.big b q e).same (hold b hb)⟩
  len := h.len
  box := fun i bx k hb hk => (h.box i bx k hb hk).mono (Cx.le_spend c hn) (hold k (fun e => h.tbox t _ hτ (e ▸ List.mem_of_getElem? hk)))
  nodup := h.nodup
  lt := fun k ho => by
    rw [hs]
    exact h.lt k (ho.imp id fun ⟨t', x, ht, e⟩ => ⟨t', x, (spend_τ ht).2, e⟩)
  robox := h.robox
  tlen := by simp [Cx.spend, h.tlen]
  tok := fun t' m g' cap' z' hm ht => by
    obtain ⟨hne, ht⟩ := spend_τ ht
    simp only [Cx.spend] at hm
    rw [List.getElem?_set_ne hne] at hm
    obtain ⟨h1, cur, e, h2, h3⟩ := h.tok t' m g' cap' z' hm ht
    exact ⟨h1, cur, e, (hold g' (fun e => h.tdis t' t _ _ ht hτ (fun q => hne q.symm) e)).trans h2, h3⟩
  tdis := fun t1 t2 x1 x2 h1 h2 hne => h.tdis t1 t2 x1 x2 (spend_τ h1).2 (spend_τ h2).2 hne
  tbox := fun t' x ht => h.tbox t' x (spend_τ ht).2
  dead := h.dead
theorem WOk.spendNil {c : Cx} {boxes : List Box} {w : World} (h : WOk c boxes w) {t n : Nat} (hn : c.toks[t]? = some n) : WOk (c.spend t) boxes w where
  ro := h.ro
  len := h.len
  box := fun i bx k hb hk => (h.box i bx k hb hk).mono (Cx.le_spend c hn) rfl
  nodup := h.nodup
  lt := fun k ho => h.lt k (ho.imp id fun ⟨t', x, ht, e⟩ => ⟨t', x, (spend_τ ht).2, e⟩)
  robox := h.robox
  tlen := by simp [Cx.spend, h.tlen]
  tok := fun t' m g' cap' z' hm ht => by
    obtain ⟨hne, ht⟩ := spend_τ ht
    simp only [Cx.spend] at hm
    rw [List.getElem?_set_ne hne] at hm
    exact h.tok t' m g' cap' z' hm ht
  tdis := fun t1 t2 x1 x2 h1 h2 hne => h.tdis t1 t2 x1 x2 (spend_τ h1).2 (spend_τ h2).2 hne
  tbox := fun t' x ht => h.tbox t' x (spend_τ ht).2
  dead := h.dead
theorem Evo.spendNil {c : Cx} {w w' : World} {t n : Nat} (hn : c.toks[t]? = some n) (hs : w.heap.size ≤ w'.heap.size) (hold : ∀ j, j < w.heap.size → w'.heap[j]? = w.heap[j]?) (h1 : w'.os = w.os) (h2 : w'.tape = w.tape) (h3 : w'.output = w.output) : Evo c w (c.spend t) w' where
  le := Cx.le_spend c hn
  os := h1
  tape := h2
  output := h3
  size := hs
  keep := fun k hk ho => hold k hk
  new := fun k ho => .inl (ho.imp id fun ⟨t', x, ht, e⟩ => ⟨t', x, (spend_τ ht).2, e⟩)
  ronew := fun _ _ h h' => (h' h).elim
  dead := rfl
theorem WOk.drewn {c : Cx} {boxes : List Box} {w : World} (h : WOk c boxes w) : WOk c boxes w.drew := h.other (Nat.le_refl _) fun k hk _ => rfl
theorem Evo.spend {c : Cx} {w w' : World} {t g cap n : Nat} {z : Nat × Bool} (hn : c.toks[t]? = some n) (hτ : c.τ[t]? = some (some (g, cap, z)))
    (hs : w'.heap.size = w.heap.size) (hold : ∀ j, j ≠ g → w'.heap[j]? = w.heap[j]?) (h1 : w'.os = w.os) (h2 : w'.tape = w.tape) (h3 : w'.output = w.output) : Evo c w (c.spend t) w' where
  le := Cx.le_spend c hn
  os := h1
  tape := h2
  output := h3
  size := by omega
  keep := fun k hk ho => hold k (fun e => ho (.inr ⟨t, _, hτ, e.symm⟩))
  new := fun k ho => .inl (ho.imp id fun ⟨t', x, ht, e⟩ => ⟨t', x, (spend_τ ht).2, e⟩)
  ronew := fun _ _ h h' => (h' h).elim
  dead := rfl
theorem freeze_other (w : World) (a : Addr) (n j : Nat) (h : j ≠ a.block) : (w.freeze a n).heap[j]? = w.heap[j]? := by
  unfold World.freeze
  split
  · rfl
  · simp only [Array.getElem?_modify]
    rw [if_neg (fun e => h e.symm)]
theorem freeze_size (w : World) (a : Addr) (n : Nat) : (w.freeze a n).heap.size = w.heap.size := by
  unfold World.freeze
  split <;> simp
theorem freeze_cells {w : World} {a : Addr} {n : Nat} {cs : Array Value} {e : TypeId} {fz : Nat × Nat} (h : w.heap[a.block]? = some (.cells cs e fz)) : ∃ fz', (w.freeze a n).heap[a.block]? = some (.cells cs e fz') := by
  unfold World.freeze
  split
  · exact ⟨fz, h⟩
  · refine ⟨if fz.1 == fz.2 then (a.off, a.off + n) else (min fz.1 a.off, max fz.2 (a.off + n)), ?_⟩
    simp only [Array.getElem?_modify, if_true, h, Option.map_some]
theorem freeze_os (w : World) (a : Addr) (n : Nat) : (w.freeze a n).os = w.os ∧ (w.freeze a n).tape = w.tape ∧ (w.freeze a n).output = w.output := by
  unfold World.freeze
  split <;> exact ⟨rfl, rfl, rfl⟩
def checkRun (T : TypeId) {β : Type} (as : List AV) (bs : List Box) (ts : List Nat) (k : AV → List Box → List Nat → Option β) : Option β := match as with
  | [.ptr i 0] => match bs[i]? with
    | some (.cells (some T') [p, b]) => bif Nat.beq T' T then (match p with
      | .d (.val (.pointer none)) => k (.tup []) (bs.set i (.cells (some T') [.ptr i 0, b])) ts
      | .ptr j 0 => bif Nat.beq i j then k (.tup []) bs ts else none
      | _ => none) else none
    | _ => none
  | _ => none
theorem cond_of {β : Type _} {b : Bool} {x : Option β} {r : β} (h : (bif b then x else none) = some r) : b = true ∧ x = some r := by
  cases b with
  | true => exact ⟨rfl, h⟩
  | false => cases h
def checkE (T : TypeId) : OddE where
  run := fun as bs ts k => checkRun T as bs ts k
  fair := by
    intro β as bs ts k r h
    unfold checkRun at h
    split at h
    · rename_i i
      split at h
      · rename_i T' p b hb
        obtain ⟨hT, h⟩ := cond_of h
        split at h
        · exact ⟨_, _, _, by simp only [checkRun, hb, hT, cond_true], h⟩
        · rename_i j
          obtain ⟨hj, h⟩ := cond_of h
          exact ⟨_, _, _, by simp only [checkRun, hb, hT, hj, cond_true], h⟩
        · cases h
      · cases h
    · cases h
def strOk (b : ByteArray) : Prop := Nat.ble b.size 140737488355328 = true
instance (b : ByteArray) : Decidable (strOk b) := inferInstanceAs (Decidable (_ = _))
def strRun (T : TypeId) {β : Type} (as : List AV) (bs : List Box) (ts : List Nat) (k : AV → List Box → List Nat → Option β) : Option β := match as with
  | [.ptr i 0] => match bs[i]? with
    | some (.cells (some T') [p, .obs t b]) => bif Nat.beq T' T then ask (ts.getD t 0 = b.size ∧ strOk b) (k (.d (.val (.string b))) (bs.set i (.cells (some T') [p, .d (.bytes b)])) (ts.set t (ts.getD t 0 + 1))) else none
    | _ => none
  | _ => none
def strE (T : TypeId) : OddE where
  run := fun as bs ts k => strRun T as bs ts k
  fair := by
    intro β as bs ts k r h
    unfold strRun at h
    split at h
    · rename_i i
      split at h
      · rename_i T' p t b hb
        obtain ⟨hT, h⟩ := cond_of h
        have : ts.getD t 0 = b.size ∧ strOk b := by
          unfold ask at h
          split at h
          · assumption
          · cases h
        have h' : k (.d (.val (.string b))) (bs.set i (.cells (some T') [p, .d (.bytes b)])) (ts.set t (ts.getD t 0 + 1)) = some r := by
          unfold ask at h
          rw [if_pos this] at h
          exact h
        refine ⟨_, _, _, ?_, h'⟩
        simp only [strRun, hb, hT, cond_true, ask]
        rw [if_pos this]
      · cases h
    · cases h
structure BldOk (P : Program) (T : TypeId) (fc fs : FuncId) : Prop where
  enterC : ∀ us w, (callFunc fc us).run P w = .ok (.enter fc us) w
  enterS : ∀ us w, (callFunc fs us).run P w = .ok (.enter fs us) w
  fresh : ∀ (b : Nat) (w : World), w.cell? ⟨b, 0, none⟩ = some (.pointer none) → w.shape? b = some (T, 2) → w.frozen? ⟨b, 0, none⟩ = false →
    Calls P fc #[.pointer (some ⟨b, 0, none⟩)] w fun e w' => e = .returned (.tuple #[]) ∧ w' = w.setCell ⟨b, 0, none⟩ (.pointer (some ⟨b, 0, none⟩))
  used : ∀ (b : Nat) (w : World), w.cell? ⟨b, 0, none⟩ = some (.pointer (some ⟨b, 0, none⟩)) →
    Calls P fc #[.pointer (some ⟨b, 0, none⟩)] w fun e w' => e = .returned (.tuple #[]) ∧ w' = w
  str : ∀ (b g cap : Nat) (p : Value) (l : List UInt8) (cur : Array Value) (e : TypeId) (w : World), w.heap[b]? = some (.cells #[p, .slice (some ⟨g, 0, none⟩) l.length cap] T (0, 0)) → w.heap[g]? = some (.cells cur e (0, 0)) → byteT P e = true → l.length ≤ cap → cur.size = cap → l ≠ [] → l.length ≤ 140737488355328 →
    (∀ (j : Nat) (x : UInt8), l[j]? = some x → w.cell? ⟨g, j, none⟩ = some (.int .u8 x.toNat)) →
    Calls P fs #[.pointer (some ⟨b, 0, none⟩)] w fun e w' => e = .returned (.string ⟨l.toArray⟩) ∧ w' = w.drew.freeze ⟨g, 0, none⟩ l.length
  strNil : ∀ (b : Nat) (p : Value) (w : World), w.heap[b]? = some (.cells #[p, .slice none 0 0] T (0, 0)) →
    Calls P fs #[.pointer (some ⟨b, 0, none⟩)] w fun e w' => e = .returned (.string .empty) ∧ w' = w.drew
  strNone : ∀ (b g cap : Nat) (p : Value) (cur : Array Value) (e : TypeId) (fz : Nat × Nat) (w : World), w.heap[b]? = some (.cells #[p, .slice (some ⟨g, 0, none⟩) 0 cap] T (0, 0)) → w.heap[g]? = some (.cells cur e fz) →
    Calls P fs #[.pointer (some ⟨b, 0, none⟩)] w fun e w' => e = .returned (.string .empty) ∧ (w' = w.drew ∨ ∃ o, w' = w.drew.alloc o)
theorem check_sound {T : TypeId} {fc fs : FuncId} (hB : BldOk P T fc fs) {args : List AV} {boxes : List Box} {toks : List Nat} {v : AV} {boxes' : List Box} {toks' : List Nat} (e : checkRun T args boxes toks (fun v b t => some (v, b, t)) = some (v, boxes', toks'))
    {c : Cx} {w : World} {us : List Value} (ht : c.toks = toks) (hW : WOk c boxes w) (hA : ARels c args us) :
    Calls P fc us.toArray w (fun e w' => ∃ c' u, e = .returned u ∧ WOk c' boxes' w' ∧ Evo c w c' w' ∧ c'.toks = toks' ∧ ARel c' v u) := by
  unfold checkRun at e
  split at e
  · rename_i i
    simp only [ARels, ARel] at hA
    obtain ⟨u, us', rfl, ⟨k, hk, rfl⟩, rfl⟩ := hA
    split at e
    · rename_i T' p b hb
      obtain ⟨hT, e2⟩ := cond_of e
      clear e
      have hT := Nat.eq_of_beq_eq_true hT
      subst hT
      obtain ⟨vs, rest, el, hh, hcs, hty⟩ := hW.box i _ k hb hk
      obtain ⟨rfl, rfl⟩ := hty _ rfl
      simp only [ACells] at hcs
      obtain ⟨u0, r0, rfl, ho0, hu0, u1, r1, rfl, ho1, hu1, rfl⟩ := hcs
      have hh' : w.heap[k]? = some (.cells #[u0, u1] el (0, 0)) := hh
      have hc0 : w.cell? ⟨k, 0, none⟩ = some u0 := by simp [World.cell?, hh']
      split at e2
      · simp only [ARel, DRel] at hu0
        obtain ⟨rfl, _⟩ := hu0
        cases e2
        refine Calls.mono (hB.fresh k w hc0 (by simp [World.shape?, hh']) (by simp [World.frozen?, hh'])) ?_
        rintro e w' ⟨rfl, rfl⟩
        have hm := List.mem_of_getElem? hk
        have hd := hW.live hb (by simp) hk
        have hold : ∀ j, j ≠ k → (w.setCell ⟨k, 0, none⟩ (.pointer (some ⟨k, 0, none⟩))).heap[j]? = w.heap[j]? := fun j hj => by
          simp only [World.setCell, Array.getElem?_modify]
          rw [if_neg (fun e => hj e.symm)]
        have hs : (w.setCell ⟨k, 0, none⟩ (.pointer (some ⟨k, 0, none⟩))).heap.size = w.heap.size := by simp [World.setCell]
        have hz : ∀ n, sized w k n → sized (w.setCell ⟨k, 0, none⟩ (.pointer (some ⟨k, 0, none⟩))) k n := by
          rintro n ⟨cs, te, f, r1, r2⟩
          refine ⟨cs.setIfInBounds 0 (.pointer (some ⟨k, 0, none⟩)), te, f, ?_, by simpa using r2⟩
          simp only [World.setCell, Array.getElem?_modify, if_true, r1, Option.map_some]
          rfl
        refine ⟨c, .tuple #[], rfl, hW.setBox hk hd hs hold _ ⟨[.pointer (some ⟨k, 0, none⟩), u1], [], el, ?_, ?_, fun t h => ⟨Option.some.inj h, rfl⟩⟩ hz, Evo.setBox hm hd hs hold rfl rfl rfl, ht, ?_⟩
        · simp only [World.setCell, Array.getElem?_modify, if_true, hh', Option.map_some]
          rfl
        · simp only [ACells]
          refine ⟨_, _, rfl, rfl, ?_, _, _, rfl, ho1, hu1, rfl⟩
          simp only [ARel]
          exact ⟨k, hk, rfl⟩
        · simp only [ARel, ARels]
          exact ⟨[], rfl, rfl⟩
      · rename_i j
        obtain ⟨hj, e3⟩ := cond_of e2
        clear e2
        have hj := Nat.eq_of_beq_eq_true hj
        subst hj
        simp only [ARel] at hu0
        obtain ⟨k', hk', rfl⟩ := hu0
        rw [hk] at hk'
        cases hk'
        cases e3
        refine Calls.mono (hB.used k w hc0) ?_
        rintro e w' ⟨rfl, rfl⟩
        refine ⟨c, .tuple #[], rfl, hW, Evo.refl _ _, ht, ?_⟩
        simp only [ARel, ARels]
        exact ⟨[], rfl, rfl⟩
      · cases e2
    · cases e
  · cases e
theorem bytes_get? (b : ByteArray) (j : Nat) : b.data.toList[j]? = b[j]? := by
  rw [Array.getElem?_toList]
  by_cases h : j < b.size
  · rw [getElem?_pos b j h, Array.getElem?_eq_getElem h]; rfl
  · rw [getElem?_neg b j h, Array.getElem?_eq_none (by simpa using h)]
theorem str_empty {T : TypeId} {i k t n : Nat} {p : AV} {b : ByteArray} {boxes : List Box} {toks : List Nat} {u0 u1 : Value} {c : Cx} {w w' : World} (hW : WOk c boxes w) (hk : c.β[i]? = some k) (hd : k ∉ c.dead) (hh : w.heap[k]? = some (.cells #[u0, u1] T (0, 0)))
    (ho0 : u0.oneCell' = true) (hu0 : ARel c p u0) (ho1 : u1.oneCell' = true) (hDb : DRel c.ro (.bytes b) u1) (ht : c.toks = toks) (hn : c.toks[t]? = some n) (h0 : b.size = 0) (hw' : w' = w.drew ∨ ∃ o, w' = w.drew.alloc o) :
    ∃ c' u, (.string .empty : Value) = u ∧ WOk c' (boxes.set i (.cells (some T) [p, .d (.bytes b)])) w' ∧ Evo c w c' w' ∧ c'.toks = toks.set t (toks.getD t 0 + 1) ∧ ARel c' (.d (.val (.string b))) u := by
  have hbe : b = .empty := ByteArray.size_eq_zero_iff.1 h0
  subst hbe
  have hwo : WOk c boxes w' := by
    rcases hw' with rfl | ⟨o, rfl⟩
    · exact hW.drewn
    · exact hW.drewn.alloc o
  have hkl : k < w.heap.size := hW.lt k (.inl (List.mem_of_getElem? hk))
  have hsz : w.heap.size ≤ w'.heap.size := by
    rcases hw' with rfl | ⟨o, rfl⟩
    · exact Nat.le_refl _
    · exact (fun v : World => by simp : ∀ v : World, v.heap.size ≤ (v.alloc o).heap.size) w.drew
  have hold : ∀ j, j < w.heap.size → w'.heap[j]? = w.heap[j]? := fun j hj => by
    rcases hw' with rfl | ⟨o, rfl⟩
    · rfl
    · exact heap_alloc_ne w.drew o j hj
  have hE : Evo c w (c.spend t) w' := Evo.spendNil hn hsz hold (by rcases hw' with rfl | ⟨o, rfl⟩ <;> rfl) (by rcases hw' with rfl | ⟨o, rfl⟩ <;> rfl) (by rcases hw' with rfl | ⟨o, rfl⟩ <;> rfl)
  refine ⟨c.spend t, _, rfl, (hwo.spendNil hn).setBox hk hd rfl (fun _ _ => rfl) _ ⟨[u0, u1], [], T, (hold k hkl).trans hh, ?_, fun t h => ⟨Option.some.inj h, rfl⟩⟩ (fun _ q => q), hE, ?_, ?_⟩
  · simp only [ACells]
    refine ⟨_, _, rfl, ho0, ARel.mono hE.le hu0, _, _, rfl, ho1, ?_, rfl⟩
    simp only [ARel]
    exact hDb
  · simp only [Cx.spend, ht]
  · simp only [ARel, DRel]
    exact ⟨trivial, rfl⟩
theorem str_sound {T : TypeId} {fc fs : FuncId} (hB : BldOk P T fc fs) {args : List AV} {boxes : List Box} {toks : List Nat} {v : AV} {boxes' : List Box} {toks' : List Nat} (e : strRun T args boxes toks (fun v b t => some (v, b, t)) = some (v, boxes', toks'))
    {c : Cx} {w : World} {us : List Value} (hbt : c.ro.pin.bt = byteT P) (ht : c.toks = toks) (hW : WOk c boxes w) (hA : ARels c args us) :
    Calls P fs us.toArray w (fun e w' => ∃ c' u, e = .returned u ∧ WOk c' boxes' w' ∧ Evo c w c' w' ∧ c'.toks = toks' ∧ ARel c' v u) := by
  unfold strRun at e
  split at e
  · rename_i i
    simp only [ARels, ARel] at hA
    obtain ⟨u, us', rfl, ⟨k, hk, rfl⟩, rfl⟩ := hA
    split at e
    · rename_i T' p t b hb
      obtain ⟨hT, e2⟩ := cond_of e
      clear e
      have hT := Nat.eq_of_beq_eq_true hT
      subst hT
      have hcond : toks.getD t 0 = b.size ∧ strOk b := by
        unfold ask at e2
        split at e2
        · assumption
        · cases e2
      have e' := e2
      clear e2
      unfold ask at e'
      rw [if_pos hcond] at e'
      obtain ⟨htb, hb2⟩ := hcond
      have hb2 := Nat.le_of_ble_eq_true hb2
      cases e'
      obtain ⟨vs, rest, el, hh, hcs, hty⟩ := hW.box i _ k hb hk
      obtain ⟨rfl, rfl⟩ := hty _ rfl
      simp only [ACells] at hcs
      obtain ⟨u0, r0, rfl, ho0, hu0, u1, r1, rfl, ho1, hu1, rfl⟩ := hcs
      have hDb : DRel c.ro (.bytes b) u1 := ARel.toD _ hu1 rfl
      have hd := hW.live hb (by simp) hk
      simp only [ARel] at hu1
      rcases hu1 with ⟨g, cap, rfl, hcap, hro, n, hn, hle, hτ⟩ | ⟨h0, rfl, _, n, hn, _⟩
      case inr =>
        refine Calls.mono (hB.strNil k u0 w hh) ?_
        rintro e w' ⟨rfl, rfl⟩
        obtain ⟨c', u, rfl, z⟩ := str_empty hW hk hd hh ho0 hu0 ho1 hDb ht hn h0 (.inl rfl)
        exact ⟨c', _, rfl, z⟩
      by_cases h0 : b.size = 0
      · rw [ht] at hn
        have hn0 : n = 0 := by
          simp only [List.getD_eq_getElem?_getD, hn, Option.getD_some] at htb
          omega
        rw [← ht] at hn
        obtain ⟨q1, cur, e', q2, q3, q4, q5⟩ := hW.tok t _ g cap _ hn (hτ (by omega))
        refine Calls.mono (hB.strNone k g cap u0 cur e' (0, 0) w (by rw [h0] at hh; exact hh) q2) ?_
        rintro e w' ⟨rfl, hw'⟩
        obtain ⟨c', u, rfl, z⟩ := str_empty hW hk hd hh ho0 hu0 ho1 hDb ht hn h0 hw'
        exact ⟨c', _, rfl, z⟩
      have hb1 : 1 ≤ b.size := by omega
      have hnb : n = b.size := by
        rw [ht] at hn
        simp only [List.getD_eq_getElem?_getD, hn, Option.getD_some] at htb
        exact htb
      subst hnb
      have hτ := hτ rfl
      obtain ⟨q1, cur, e', q2, q3, q4, q5⟩ := hW.tok t _ g cap _ hn hτ
      have hlen : b.data.toList.length = b.size := by simp
      have hbne : b.data.toList ≠ [] := fun h => by rw [h] at hlen; simp at hlen; omega
      refine Calls.mono (hB.str k g cap u0 b.data.toList cur e' w (by rw [hlen]; exact hh) q2 (by rw [← hbt]; exact q5 rfl) (by rw [hlen]; exact q1) (by simpa using q3) hbne (by rw [hlen]; exact hb2) (fun j x hj => by
        rw [bytes_get?] at hj
        exact hW.ro g j _ (hro j x hj))) ?_
      rintro e w' ⟨rfl, rfl⟩
      have q2' : (w.drew).heap[g]? = some (.cells cur e' (0, 0)) := q2
      obtain ⟨fz, hfz⟩ := freeze_cells (a := ⟨g, 0, none⟩) (n := b.data.toList.length) q2'
      have hold : ∀ j, j ≠ g → (w.drew.freeze ⟨g, 0, none⟩ b.data.toList.length).heap[j]? = w.heap[j]? := fun j hj => freeze_other w.drew ⟨g, 0, none⟩ _ j hj
      have hs : (w.drew.freeze ⟨g, 0, none⟩ b.data.toList.length).heap.size = w.heap.size := freeze_size w.drew _ _
      have hkg : k ≠ g := fun e => hW.tbox t _ hτ (e ▸ List.mem_of_getElem? hk)
      have hW' := hW.spend hn hτ hs hold (fun o => by simp only [World.cell?, hfz, q2]) (fun m ⟨cs, te, f, r1, r2⟩ => by
        rw [q2] at r1; cases r1
        exact ⟨_, _, _, hfz, r2⟩)
      have ho := freeze_os w.drew ⟨g, 0, none⟩ b.data.toList.length
      have hE := Evo.spend (w' := w.drew.freeze ⟨g, 0, none⟩ b.data.toList.length) hn hτ hs hold ho.1 ho.2.1 ho.2.2
      refine ⟨c.spend t, .string ⟨b.data.toList.toArray⟩, rfl, hW'.setBox hk hd rfl (fun _ _ => rfl) _ ⟨[u0, .slice (some ⟨g, 0, none⟩) b.size cap], [], el, (hold k hkg).trans hh, ?_, fun t h => ⟨Option.some.inj h, rfl⟩⟩ (fun _ q => q), hE, ?_, ?_⟩
      · simp only [ACells]
        refine ⟨_, _, rfl, ho0, ARel.mono hE.le hu0, _, _, rfl, ho1, ?_, rfl⟩
        simp only [ARel]
        exact hDb
      · simp only [Cx.spend, ht]
      · simp only [ARel, DRel]
        exact ⟨trivial, rfl⟩
    · cases e
  · cases e
def oddB (T : TypeId) (fc fs : FuncId) : FuncId → Option OddE := fun f => bif Nat.beq f fc then some (checkE T) else bif Nat.beq f fs then some (strE T) else none
theorem oddB_sound {glob : Nat → Option (List D)} {T : TypeId} {fc fs : FuncId} (hB : BldOk P T fc fs) : OddSound P glob (oddB T fc fs) := by
  intro f g hg args boxes toks v boxes' toks' e
  unfold oddB at hg
  cases h1 : Nat.beq f fc with
  | true =>
    rw [h1] at hg
    cases hg
    have := Nat.eq_of_beq_eq_true h1
    subst this
    exact ⟨hB.enterC, fun c w us _ ht hW hA => check_sound hB e ht hW hA⟩
  | false =>
    rw [h1, cond_false] at hg
    obtain ⟨h2, hg⟩ := cond_of hg
    cases hg
    have := Nat.eq_of_beq_eq_true h2
    subst this
    exact ⟨hB.enterS, fun c w us hgl ht hW hA => str_sound hB e hgl.bt ht hW hA⟩
end Ev
