/- What functions of the program compute, as plain Lean functions, each with its proof by the reader (EvLib2); printed by a tool of this work. -/
import Derived.Test.YtedbcbncdfjocaaDoorEvHex
set_option linter.unusedSimpArgs false
set_option linter.unusedVariables false
namespace Ev
open Go Go.Proofs Go.RowKit
variable {P : Program} {glob : Nat → Option (List D)}
structure LibFits2 (glob : Nat → Option (List D)) : Prop extends LibFits glob where
  space : glob 0 = some ((Lib.asciiSpaceTab.map fun z => Value.int .u8 z).map .val)
def d91 (ds : List D) : Option (ByteArray × ByteArray) := match ds with
  | [.val (.string s), .val (.string t)] => some (s, t)
  | _ => none
def n91 : ByteArray × ByteArray → Option Bool := fun (s, t) => some (Lib.hasPrefix s.data.toList t.data.toList)
def e91 : PureE := mkE d91 n91 (fun a => .one (.val (.bool a)))
theorem spec91 : SpecOk Tryd.prog glob 91 (fun ds => e91 ds some) := by
  intro ds r h
  simp only [e91, mkE] at h
  obtain ⟨⟨s, t⟩, h1, h2⟩ := bind_some h
  obtain ⟨x, h3, h4⟩ := bind_some h2
  cases h3; cases h4
  have hds : ds = [Value.string s, Value.string t].map .val := by
    unfold d91 at h1
    split at h1
    · cases h1; rfl
    · cases h1
  subst hds
  refine ⟨fun us w => enters_run Tryd.func91 (by kernel_rfl) us w, fun ro w us hro hg ha => ?_⟩
  have := DArgs.vals ha
  subst this
  refine Calls.mono (Tryd.strings_HasPrefix s t w) ?_
  rintro e w' ⟨rfl, rfl⟩
  refine ⟨_, ro, rfl, ?_, left_below hro ⟨rfl, rfl, rfl, Nat.le_refl _, fun _ _ => rfl⟩⟩
  simp only [PRel, DRel]
  exact ⟨trivial, rfl⟩
theorem rows_strs {r : RO} {b : Nat} : ∀ (l : List ByteArray) (off : Nat), (∀ (j : Nat) x, l[j]? = some x → r b (off + j) = some (.string x)) → DRows r b 1 off (l.map fun x => .val (.string x))
  | [], _, _ => by simp only [List.map_nil, DRows]
  | x :: l, off, h => by
    simp only [List.map_cons, DRows]
    refine ⟨⟨.string x, by simp only [DRel]; exact ⟨trivial, rfl⟩, rfl, fun j v e => ?_⟩, rows_strs l (off + 1) fun j y e => by
      have := h (j + 1) y e
      rw [show off + 1 + j = off + (j + 1) by omega]; exact this⟩
    have hj : (#[Value.string x] : Array Value)[j]? = some v := e
    cases j with
    | zero =>
      simp at hj
      subst hj
      exact h 0 x rfl
    | succ j => simp at hj
theorem left_row {ro : RO} {w : World} (hro : ro.holds w) (vs : List Value) (t : TypeId) : Left (fun _ => False) ro w (fun _ => False) ⟨fun b o => if b = w.heap.size then vs[o]? else ro b o, ro.pin⟩ (w.alloc (.cells vs.toArray t (0, 0))) := by
  have hne : ∀ b o v, ro b o = some v → b ≠ w.heap.size := fun b o v e e' => by
    have := World.block_lt_of_cell? w ⟨b, o, none⟩ (hro b o v e)
    simp only at this
    omega
  have hpn : ∀ b n, ro.pin b = some n → b ≠ w.heap.size := fun b n e e' => by
    have := (hro.whole b n e).lt
    omega
  refine ⟨⟨fun b o v e => ?_, rfl⟩, ⟨fun b o v e => ?_, fun b n e => (hro.whole b n e).same (heap_alloc_ne w _ b (hro.whole b n e).lt), fun b n e => ⟨(hro.known b n e).1, fun o ho => ?_⟩⟩, rfl, rfl, rfl, by simp, fun k hk _ => heap_alloc_ne w _ k hk, fun _ h => h.elim, fun b o h0 h1 => ?_⟩
  · simp only [if_neg (hne b o v e)]; exact e
  · simp only at e
    split at e
    · rename_i hb
      subst hb
      simp only [World.cell?, heap_alloc]
      simpa using e
    · rw [cell_of_block (heap_alloc_ne w _ b (World.block_lt_of_cell? w ⟨b, o, none⟩ (hro b o v e)))]
      exact hro b o v e
  · simp only [if_neg (hpn b n e)]
    exact (hro.known b n e).2 o ho
  · simp only at h1
    split at h1
    · rename_i hb; exact .inr (by omega)
    · exact (h1 h0).elim
def d110 (ds : List D) : Option ByteArray := match ds with
  | [.val (.string s)] => some s
  | _ => none
def asciiB (s : ByteArray) : Bool := s.data.toList.all fun b => decide (b.toNat < 128)
def n110 : ByteArray → Option (List D) := fun s => ask (s.size < 4294967281 ∧ asciiB s = true) (some ((Lib.fields s.data.toList).map fun l => .val (.string ⟨l.toArray⟩)))
def e110 : PureE := mkE d110 n110 (fun a => .one (.slice a))
theorem spec110 (hl : LibFits2 glob) : SpecOk Tryd.prog glob 110 (fun ds => e110 ds some) := by
  intro ds r h
  simp only [e110, mkE] at h
  obtain ⟨s, h1, h2⟩ := bind_some h
  obtain ⟨x, h3, h4⟩ := bind_some h2
  simp only [n110] at h3
  obtain ⟨⟨hs, hasc⟩, h3⟩ := ask_some h3
  cases h3; cases h4
  have hds : ds = [Value.string s].map .val := by
    unfold d110 at h1
    split at h1
    · cases h1; rfl
    · cases h1
  subst hds
  refine ⟨fun us w => enters_run Tryd.func110 (by kernel_rfl) us w, fun ro w us hro hg ha => ?_⟩
  have := DArgs.vals ha
  subst this
  refine Calls.mono (Tryd.strings_Fields s w hs (fun j b e => by
    have := List.all_eq_true.1 hasc b (List.mem_of_getElem? e)
    simpa using this) (tabIs hro hg hl.space (by kernel_rfl))) ?_
  rintro e w' ⟨rfl, rfl⟩
  refine ⟨_, _, rfl, ?_, left_row hro _ _⟩
  simp only [PRel, DRel]
  refine ⟨_, _, by simp only [List.length_map]; rfl, by simp, .inr ⟨w.heap.size, 0, 1, rfl, ?_⟩⟩
  have := rows_strs (r := ⟨fun b o => if b = w.heap.size then ((Lib.fields s.data.toList).map fun l => Value.string ⟨l.toArray⟩)[o]? else ro b o, ro.pin⟩) (b := w.heap.size) ((Lib.fields s.data.toList).map fun l => (⟨l.toArray⟩ : ByteArray)) 0 (fun j x e => by
    simp only [if_true]
    rw [List.getElem?_map] at e ⊢
    rw [Nat.zero_add]
    cases hq : (Lib.fields s.data.toList)[j]? with
    | none => rw [hq] at e; cases e
    | some l => rw [hq] at e; cases e; rfl)
  rw [List.map_map] at this
  exact this
def strsOf : List D → Option (List ByteArray)
  | [] => some []
  | .val (.string s) :: r => (strsOf r).map (s :: ·)
  | _ => none
theorem strsOf_eq : ∀ {ds : List D} {l : List ByteArray}, strsOf ds = some l → ds = l.map fun x => .val (.string x)
  | [], l, h => by cases h; rfl
  | .val (.string s) :: r, l, h => by
    simp only [strsOf, Option.map_eq_some_iff] at h
    obtain ⟨l', h1, rfl⟩ := h
    rw [strsOf_eq h1]; rfl
  | .val (.int _ _) :: _, _, h | .val (.bool _) :: _, _, h | .slice _ :: _, _, h | .bytes _ :: _, _, h | .agg _ :: _, _, h => by simp [strsOf] at h
theorem strs_cells {r : RO} {b k : Nat} : ∀ (l : List ByteArray) (off : Nat), DRows r b k off (l.map fun x => .val (.string x)) → (l ≠ [] → k = 1) ∧ ∀ (j : Nat) x, l[j]? = some x → r b (off + j) = some (.string x)
  | [], _, _ => ⟨fun h => absurd rfl h, fun j x e => by simp at e⟩
  | x :: l, off, h => by
    simp only [List.map_cons, DRows] at h
    obtain ⟨⟨u, h1, h2, h3⟩, h4⟩ := h
    simp only [DRel] at h1
    obtain ⟨rfl, _⟩ := h1
    have hk : k = 1 := h2.symm
    subst hk
    obtain ⟨_, h5⟩ := strs_cells l (off + 1) h4
    refine ⟨fun _ => rfl, fun j y e => ?_⟩
    cases j with
    | zero => cases e; exact h3 0 (.string x) rfl
    | succ j =>
      have := h5 j y e
      rw [show off + (j + 1) = off + 1 + j by omega]; exact this
def d65 (ds : List D) : Option (List D × ByteArray) := match ds with
  | [.slice es, .val (.string s)] => some (es, s)
  | _ => none
def n65 : List D × ByteArray → Option ByteArray := fun (es, s) => (strsOf es).bind fun xs => ask (Nat.ble xs.length 140737488355328 = true ∧ Nat.ble (Lib.join (xs.map (·.data.toList)) s.data.toList).length 140737488355328 = true) (some ⟨(Lib.join (xs.map (·.data.toList)) s.data.toList).toArray⟩)
def e65 : PureE := mkE d65 n65 (fun a => .one (.val (.string a)))
theorem spec65 : SpecOk Tryd.prog glob 65 (fun ds => e65 ds some) := by
  intro ds r h
  simp only [e65, mkE] at h
  obtain ⟨⟨es, s⟩, h1, h2⟩ := bind_some h
  obtain ⟨x, h3, h4⟩ := bind_some h2
  simp only [n65] at h3
  obtain ⟨xs, hxs, h3⟩ := bind_some h3
  obtain ⟨⟨hn, hj⟩, h3⟩ := ask_some h3
  cases h3; cases h4
  have hds : ds = [.slice es, .val (.string s)] := by
    unfold d65 at h1
    split at h1
    · cases h1; rfl
    · cases h1
  subst hds
  have he := strsOf_eq hxs
  subst he
  refine ⟨fun us w => enters_run Tryd.func65 (by kernel_rfl) us w, fun ro w us hro hg ha => ?_⟩
  simp only [DArgs] at ha
  obtain ⟨u, us', rfl, hu, u2, us2, rfl, hu2, rfl⟩ := ha
  simp only [DRel] at hu hu2
  obtain ⟨rfl, _⟩ := hu2
  obtain ⟨A, c, rfl, hc, hA⟩ := hu
  by_cases hx : xs = []
  · subst hx
    refine Calls.mono (Tryd.strings_Join_none A c s w) ?_
    rintro e w' ⟨rfl, rfl⟩
    refine ⟨_, ro, rfl, ?_, left_below hro ⟨rfl, rfl, rfl, Nat.le_refl _, fun _ _ => rfl⟩⟩
    simp only [PRel, DRel]
    exact ⟨rfl, rfl⟩
  · rcases hA with hA | ⟨b, off, k, rfl, hR⟩
    · exact absurd (List.map_eq_nil_iff.1 hA) hx
    obtain ⟨_, hcells⟩ := strs_cells xs off hR
    have hb : b < w.heap.size := by
      cases xs with
      | nil => exact absurd rfl hx
      | cons y l =>
        have := hro b (off + 0) _ (hcells 0 y rfl)
        exact World.block_lt_of_cell? w ⟨b, off + 0, none⟩ this
    have hlen : (xs.map fun x => D.val (.string x)).length = xs.length := by simp
    rw [hlen] at hc ⊢
    refine Calls.mono (Tryd.strings_Join b off c xs s w (fun j x e => hro b (off + j) _ (hcells j x e)) hb (Nat.le_of_ble_eq_true hn) hc (Nat.le_of_ble_eq_true hj)) ?_
    rintro e w' ⟨rfl, hbel⟩
    refine ⟨_, ro, rfl, ?_, left_below hro hbel⟩
    simp only [PRel, DRel]
    exact ⟨trivial, rfl⟩
theorem libAll2 (hl : LibFits2 glob) : TabOk Tryd.prog glob [(91, e91), (65, e65), (110, e110), (102, e102), (107, e107), (86, e86), (82, e82), (73, e73), (74, e74)] :=
  (((libAll hl.toLibFits).cons (mkE_fair d110 n110 _) (spec110 hl)).cons (mkE_fair d65 n65 _) spec65).cons (mkE_fair d91 n91 _) spec91
end Ev
