/- What functions of the program compute, as plain Lean functions, each with its proof by a proved reader; plain laws about them (EvLibe). -/
import Derived.Test.YtohmflkolmobmaaGreatDoorEvS
import Derived.Below
import Derived.Lib.AppendIntMem
import Derived.Shelf.Unicode.DecodeSlow
import Derived.Test.YtohmflkolmobmaaGreatDoorShelf
set_option linter.unusedSimpArgs false
set_option linter.unusedVariables false
namespace Ev
open Go Go.Proofs Go.RowKit
variable {P : Program} {glob : Nat → Option (List D)}
theorem holds_below {ro : RO} {w w' : World} (h : ro.holds w) (hb : Below w.heap.size w w') : ro.holds w' := ⟨fun b o v e => by
  have h1 := h b o v e
  rw [cell_of_block (hb.block b (World.block_lt_of_cell? w ⟨b, o, none⟩ h1))]
  exact h1, fun b n e => (h.whole b n e).same (hb.block b (h.whole b n e).lt), h.known, fun b n e => (h.big b n e).same (hb.block b (h.big b n e).lt)⟩
theorem left_below {ro : RO} {w w' : World} (h : ro.holds w) (hb : Below w.heap.size w w') : Left (fun _ => False) ro w (fun _ => False) ro w' :=
  ⟨RO.le_refl _, holds_below h hb, hb.os, hb.tape, hb.output, hb.size, fun k hk _ => hb.block k hk, fun _ h => h.elim, fun _ _ h0 h1 => (h1 h0).elim⟩
theorem DRels.vals {ro : RO} : ∀ {vs us : List Value}, DRels ro (vs.map .val) us → us = vs
  | [], us, h => h
  | v :: vs, us, h => by
    obtain ⟨u, us', rfl, _, h1, h2⟩ := h
    simp only [DRel] at h1
    rw [h1.1, DRels.vals h2]
theorem glob_cell {ro : RO} {w : World} (hro : ro.holds w) (hg : GlobIn Tryz.prog glob ro) {g : Nat} {vs : List Value} (e : glob g = some (vs.map .val)) {j : Nat} {v : Value} (hj : vs[j]? = some v) : w.cell? ⟨g, j, none⟩ = some v := by
  obtain ⟨us, h1, h2, _⟩ := hg.cells g _ e
  have := DRels.vals h1
  subst this
  exact hro _ _ _ (h2 j v hj)
theorem DArgs.vals {ro : RO} : ∀ {vs us : List Value}, DArgs ro (vs.map .val) us → us = vs
  | [], us, h => h
  | v :: vs, us, h => by
    obtain ⟨u, us', rfl, h1, h2⟩ := h
    simp only [DRel] at h1
    rw [h1.1, DArgs.vals h2]
theorem DArgs.ofVals {ro : RO} : ∀ {vs : List Value}, (∀ v ∈ vs, v.oneCell' = true) → DArgs ro (vs.map .val) vs
  | [], _ => rfl
  | v :: vs, h => ⟨v, vs, rfl, by simp only [DRel]; exact ⟨trivial, h v (by simp)⟩, DArgs.ofVals fun u hu => h u (by simp [hu])⟩
theorem glob_all {ro : RO} {w : World} (hro : ro.holds w) (hg : GlobIn Tryz.prog glob ro) {g : Nat} {vs : List Value} (e : glob g = some (vs.map .val)) : ∃ t fz, w.heap[g]? = some (.cells vs.toArray t fz) := by
  obtain ⟨us, h1, h2, h3⟩ := hg.cells g _ e
  have := DRels.vals h1
  subst this
  obtain ⟨cs, t, fz, hc, hs⟩ := hro.whole g _ h3
  refine ⟨t, fz, ?_⟩
  have : cs = us.toArray := by
    apply Array.ext'
    rw [List.toList_toArray]
    apply List.ext_getElem?
    intro j
    by_cases hj : j < us.length
    · have h4 := hro g j us[j] (h2 j _ (List.getElem?_eq_getElem hj))
      simp only [World.cell?, hc] at h4
      rw [List.getElem?_eq_getElem hj]
      simpa using h4
    · have hs' : cs.toList.length = us.length := by simpa using hs
      rw [List.getElem?_eq_none (by omega), List.getElem?_eq_none (by simp; omega)]
  rw [hc, this]
theorem tabIs {ro : RO} {w : World} (hro : ro.holds w) (hg : GlobIn Tryz.prog glob ro) {g : Nat} {name : String} {k : IntKind} {zs : List Int} (e : glob g = some ((zs.map fun z => Value.int k z).map .val)) (hn : Tryz.prog.globalNamed name = some g) : Lib.TabIs Tryz.prog w name k zs := by
  obtain ⟨t, fz, h⟩ := glob_all hro hg e
  simp only [Lib.TabIs, World.var?, hn, Option.bind_some, h]
structure LibFits (glob : Nat → Option (List D)) : Prop where
  first : glob 2 = some (((List.range 256).map fun c => Value.int .u8 (Lib.firstT c)).map .val)
  accept : glob 3 = some (((List.range 32).map fun i => if i % 2 = 0 then Value.int .u8 (Lib.accLo (i / 2)) else Value.int .u8 (Lib.accHi (i / 2))).map .val)
  maxLen : ∃ m, glob 0 = some ([Value.int .i64 m].map .val)
  pow10 : glob 1 = some ((Lib.pow10Tab.map fun z => Value.int .u64 z).map .val)
  errSyntax : ∃ ev, glob 4 = some ([ev].map .val) ∧ (ev = .nilIface ∨ ∃ te pe, ev = Value.iface te pe)
  errRange : ∃ ev, glob 5 = some ([ev].map .val) ∧ (ev = .nilIface ∨ ∃ te pe, ev = Value.iface te pe)
theorem utf8Tabs {ro : RO} {w : World} (hl : LibFits glob) (hro : ro.holds w) (hg : GlobIn Tryz.prog glob ro) : Lib.Utf8Tabs 2 3 w := by
  refine ⟨fun c hc => glob_cell hro hg hl.first (by simp [hc]), fun i hi => ⟨glob_cell hro hg hl.accept ?_, glob_cell hro hg hl.accept ?_⟩⟩
  · simp [show 2 * i < 32 by omega]
  · rw [List.getElem?_map, List.getElem?_range (by omega)]
    have h1 : (2 * i + 1) % 2 = 1 := by omega
    have h2 : (2 * i + 1) / 2 = i := by omega
    simp [h1, h2]
def d184 (ds : List D) : Option ByteArray := match ds with
  | [.val (.string s)] => some s
  | _ => none
def n184 : ByteArray → Option (Int × Int) := fun s => some (((Lib.decodeGo s).1 : Int), ((Lib.decodeGo s).2 : Int))
def e184 : PureE := mkE d184 n184 (fun (a, b) => .many [.val (.int .i32 a), .val (.int .i64 b)])
theorem spec184 (hl : LibFits glob) : SpecOk Tryz.prog glob 184 (fun ds => e184 ds some) := by
  intro ds r h
  simp only [e184, mkE] at h
  obtain ⟨s, h1, h2⟩ := bind_some h
  obtain ⟨x, h3, h4⟩ := bind_some h2
  cases h3; cases h4
  have hds : ds = [Value.string s].map .val := by
    unfold d184 at h1
    split at h1
    · cases h1; rfl
    · cases h1
  subst hds
  refine ⟨fun us w => enters_run Tryz.func184 (by kernel_rfl) us w, fun ro w us hro hg ha => ?_⟩
  have := DArgs.vals ha
  subst this
  refine Calls.mono (Tryz.utf8_DecodeRuneInString s w (utf8Tabs hl hro hg)) ?_
  rintro e w' ⟨rfl, hb⟩
  refine ⟨_, ro, rfl, ?_, left_below hro hb⟩
  exact ⟨[.int .i32 (Lib.decodeGo s).1, .int .i64 (Lib.decodeGo s).2], rfl, DArgs.ofVals (vs := [.int .i32 (Lib.decodeGo s).1, .int .i64 (Lib.decodeGo s).2]) (by simp [Value.oneCell'])⟩
def d80 (ds : List D) : Option (ByteArray × ByteArray) := match ds with
  | [.val (.string s), .val (.string t)] => some (s, t)
  | _ => none
def n80 : ByteArray × ByteArray → Option (ByteArray × ByteArray × Bool) := fun (s, t) => ask (s.size < 4294967281) (some (⟨(Lib.cut s.data.toList t.data.toList).1.toArray⟩, ⟨(Lib.cut s.data.toList t.data.toList).2.1.toArray⟩, (Lib.cut s.data.toList t.data.toList).2.2))
def e80 : PureE := mkE d80 n80 (fun (a, b, c) => .many [.val (.string a), .val (.string b), .val (.bool c)])
theorem spec80 (hl : LibFits glob) : SpecOk Tryz.prog glob 80 (fun ds => e80 ds some) := by
  intro ds r h
  simp only [e80, mkE] at h
  obtain ⟨⟨s, t⟩, h1, h2⟩ := bind_some h
  obtain ⟨x, h3, h4⟩ := bind_some h2
  simp only [n80] at h3
  obtain ⟨hs, h3⟩ := ask_some h3
  cases h3; cases h4
  have hds : ds = [Value.string s, Value.string t].map .val := by
    unfold d80 at h1
    split at h1
    · cases h1; rfl
    · cases h1
  subst hds
  obtain ⟨m, hm⟩ := hl.maxLen
  refine ⟨fun us w => enters_run Tryz.func80 (by kernel_rfl) us w, fun ro w us hro hg ha => ?_⟩
  have := DArgs.vals ha
  subst this
  refine Calls.mono (Tryz.strings_Cut s t m w hs (glob_cell hro hg hm rfl)) ?_
  rintro e w' ⟨rfl, n, rfl⟩
  refine ⟨_, ro, rfl, ?_, left_below hro ⟨rfl, rfl, rfl, Nat.le_refl _, fun _ _ => rfl⟩⟩
  exact ⟨[.string _, .string _, .bool _], rfl, DArgs.ofVals (vs := [.string _, .string _, .bool _]) (by simp [Value.oneCell'])⟩
def d186 (ds : List D) : Option (ByteArray × Int × Int) := match ds with
  | [.val (.string s), .val (.int .i64 b), .val (.int .i64 z)] => some (s, b, z)
  | _ => none
def parse64 (s : ByteArray) : Int × Bool := match Lib.parseIntB 64 s.data.toList with
  | .ok v => (v, false)
  | .range => (Lib.intSat 64 s.data.toList, true)
  | _ => (0, true)
def parOk (s : ByteArray) : Prop := Nat.ble s.size 281474976710656 = true
instance (s : ByteArray) : Decidable (parOk s) := by unfold parOk; infer_instance
def n186 : ByteArray × Int × Int → Option (Int × Bool) := fun (s, b, z) => ask (b = 10 ∧ z = 64 ∧ parOk s) (some (parse64 s))
def e186 : PureE := fun ds k => (d186 ds).bind fun s => (n186 s).bind fun x => bif x.2 then k (.errs [.val (.int .i64 x.1)] 304) else k (.many [.val (.int .i64 x.1), .val .nilIface])
theorem e186_fair : Fair e186 := by
  intro β ds k r h
  simp only [e186] at h ⊢
  obtain ⟨s, h1, h2⟩ := bind_some h
  obtain ⟨x, h3, h4⟩ := bind_some h2
  cases hx : x.2 with
  | false =>
    rw [hx] at h4
    exact ⟨_, by simp [h1, h3, hx], h4⟩
  | true =>
    rw [hx] at h4
    exact ⟨_, by simp [h1, h3, hx], h4⟩
theorem spec186 (hl : LibFits glob) : SpecOk Tryz.prog glob 186 (fun ds => e186 ds some) := by
  intro ds r h
  simp only [e186] at h
  obtain ⟨⟨s, b, z⟩, h1, h2⟩ := bind_some h
  obtain ⟨x, h3, h4⟩ := bind_some h2
  simp only [n186] at h3
  obtain ⟨⟨hb, hz, hs⟩, h5⟩ := ask_some h3
  clear h3
  subst hb hz
  have h3 := h5
  clear h5
  have hs := Nat.le_of_ble_eq_true hs
  cases h3
  have hds : ds = [Value.string s, Value.int .i64 10, Value.int .i64 64].map .val := by
    unfold d186 at h1
    split at h1
    · cases h1; rfl
    · cases h1
  subst hds
  refine ⟨fun us w => enters_run Tryz.func186 (by kernel_rfl) us w, fun ro w us hro hg ha => ?_⟩
  have := DArgs.vals ha
  subst this
  rcases hp : Lib.parseIntB 64 s.data.toList with v | _ | _
  ·
    simp only [parse64, hp, cond_false, Option.some.injEq] at h4
    subst h4
    refine Calls.mono (Tryz.strconv_ParseInt_10_at64_ok s (by omega) v hp w) ?_
    rintro e w' ⟨rfl, hb⟩
    refine ⟨_, ro, rfl, ?_, left_below hro ?_⟩
    · exact ⟨[.int .i64 v, .nilIface], rfl, DArgs.ofVals (vs := [.int .i64 v, .nilIface]) (by simp [Value.oneCell'])⟩
    · rcases hb with rfl | ⟨t, rfl⟩
      · exact Below.refl _ _
      · exact Lib.bytesWorld_below w 5 t
  ·
    simp only [parse64, hp, cond_true, Option.some.injEq] at h4
    subst h4
    obtain ⟨ev, h1, h2⟩ := hl.errSyntax
    refine Calls.mono (Any.strconv_ParseInt_10_at64_syntax Tryz.laysC174 s hs hp ev w (glob_cell hro hg h1 rfl) h2) ?_
    rintro e w' ⟨N, rfl, _, _, hb⟩
    refine ⟨_, ro, rfl, ?_, left_below hro hb⟩
    exact ⟨[.int .i64 0], _, rfl, DArgs.ofVals (vs := [.int .i64 0]) (by simp [Value.oneCell'])⟩
  ·
    simp only [parse64, hp, cond_true, Option.some.injEq] at h4
    subst h4
    obtain ⟨ev, h1, h2⟩ := hl.errRange
    refine Calls.mono (Tryz.strconv_ParseInt_10_at64_range s hs hp ev w (glob_cell hro hg h1 rfl) h2) ?_
    rintro e w' ⟨N, rfl, _, _, hb⟩
    refine ⟨_, ro, rfl, ?_, left_below hro hb⟩
    exact ⟨[.int .i64 _], _, rfl, DArgs.ofVals (vs := [.int .i64 _]) (by simp [Value.oneCell'])⟩
def d159 (ds : List D) : Option (Int × Int) := match ds with
  | [.val (.int .i64 n), .val (.int .i64 b)] => some (n, b)
  | _ => none
def i64Ok (n : Int) : Prop := Nat.ble n.toNat 9223372036854775807 = true ∧ Nat.ble (-n).toNat 9223372036854775808 = true
instance (n : Int) : Decidable (i64Ok n) := by unfold i64Ok; infer_instance
def n159 : Int × Int → Option ByteArray := fun (n, b) => ask (b = 10 ∧ i64Ok n) (some ⟨(Lib.itoa n).toArray⟩)
def e159 : PureE := mkE d159 n159 (fun a => .one (.val (.string a)))
theorem spec159 (hl : LibFits glob) : SpecOk Tryz.prog glob 159 (fun ds => e159 ds some) := by
  intro ds r h
  simp only [e159, mkE] at h
  obtain ⟨⟨n, b⟩, h1, h2⟩ := bind_some h
  obtain ⟨x, h3, h4⟩ := bind_some h2
  simp only [n159] at h3
  obtain ⟨⟨hb, hc0, hc1⟩, h5⟩ := ask_some h3
  clear h3
  subst hb
  have h3 := h5
  clear h5
  have hc0 := Nat.le_of_ble_eq_true hc0
  have hc1 := Nat.le_of_ble_eq_true hc1
  cases h3; cases h4
  have hds : ds = [Value.int .i64 n, Value.int .i64 10].map .val := by
    unfold d159 at h1
    split at h1
    · cases h1; rfl
    · cases h1
  subst hds
  refine ⟨fun us w => enters_run Tryz.func159 (by kernel_rfl) us w, fun ro w us hro hg ha => ?_⟩
  have := DArgs.vals ha
  subst this
  refine Calls.mono (Tryz.strconv_FormatInt_10 n (by omega) (by omega) w (tabIs hro hg hl.pow10 (by kernel_rfl))) ?_
  rintro e w' ⟨rfl, k, os, rfl⟩
  refine ⟨_, ro, rfl, ?_, left_below hro (Lib.below_grow _ w (Nat.le_refl _) k os)⟩
  simp only [PRel, DRel]
  exact ⟨trivial, rfl⟩
def d125 (ds : List D) : Option (ByteArray × ByteArray) := match ds with
  | [.val (.string s), .val (.string t)] => some (s, t)
  | _ => none
def n125 : ByteArray × ByteArray → Option Int := fun (s, t) => some (Lib.compareBytes s.data.toList t.data.toList)
def e125 : PureE := mkE d125 n125 (fun a => .one (.val (.int .i64 a)))
theorem spec125 : SpecOk Tryz.prog glob 125 (fun ds => e125 ds some) := by
  intro ds r h
  simp only [e125, mkE] at h
  obtain ⟨⟨s, t⟩, h1, h2⟩ := bind_some h
  obtain ⟨x, h3, h4⟩ := bind_some h2
  cases h3; cases h4
  have hds : ds = [Value.string s, Value.string t].map .val := by
    unfold d125 at h1
    split at h1
    · cases h1; rfl
    · cases h1
  subst hds
  refine ⟨fun us w => enters_run Tryz.func125 (by kernel_rfl) us w, fun ro w us hro hg ha => ?_⟩
  have := DArgs.vals ha
  subst this
  refine Calls.mono (Tryz.strings_Compare s t w) ?_
  rintro e w' ⟨rfl, rfl⟩
  exact ⟨_, ro, rfl, by simp only [PRel, DRel]; exact ⟨trivial, rfl⟩, left_below hro (Below.refl _ _)⟩
def d181 (ds : List D) : Option Int := match ds with
  | [.val (.int .u64 n)] => some n
  | _ => none
def lenOk (n : Int) : Prop := 0 ≤ n ∧ Nat.ble n.toNat 18446744073709551615 = true
instance (n : Int) : Decidable (lenOk n) := by unfold lenOk; infer_instance
def n181 : Int → Option Int := fun n => ask (lenOk n) (some (Lib.bitLen n.toNat))
def e181 : PureE := mkE d181 n181 (fun a => .one (.val (.int .i64 a)))
theorem spec181 : SpecOk Tryz.prog glob 181 (fun ds => e181 ds some) := by
  intro ds r h
  simp only [e181, mkE] at h
  obtain ⟨n, h1, h2⟩ := bind_some h
  obtain ⟨x, h3, h4⟩ := bind_some h2
  simp only [n181] at h3
  obtain ⟨⟨h0, hb⟩, h5⟩ := ask_some h3
  cases h5; cases h4
  have hb := Nat.le_of_ble_eq_true hb
  have hds : ds = [Value.int .u64 n].map .val := by
    unfold d181 at h1
    split at h1
    · cases h1; rfl
    · cases h1
  subst hds
  refine ⟨fun us w => enters_run Tryz.func181 (by kernel_rfl) us w, fun ro w us hro hg ha => ?_⟩
  have := DArgs.vals ha
  subst this
  refine Calls.mono (Tryz.bits_Len n w h0 (by omega)) ?_
  rintro e w' ⟨rfl, rfl⟩
  exact ⟨_, ro, rfl, by simp only [PRel, DRel]; exact ⟨trivial, rfl⟩, left_below hro (Below.refl _ _)⟩
def strsOf : List D → Option (List ByteArray)
  | [] => some []
  | .val (.string s) :: r => (strsOf r).map (s :: ·)
  | _ => none
theorem strsOf_eq : ∀ {ds : List D} {l : List ByteArray}, strsOf ds = some l → ds = l.map fun x => .val (.string x)
  | [], l, h => by cases h; rfl
  | .val (.string s) :: r, l, h => by
    simp only [strsOf, Option.map_eq_some_iff] at h
    obtain ⟨l', h1, rfl⟩ := h
    rw [strsOf_eq h1]; rfl
  | .val (.int _ _) :: _, _, h | .val (.bool _) :: _, _, h | .slice _ :: _, _, h | .bytes _ :: _, _, h | .agg _ :: _, _, h => by simp [strsOf] at h
theorem strs_cells {r : RO} {b k : Nat} : ∀ (l : List ByteArray) (off : Nat), DRows r b k off (l.map fun x => .val (.string x)) → (l ≠ [] → k = 1) ∧ ∀ (j : Nat) x, l[j]? = some x → r b (off + j) = some (.string x)
  | [], _, _ => ⟨fun h => absurd rfl h, fun j x e => by simp at e⟩
  | x :: l, off, h => by
    simp only [List.map_cons, DRows] at h
    obtain ⟨⟨u, h1, h2, h3⟩, h4⟩ := h
    simp only [DRel] at h1
    obtain ⟨rfl, _⟩ := h1
    have hk : k = 1 := h2.symm
    subst hk
    obtain ⟨_, h5⟩ := strs_cells l (off + 1) h4
    refine ⟨fun _ => rfl, fun j y e => ?_⟩
    cases j with
    | zero => cases e; exact h3 0 (.string x) rfl
    | succ j =>
      have := h5 j y e
      rw [show off + (j + 1) = off + 1 + j by omega]; exact this
def d152 (ds : List D) : Option (List D × ByteArray) := match ds with
  | [.slice es, .val (.string s)] => some (es, s)
  | _ => none
def n152 : List D × ByteArray → Option ByteArray := fun (es, s) => (strsOf es).bind fun xs => ask (Nat.ble xs.length 140737488355328 = true ∧ Nat.ble (Lib.join (xs.map (·.data.toList)) s.data.toList).length 140737488355328 = true) (some ⟨(Lib.join (xs.map (·.data.toList)) s.data.toList).toArray⟩)
def e152 : PureE := mkE d152 n152 (fun a => .one (.val (.string a)))
theorem spec152 : SpecOk Tryz.prog glob 152 (fun ds => e152 ds some) := by
  intro ds r h
  simp only [e152, mkE] at h
  obtain ⟨⟨es, s⟩, h1, h2⟩ := bind_some h
  obtain ⟨x, h3, h4⟩ := bind_some h2
  simp only [n152] at h3
  obtain ⟨xs, hxs, h3⟩ := bind_some h3
  obtain ⟨⟨hn, hj⟩, h3⟩ := ask_some h3
  cases h3; cases h4
  have hds : ds = [.slice es, .val (.string s)] := by
    unfold d152 at h1
    split at h1
    · cases h1; rfl
    · cases h1
  subst hds
  have he := strsOf_eq hxs
  subst he
  refine ⟨fun us w => enters_run Tryz.func152 (by kernel_rfl) us w, fun ro w us hro hg ha => ?_⟩
  simp only [DArgs] at ha
  obtain ⟨u, us', rfl, hu, u2, us2, rfl, hu2, rfl⟩ := ha
  simp only [DRel] at hu hu2
  obtain ⟨rfl, _⟩ := hu2
  obtain ⟨A, c, rfl, hc, hA⟩ := hu
  by_cases hx : xs = []
  · subst hx
    refine Calls.mono (Tryz.strings_Join_none A c s w) ?_
    rintro e w' ⟨rfl, rfl⟩
    refine ⟨_, ro, rfl, ?_, left_below hro ⟨rfl, rfl, rfl, Nat.le_refl _, fun _ _ => rfl⟩⟩
    simp only [PRel, DRel]
    exact ⟨rfl, rfl⟩
  · rcases hA with hA | ⟨b, off, k, rfl, hR⟩
    · exact absurd (List.map_eq_nil_iff.1 hA) hx
    obtain ⟨_, hcells⟩ := strs_cells xs off hR
    have hb : b < w.heap.size := by
      cases xs with
      | nil => exact absurd rfl hx
      | cons y l =>
        have := hro b (off + 0) _ (hcells 0 y rfl)
        exact World.block_lt_of_cell? w ⟨b, off + 0, none⟩ this
    have hlen : (xs.map fun x => D.val (.string x)).length = xs.length := by simp
    rw [hlen] at hc ⊢
    refine Calls.mono (Tryz.strings_Join b off c xs s w (fun j x e => hro b (off + j) _ (hcells j x e)) hb (Nat.le_of_ble_eq_true hn) hc (Nat.le_of_ble_eq_true hj)) ?_
    rintro e w' ⟨rfl, hbel⟩
    refine ⟨_, ro, rfl, ?_, left_below hro hbel⟩
    simp only [PRel, DRel]
    exact ⟨trivial, rfl⟩
theorem libOk (hl : LibFits glob) : TabOk Tryz.prog glob [(184, e184), (80, e80), (186, e186), (159, e159), (125, e125), (181, e181), (152, e152)] :=
  ((((((TabOk.nil.cons (mkE_fair _ _ _) spec152).cons (mkE_fair _ _ _) spec181).cons (mkE_fair _ _ _) spec125).cons (mkE_fair _ _ _) (spec159 hl)).cons e186_fair (spec186 hl)).cons (mkE_fair _ _ _) (spec80 hl)).cons (mkE_fair _ _ _) (spec184 hl)
end Ev
