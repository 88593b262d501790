/- What functions of the program compute, as plain Lean functions, each with its proof by a proved reader; plain laws about them (EvFite). -/
import Derived.Test.YtohmflkolmobmaaGreatDoorCards
import Derived.Test.YtohmflkolmobmaaGreatDoorTie
import Derived.Test.YtohmflkolmobmaaGreatDoorEvLibe
import Derived.Test.YtohmflkolmobmaaGreatDoorEvRow
import Derived.Deep.DeepHandedRow
import Derived.Deep.DeepWitnessRowRef
import Derived.Lib.LaidIn
import Derived.Lib.LaidU8
import Derived.Stop.LaidErr
import Derived.ProofKit
import Derived.OpenShut
set_option linter.unusedSimpArgs false
set_option linter.unusedVariables false
set_option maxRecDepth 100000
namespace Go.Proofs.YtohmflkolmobmaaGreatDoor.fit
open Go.ChangeShapes Go.WideShapes Go.ChangeAt Go.RowKit Go.Shelf
theorem own : ownKnob Tryz.prog.godebug = none := by kernel_rfl
def laid7 : List (String × DataW Unit) := [("math/bits.deBruijn32tab", Rows.laid_math_bits_deBruijn32tab), ("math/bits.deBruijn64tab", Rows.laid_math_bits_deBruijn64tab), ("internal/strconv.uint64pow10", Rows.laid_internal_strconv_uint64pow10), ("unicode/utf8.acceptRanges", Rows.laid_unicode_utf8_acceptRanges), ("strconv.ErrRange", Rows.laid_strconv_ErrRange), ("strconv.ErrSyntax", Rows.laid_strconv_ErrSyntax), ("unicode/utf8.first", Rows.laid_unicode_utf8_first)]
theorem star_err : "*" ++ "errors.errorString" = "*errors.errorString" := by decide
theorem row_err (u : TypeId) (h : Tryz.prog.typeName? 3 u = some "*errors.errorString") : u = 317 :=
  typeName_ptr_named (nm := "errors.errorString") (by rw [star_err]; kernel_rfl) (by kernel_rfl) (by decide) u (by rw [star_err]; exact h)
theorem block_of {W : World} (hS : W.ShapedOpen Tryz.prog) {g n : Nat} {t : TypeId} (hg : g < Tryz.prog.globals.size) (h0 : (((begin Tryz.prog (fun _ _ => 0) default).world.heap[g]?).bind Obj.row?).map (fun x => (x.1.size, x.2)) = some (n, t)) : ∃ cs, W.heap[g]? = some (.cells cs t) ∧ cs.size = n ∧ (Tryz.prog.buildable t = true → Row.ok Tryz.prog W .any 0 t cs) := by
  obtain ⟨⟨zero, t'⟩, h1, h2⟩ := Option.map_eq_some_iff.1 h0
  simp only [Prod.mk.injEq] at h2
  obtain ⟨h2, rfl⟩ := h2
  obtain ⟨cs, q1, q2, q3⟩ := hS.1 g zero t' hg h1
  exact ⟨cs, q1, q2.trans h2, q3⟩
structure Vars (W : World) : Prop where
  first : ∃ t, W.heap[2]? = some (.cells (((List.range 256).map fun c => Value.int .u8 (Lib.firstT c)).toArray) t)
  accept : ∃ t, W.heap[3]? = some (.cells (((List.range 32).map fun i => if i % 2 = 0 then Value.int .u8 (Lib.accLo (i / 2)) else Value.int .u8 (Lib.accHi (i / 2))).toArray) t)
  pow10 : ∃ t, W.heap[1]? = some (.cells ((Lib.pow10Tab.map fun z => Value.int .u64 z).toArray) t)
  max : ∃ m t, W.heap[0]? = some (.cells #[Value.int .i64 m] t)
  syn : ∃ te pe t, W.heap[4]? = some (.cells #[Value.iface te pe] t)
  rng : ∃ te pe t, W.heap[5]? = some (.cells #[Value.iface te pe] t)
theorem vars {W : World} {l : List (String × DataW Unit)} (hS : W.ShapedOpen Tryz.prog) (hL : laidMet Tryz.prog l W)
    (hp : ("internal/strconv.uint64pow10", Rows.laid_internal_strconv_uint64pow10) ∈ l) (ha : ("unicode/utf8.acceptRanges", Rows.laid_unicode_utf8_acceptRanges) ∈ l) (hf : ("unicode/utf8.first", Rows.laid_unicode_utf8_first) ∈ l)
    (hr : ∃ r, laidMet Tryz.prog (("strconv.ErrRange", Rows.laid_strconv_ErrRange) :: r) W) (hs : ∃ r, laidMet Tryz.prog (("strconv.ErrSyntax", Rows.laid_strconv_ErrSyntax) :: r) W) : Vars W := by
  have hU : Lib.Utf8Tabs 2 3 W := utf8Tabs_of_reads (ρ := Tryz.lays260_ren) { Tryz.lays260 with } ⟨by kernel_rfl, by kernel_rfl, by kernel_rfl, by kernel_rfl, by kernel_rfl, by kernel_rfl, by kernel_rfl⟩ (Lib.laidMet.reads hL hf) (Lib.laidMet.reads hL ha)
  have whole : ∀ {g n : Nat} {t : TypeId} {cs : Array Value} {vs : List Value}, W.heap[g]? = some (.cells cs t) → cs.size = n → vs.length = n → (∀ j, j < n → W.cell? ⟨g, j, none⟩ = vs[j]?) → W.heap[g]? = some (.cells vs.toArray t) := by
    intro g n t cs vs h1 h2 h3 h4
    rw [h1]
    congr 2
    apply Array.ext'
    rw [List.toList_toArray]
    apply List.ext_getElem?
    intro j
    by_cases hj : j < n
    · have := h4 j hj
      simp only [World.cell?, h1] at this
      rw [← this]; simp
    · rw [List.getElem?_eq_none (by simp [h2]; omega), List.getElem?_eq_none (by simp only [List.toList_toArray]; omega)]
  refine ⟨?_, ?_, ?_, ?_, ?_, ?_⟩
  · obtain ⟨cs, h1, h2, _⟩ := block_of hS (g := 2) (n := 256) (t := 297) (by decide +kernel) (by kernel_rfl)
    exact ⟨297, whole h1 h2 (by simp) (fun j hj => by rw [hU.1 j hj]; simp [hj])⟩
  · obtain ⟨cs, h1, h2, _⟩ := block_of hS (g := 3) (n := 32) (t := 300) (by decide +kernel) (by kernel_rfl)
    refine ⟨300, whole h1 h2 (by simp) (fun j hj => ?_)⟩
    obtain ⟨k0, k1⟩ := hU.2 (j / 2) (by omega)
    by_cases he : j % 2 = 0
    · have e : 2 * (j / 2) = j := by omega
      rw [e] at k0
      rw [k0]; simp [hj, he]
    · have e : 2 * (j / 2) + 1 = j := by omega
      rw [e] at k1
      rw [k1]; simp [hj, he]
  · obtain ⟨cs, h1, h2, _⟩ := block_of hS (g := 1) (n := 20) (t := 295) (by decide +kernel) (by kernel_rfl)
    have e : (Rows.laid_internal_strconv_uint64pow10 : DataW Unit) = Lib.tabData .u64 Lib.pow10Tab := by kernel_rfl
    obtain ⟨g, t, cs', fuel, p, hg, hty, hvar, hd⟩ := Lib.laidMet.reads hL hp
    rw [e] at hd
    obtain rfl := Option.some.inj ((show Tryz.prog.globalNamed "internal/strconv.uint64pow10" = some 1 by kernel_rfl).symm.trans hg)
    obtain rfl := Option.some.inj ((show (Tryz.prog.globals[1]?).map (·.type) = some 295 by kernel_rfl).symm.trans hty)
    have hcs := Lib.cells_of_tab Tryz.underlying295 Tryz.underlying135 (by kernel_rfl) (by kernel_rfl) hd
    refine ⟨295, whole h1 h2 (by simp [Lib.pow10Tab]) (fun j hj => ?_)⟩
    rw [World.var?_cell hg hvar j, ← Array.getElem?_toList, hcs]
  · obtain ⟨cs, h1, h2, h3⟩ := block_of hS (g := 0) (n := 1) (t := 3) (by decide +kernel) (by kernel_rfl)
    obtain ⟨ts, hts, _, hall⟩ := h3 (by kernel_rfl)
    obtain rfl := Option.some.inj ((show Tryz.prog.cellTypes Tryz.prog.depth 3 = some [3] by kernel_rfl).symm.trans hts)
    have h0 : 0 < cs.size := by omega
    obtain ⟨u, hu', hok⟩ := hall 0 cs[0] (by simp [h0])
    obtain rfl : u = 3 := by simpa using hu'.symm
    have : ∃ m, cs[0] = Value.int .i64 m := by
      unfold Cell.ok at hok
      rw [Tryz.underlying3] at hok
      cases hv : cs[0] <;> rw [hv] at hok <;> first | (obtain ⟨rfl, _⟩ := hok; exact ⟨_, rfl⟩) | simp at hok
    obtain ⟨m, hm⟩ := this
    refine ⟨m, 3, ?_⟩
    rw [h1]
    congr 2
    apply Array.ext (by simp [h2])
    intro i hi hi2
    simp at hi2
    subst hi2
    simpa using hm
  · obtain ⟨r, hr⟩ := hs
    obtain ⟨a, s, hv, _, _, _⟩ := laid_sentinel (g := 4) hr (by kernel_rfl) (by kernel_rfl) Tryz.underlying169 row_err Tryz.underlying317 Tryz.underlying319 rfl rfl Tryz.underlying9 (by kernel_rfl) (by kernel_rfl)
    obtain ⟨cs, h1, h2, _⟩ := block_of hS (g := 4) (n := 1) (t := 169) (by decide +kernel) (by kernel_rfl)
    refine ⟨317, .pointer (some a), 169, whole (vs := [_]) h1 h2 rfl (fun j hj => ?_)⟩
    rw [World.var?_cell (show Tryz.prog.globalNamed "strconv.ErrSyntax" = some 4 by kernel_rfl) hv j]
    simp
  · obtain ⟨r, hr⟩ := hr
    obtain ⟨a, s, hv, _, _, _⟩ := laid_sentinel (g := 5) hr (by kernel_rfl) (by kernel_rfl) Tryz.underlying169 row_err Tryz.underlying317 Tryz.underlying319 rfl rfl Tryz.underlying9 (by kernel_rfl) (by kernel_rfl)
    obtain ⟨cs, h1, h2, _⟩ := block_of hS (g := 5) (n := 1) (t := 169) (by decide +kernel) (by kernel_rfl)
    refine ⟨317, .pointer (some a), 169, whole (vs := [_]) h1 h2 rfl (fun j hj => ?_)⟩
    rw [World.var?_cell (show Tryz.prog.globalNamed "strconv.ErrRange" = some 5 by kernel_rfl) hv j]
    simp
theorem fits {W : World} (h : Vars W) : ∃ (glob : Nat → Option (List Ev.D)) (ro : Ev.RO), Ev.LibFits glob ∧ ro.holds W ∧ Ev.GlobIn Tryz.prog glob ro := by
  obtain ⟨⟨t4, h4⟩, ⟨t5, h5⟩, ⟨t3, h3⟩, ⟨m, t6, h6⟩, ⟨te1, pe1, t1, h1⟩, ⟨te2, pe2, t2, h2⟩⟩ := h
  let vs : Nat → List Value := fun g => match g with
    | 4 => [.iface te1 pe1]
    | 5 => [.iface te2 pe2]
    | 1 => Lib.pow10Tab.map fun z => Value.int .u64 z
    | 2 => (List.range 256).map fun c => Value.int .u8 (Lib.firstT c)
    | 3 => (List.range 32).map fun i => if i % 2 = 0 then Value.int .u8 (Lib.accLo (i / 2)) else Value.int .u8 (Lib.accHi (i / 2))
    | 0 => [Value.int .i64 m]
    | _ => []
  have hone : ∀ g, ∀ v ∈ vs g, v.oneCell' = true := by
    intro g v hv
    simp only [vs] at hv
    split at hv
    · simp at hv; subst hv; rfl
    · simp at hv; subst hv; rfl
    · obtain ⟨z, _, rfl⟩ := List.mem_map.1 hv; rfl
    · obtain ⟨z, _, rfl⟩ := List.mem_map.1 hv; rfl
    · obtain ⟨z, _, rfl⟩ := List.mem_map.1 hv; split <;> rfl
    · simp at hv; subst hv; rfl
    · cases hv
  have hblk : ∀ g, vs g ≠ [] → ∃ t, W.heap[g]? = some (.cells (vs g).toArray t) := by
    intro g hv
    match g, hv with
    | 4, _ => exact ⟨t1, h1⟩
    | 5, _ => exact ⟨t2, h2⟩
    | 1, _ => exact ⟨t3, h3⟩
    | 2, _ => exact ⟨t4, h4⟩
    | 3, _ => exact ⟨t5, h5⟩
    | 0, _ => exact ⟨t6, h6⟩
    | 6, hv => exact (hv rfl).elim
    | 7, hv => exact (hv rfl).elim
    | _ + 8, hv => exact (hv rfl).elim
  have hcell : ∀ g o v, (vs g)[o]? = some v → W.cell? ⟨g, o, none⟩ = some v := by
    intro g o v e
    obtain ⟨t, ht⟩ := hblk g (fun h => by rw [h] at e; cases e)
    simp only [World.cell?, ht]
    simpa using e
  have drels : ∀ (ro : Ev.RO) (l : List Value), (∀ v ∈ l, v.oneCell' = true) → Ev.DRels ro (l.map .val) l := by
    intro ro l
    induction l with
    | nil => intro _; rfl
    | cons v l ih => intro h; exact ⟨v, l, rfl, h v (by simp), by simp only [Ev.DRel]; exact ⟨trivial, h v (by simp)⟩, ih fun u hu => h u (by simp [hu])⟩
  refine ⟨fun g => if vs g = [] then none else some ((vs g).map .val), ⟨fun b o => (vs b)[o]?, ⟨fun b => if vs b = [] then none else some (vs b).length, Ev.byteT Tryz.prog⟩, fun _ => none⟩, ⟨?_, ?_, ?_, ?_, ?_, ?_⟩, ⟨hcell, fun b n e => ?_, fun b n e => ?_, fun _ _ e => by cases e⟩, ⟨rfl, fun g cs e => ?_⟩⟩
  · have : vs 2 ≠ [] := by simp [vs]
    exact if_neg this
  · have : vs 3 ≠ [] := by simp [vs]
    exact if_neg this
  · exact ⟨m, rfl⟩
  · have : vs 1 ≠ [] := by simp [vs, Lib.pow10Tab]
    exact if_neg this
  · exact ⟨_, rfl, .inr ⟨te1, pe1, rfl⟩⟩
  · exact ⟨_, rfl, .inr ⟨te2, pe2, rfl⟩⟩
  · change (if vs b = [] then none else some (vs b).length) = some n at e
    split at e
    · cases e
    · rename_i hne
      cases e
      obtain ⟨t, ht⟩ := hblk b hne
      exact ⟨_, t, (0, 0), ht, by simp⟩
  · change (if vs b = [] then none else some (vs b).length) = some n at e
    split at e
    · cases e
    · rename_i hne
      cases e
      refine ⟨List.length_pos_iff.2 hne, fun o ho h => ?_⟩
      change (vs b)[o]? = none at h
      rw [List.getElem?_eq_getElem ho] at h
      cases h
  · split at e
    · cases e
    · rename_i hne
      cases e
      refine ⟨vs g, drels _ _ (hone g), fun j v h => h, ?_⟩
      show (if vs g = [] then none else some (vs g).length) = _
      rw [if_neg hne]
noncomputable def laidWorld (os : Os) : World :=
  let N := (World.settled Tryz.prog os).heap.size
  let w0 := World.holding Tryz.prog os ⟨#[.cells #[.string ⟨#[105, 110, 118, 97, 108, 105, 100, 32, 115, 121, 110, 116, 97, 120]⟩] 319, .cells #[.string ⟨#[118, 97, 108, 117, 101, 32, 111, 117, 116, 32, 111, 102, 32, 114, 97, 110, 103, 101]⟩] 319], #[], []⟩
  let put (h : Array Obj) (g : Nat) (cs : Array Value) : Array Obj := h.modify g fun
    | .cells _ t frozen => .cells cs t frozen
    | o => o
  let ints (d : DataW Unit) : Array Value := match d with
    | .agg l => (l.map fun | .lit (.int k z) => Value.int k z | _ => .nilIface).toArray
    | _ => #[]
  let h0 := put (put w0.heap 4 #[.iface 317 (.pointer (some ⟨N, 0, none⟩))]) 5 #[.iface 317 (.pointer (some ⟨N + 1, 0, none⟩))]
  let h1 := put h0 2 (Lib.firstTab.map fun z => Value.int .u8 z).toArray
  let h2 := put h1 3 ((List.range 16).flatMap fun i => [Value.int .u8 (Lib.accLo i), Value.int .u8 (Lib.accHi i)]).toArray
  let h3 := put h2 1 (Lib.pow10Tab.map fun z => Value.int .u64 z).toArray
  let h4 := put h3 6 (ints Rows.laid_math_bits_deBruijn32tab)
  let h5 := put h4 7 (ints Rows.laid_math_bits_deBruijn64tab)
  { w0 with heap := h5 }
noncomputable abbrev N0 : Nat := (World.settled Tryz.prog default).heap.size
theorem laid_met (os : Os) (args : Array Value) : laidMet Tryz.prog laid7 ((laidWorld os).forCall (fun _ _ => 0) ⟨#[], args, []⟩).memory :=
  (LaidIn.of_run (l := laid7) [1, 2, 3, 4, 5, 6, 7, N0, N0 + 1] 8 (by kernel_rfl) (by kernel_rfl) (by kernel_rfl) (by kernel_rfl)).met
end Go.Proofs.YtohmflkolmobmaaGreatDoor.fit
