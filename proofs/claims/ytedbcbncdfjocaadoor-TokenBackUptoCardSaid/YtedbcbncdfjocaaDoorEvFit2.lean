/- What functions of the program compute, as plain Lean functions, each with its proof by the reader (EvFit2); printed by a tool of this work. -/
import Derived.Test.YtedbcbncdfjocaaDoorCards
import Derived.Test.YtedbcbncdfjocaaDoorTie
import Derived.Test.YtedbcbncdfjocaaDoorEvFit
import Derived.Test.YtedbcbncdfjocaaDoorEvLib2
import Derived.Test.YtedbcbncdfjocaaDoorEvRow
import Derived.Deep.DeepHandedRow
import Derived.Deep.DeepWitnessRowRef
import Derived.Lib.LaidIn
import Derived.Lib.LaidU8
import Derived.Stop.LaidErr
import Derived.ProofKit
import Derived.OpenShut
set_option linter.unusedSimpArgs false
set_option linter.unusedVariables false
set_option maxRecDepth 100000
namespace Go.Proofs.YtedbcbncdfjocaaDoor.fit2
open Go.ChangeShapes Go.WideShapes Go.ChangeAt Go.RowKit Go.Shelf
def laid9 : List (String × DataW Unit) := [("math/bits.deBruijn32tab", Rows.laid_math_bits_deBruijn32tab), ("math/bits.deBruijn64tab", Rows.laid_math_bits_deBruijn64tab), ("internal/strconv.uint64pow10", Rows.laid_internal_strconv_uint64pow10), ("unicode/utf8.acceptRanges", Rows.laid_unicode_utf8_acceptRanges), ("strconv.ErrRange", Rows.laid_strconv_ErrRange), ("strconv.ErrSyntax", Rows.laid_strconv_ErrSyntax), ("unicode.White_Space", Rows.laid_unicode_White_Space), ("strings.asciiSpace", Rows.laid_strings_asciiSpace), ("unicode/utf8.first", Rows.laid_unicode_utf8_first)]
structure Vars (W : World) : Prop extends fit.Vars W where
  space : ∃ t, W.heap[0]? = some (.cells ((Lib.asciiSpaceTab.map fun z => Value.int .u8 z).toArray) t)
theorem vars {W : World} {l : List (String × DataW Unit)} (hS : W.ShapedOpen Tryd.prog) (hL : laidMet Tryd.prog l W)
    (hp : ("internal/strconv.uint64pow10", Rows.laid_internal_strconv_uint64pow10) ∈ l) (ha : ("unicode/utf8.acceptRanges", Rows.laid_unicode_utf8_acceptRanges) ∈ l) (hf : ("unicode/utf8.first", Rows.laid_unicode_utf8_first) ∈ l) (hsp : ("strings.asciiSpace", Rows.laid_strings_asciiSpace) ∈ l)
    (hr : ∃ r, laidMet Tryd.prog (("strconv.ErrRange", Rows.laid_strconv_ErrRange) :: r) W) (hs : ∃ r, laidMet Tryd.prog (("strconv.ErrSyntax", Rows.laid_strconv_ErrSyntax) :: r) W) : Vars W := by
  refine ⟨fit.vars hS hL hp ha hf hr hs, ?_⟩
  obtain ⟨cs, h1, h2, _⟩ := fit.block_of hS (g := 0) (n := 256) (t := 182) (by decide +kernel) (by kernel_rfl)
  have e : (Rows.laid_strings_asciiSpace : DataW Unit) = Lib.tabData .u8 Lib.asciiSpaceTab := by kernel_rfl
  obtain ⟨g, t, cs', fuel, p, hg, hty, hvar, hd⟩ := Lib.laidMet.reads hL hsp
  rw [e] at hd
  obtain rfl := Option.some.inj ((show Tryd.prog.globalNamed "strings.asciiSpace" = some 0 by kernel_rfl).symm.trans hg)
  obtain rfl := Option.some.inj ((show (Tryd.prog.globals[0]?).map (·.type) = some 182 by kernel_rfl).symm.trans hty)
  have hcs := Lib.cells_of_tab Tryd.underlying182 Tryd.underlying5 (by kernel_rfl) (by kernel_rfl) hd
  refine ⟨182, ?_⟩
  rw [h1]
  congr 2
  apply Array.ext'
  rw [List.toList_toArray]
  apply List.ext_getElem?
  intro j
  by_cases hj : j < 256
  · have h4 := World.var?_cell hg hvar j
    rw [← Array.getElem?_toList, hcs] at h4
    simp only [World.cell?, h1] at h4
    rw [← h4]; simp
  · rw [List.getElem?_eq_none (by simp [h2]; omega), List.getElem?_eq_none (by simp [Lib.asciiSpaceTab]; omega)]
theorem fits {W : World} (h : Vars W) : ∃ (glob : Nat → Option (List Ev.D)) (ro : Ev.RO), Ev.LibFits2 glob ∧ ro.holds W ∧ Ev.GlobIn Tryd.prog glob ro := by
  obtain ⟨⟨⟨t4, h4⟩, ⟨t5, h5⟩, ⟨t3, h3⟩, ⟨m, t6, h6⟩, ⟨te1, pe1, t1, h1⟩, ⟨te2, pe2, t2, h2⟩⟩, ⟨t0, h0⟩⟩ := h
  let vs : Nat → List Value := fun g => match g with
    | 0 => Lib.asciiSpaceTab.map fun z => Value.int .u8 z
    | 1 => [.iface te1 pe1]
    | 2 => [.iface te2 pe2]
    | 3 => Lib.pow10Tab.map fun z => Value.int .u64 z
    | 4 => (List.range 256).map fun c => Value.int .u8 (Lib.firstT c)
    | 5 => (List.range 32).map fun i => if i % 2 = 0 then Value.int .u8 (Lib.accLo (i / 2)) else Value.int .u8 (Lib.accHi (i / 2))
    | 6 => [Value.int .i64 m]
    | _ => []
  have hone : ∀ g, ∀ v ∈ vs g, v.oneCell' = true := by
    intro g v hv
    simp only [vs] at hv
    split at hv
    · obtain ⟨z, _, rfl⟩ := List.mem_map.1 hv; rfl
    · simp at hv; subst hv; rfl
    · simp at hv; subst hv; rfl
    · obtain ⟨z, _, rfl⟩ := List.mem_map.1 hv; rfl
    · obtain ⟨z, _, rfl⟩ := List.mem_map.1 hv; rfl
    · obtain ⟨z, _, rfl⟩ := List.mem_map.1 hv; split <;> rfl
    · simp at hv; subst hv; rfl
    · cases hv
  have hblk : ∀ g, vs g ≠ [] → ∃ t, W.heap[g]? = some (.cells (vs g).toArray t) := by
    intro g hv
    match g, hv with
    | 0, _ => exact ⟨t0, h0⟩
    | 1, _ => exact ⟨t1, h1⟩
    | 2, _ => exact ⟨t2, h2⟩
    | 3, _ => exact ⟨t3, h3⟩
    | 4, _ => exact ⟨t4, h4⟩
    | 5, _ => exact ⟨t5, h5⟩
    | 6, _ => exact ⟨t6, h6⟩
    | _ + 7, hv => exact (hv rfl).elim
  have hcell : ∀ g o v, (vs g)[o]? = some v → W.cell? ⟨g, o, none⟩ = some v := by
    intro g o v e
    obtain ⟨t, ht⟩ := hblk g (fun h => by rw [h] at e; cases e)
    simp only [World.cell?, ht]
    simpa using e
  have drels : ∀ (ro : Ev.RO) (l : List Value), (∀ v ∈ l, v.oneCell' = true) → Ev.DRels ro (l.map .val) l := by
    intro ro l
    induction l with
    | nil => intro _; rfl
    | cons v l ih => intro h; exact ⟨v, l, rfl, h v (by simp), by simp only [Ev.DRel]; exact ⟨trivial, h v (by simp)⟩, ih fun u hu => h u (by simp [hu])⟩
  refine ⟨fun g => if vs g = [] then none else some ((vs g).map .val), ⟨fun b o => (vs b)[o]?, ⟨fun b => if vs b = [] then none else some (vs b).length, Ev.byteT Tryd.prog⟩⟩, ⟨⟨?_, ?_, ?_, ?_, ?_, ?_⟩, ?_⟩, ⟨hcell, fun b n e => ?_, fun b n e => ?_⟩, ⟨rfl, fun g cs e => ?_⟩⟩
  · have : vs 4 ≠ [] := by simp [vs]
    exact if_neg this
  · have : vs 5 ≠ [] := by simp [vs]
    exact if_neg this
  · exact ⟨m, rfl⟩
  · have : vs 3 ≠ [] := by simp [vs, Lib.pow10Tab]
    exact if_neg this
  · exact ⟨_, rfl, .inr ⟨te1, pe1, rfl⟩⟩
  · exact ⟨_, rfl, .inr ⟨te2, pe2, rfl⟩⟩
  · have : vs 0 ≠ [] := by simp [vs, Lib.asciiSpaceTab]
    exact if_neg this
  · change (if vs b = [] then none else some (vs b).length) = some n at e
    split at e
    · cases e
    · rename_i hne
      cases e
      obtain ⟨t, ht⟩ := hblk b hne
      exact ⟨_, t, (0, 0), ht, by simp⟩
  · change (if vs b = [] then none else some (vs b).length) = some n at e
    split at e
    · cases e
    · rename_i hne
      cases e
      refine ⟨List.length_pos_iff.2 hne, fun o ho h => ?_⟩
      change (vs b)[o]? = none at h
      rw [List.getElem?_eq_getElem ho] at h
      cases h
  · split at e
    · cases e
    · rename_i hne
      cases e
      refine ⟨vs g, drels _ _ (hone g), fun j v h => h, ?_⟩
      show (if vs g = [] then none else some (vs g).length) = _
      rw [if_neg hne]
noncomputable def laidWorld (os : Os) : World :=
  let N := (World.settled Tryd.prog os).heap.size
  let r3 (a b c : Int) : List Value := [.int .u16 a, .int .u16 b, .int .u16 c]
  let w0 := World.holding Tryd.prog os ⟨#[.cells #[.string ⟨#[105, 110, 118, 97, 108, 105, 100, 32, 115, 121, 110, 116, 97, 120]⟩] 205, .cells #[.string ⟨#[118, 97, 108, 117, 101, 32, 111, 117, 116, 32, 111, 102, 32, 114, 97, 110, 103, 101]⟩] 205,
    .cells #[.slice (some ⟨N + 3, 0, none⟩) 7 7, .slice none 0 0, .int .i64 2] 211,
    .cells (r3 9 13 1 ++ r3 32 133 101 ++ r3 160 5760 5600 ++ r3 8192 8202 1 ++ r3 8232 8233 1 ++ r3 8239 8287 48 ++ r3 12288 12288 1).toArray 214], #[], []⟩
  let put (h : Array Obj) (g : Nat) (cs : Array Value) : Array Obj := h.modify g fun
    | .cells _ t frozen => .cells cs t frozen
    | o => o
  let ints (d : DataW Unit) : Array Value := match d with
    | .agg l => (l.map fun | .lit (.int k z) => Value.int k z | _ => .nilIface).toArray
    | _ => #[]
  let h0 := put (put w0.heap 1 #[.iface 203 (.pointer (some ⟨N, 0, none⟩))]) 2 #[.iface 203 (.pointer (some ⟨N + 1, 0, none⟩))]
  let h1 := put h0 4 (Lib.firstTab.map fun z => Value.int .u8 z).toArray
  let h2 := put h1 5 ((List.range 16).flatMap fun i => [Value.int .u8 (Lib.accLo i), Value.int .u8 (Lib.accHi i)]).toArray
  let h3 := put h2 3 (Lib.pow10Tab.map fun z => Value.int .u64 z).toArray
  let h4 := put h3 8 (ints Rows.laid_math_bits_deBruijn32tab)
  let h5 := put h4 9 (ints Rows.laid_math_bits_deBruijn64tab)
  let h6 := put h5 0 (Lib.asciiSpaceTab.map fun z => Value.int .u8 z).toArray
  let h7 := put h6 7 #[.pointer (some ⟨N + 2, 0, none⟩)]
  { w0 with heap := h7 }
noncomputable abbrev N0 : Nat := (World.settled Tryd.prog default).heap.size
theorem laid_met (os : Os) (args : Array Value) : laidMet Tryd.prog laid9 ((laidWorld os).forCall (fun _ _ => 0) ⟨#[], args, []⟩).memory :=
  (LaidIn.of_run (l := laid9) [0, 1, 2, 3, 4, 5, 7, 8, 9, N0, N0 + 1, N0 + 2, N0 + 3] 8 (by kernel_rfl) (by kernel_rfl) (by kernel_rfl) (by kernel_rfl)).met
end Go.Proofs.YtedbcbncdfjocaaDoor.fit2
