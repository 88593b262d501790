/- What functions of the program compute, as plain Lean functions, each with its proof by a proved reader; plain laws about them (AlvP). -/
import Derived.Test.YtknlopaheagepaaGreatDoorEvLibz
import Derived.Test.YtknlopaheagepaaGreatDoorEvBldz
import Derived.Test.YtknlopaheagepaaGreatDoorEvAl
namespace Ev
open Go Go.Proofs
def libz : Tab := [(134, e134), (136, e136), (118, e118), (81, e81), (130, e130)]
noncomputable def cfgA (gl : Nat → Option (List D)) : Cfg := { P := Tryz.prog, ext := extOf libz, keep := fun f => Nat.beq f 52, thaw := fun f => Nat.beq f 111, odd := oddT, dfr := fun f => Nat.beq f 26 || Nat.beq f 30, raw := fun _ _ => true, glob := gl }
def intD (n : Int) : D := .agg [.val (.int .i64 2), .val (.int .i64 n), .val (.int .i64 0), .val (.string .empty), .slice []]
def fltD (c o l k : Int) : D := .agg [.val (.int .i64 c), .val (.int .i64 o), .val (.int .i64 l), .val (.int .i64 k)]
def setD (es : List D) : D := .agg [.val (.int .i64 7), .val (.int .i64 0), .val (.int .i64 0), .val (.string .empty), .slice es]
def zeroD : D := .agg [.val (.int .i64 0), .val (.int .i64 0), .val (.int .i64 0), .val (.string .empty), .slice []]
def parses : List StrR := [⟨[123, 51, 44, 49, 32, 44, 32, 51, 125], .many [setD [intD 1, intD 3], fltD 0 0 0 0]⟩, ⟨[40, 49, 41], .many [zeroD, fltD 41 2 1 3]⟩]
set_option maxRecDepth 100000 in
theorem parse1 (gl : Nat → Option (List D)) : pureCall (evFn (cfgA gl) 40) 30 [.val (.string ⟨#[123, 51, 44, 49, 32, 44, 32, 51, 125]⟩)] = some (.many [setD [intD 1, intD 3], fltD 0 0 0 0]) := by kernel_rfl
set_option maxRecDepth 100000 in
theorem parse2 (gl : Nat → Option (List D)) : pureCall (evFn (cfgA gl) 40) 30 [.val (.string ⟨#[40, 49, 41]⟩)] = some (.many [zeroD, fltD 41 2 1 3]) := by kernel_rfl
theorem parses_all (gl : Nat → Option (List D)) : ∀ r ∈ parses, pureCall (evFn (cfgA gl) 40) 30 [.val (.string ⟨⟨r.name⟩⟩)] = some r.res := by
  intro r hr
  simp only [parses, List.mem_cons, List.not_mem_nil, or_false] at hr
  rcases hr with rfl | rfl
  · exact parse1 gl
  · exact parse2 gl
theorem cfgA_ok (gl : Nat → Option (List D)) : (cfgA gl).P = Tryz.prog ∧ (cfgA gl).glob = gl ∧ OddSound Tryz.prog gl (cfgA gl).odd := ⟨rfl, rfl, oddT_sound⟩
theorem tab_parse {gl : Nat → Option (List D)} (hl : LibFits gl) : TabOk Tryz.prog gl ((30, strE2 parses) :: libz) :=
  (libOk hl).cons (strE2_fair _) (strE2_spec (cfgA_ok gl) (by kernel_rfl) (libOk hl).ext (parses_all gl))
end Ev
