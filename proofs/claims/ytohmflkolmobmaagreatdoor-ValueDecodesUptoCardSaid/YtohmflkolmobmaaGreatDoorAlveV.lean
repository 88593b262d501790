/- What functions of the program compute, as plain Lean functions, each with its proof by a proved reader; plain laws about them (AlveV). -/
import Derived.Test.YtohmflkolmobmaaGreatDoorEvLibe
import Derived.Test.YtohmflkolmobmaaGreatDoorEvBlde
import Derived.Test.YtohmflkolmobmaaGreatDoorEvAl
namespace Ev
open Go Go.Proofs
def libe : Tab := [(184, e184), (80, e80), (186, e186), (159, e159), (125, e125), (181, e181), (152, e152)]
noncomputable def cfgA (gl : Nat → Option (List D)) : Cfg := { P := Tryz.prog, ext := extOf libe, keep := fun f => Nat.beq f 56 || Nat.beq f 97, thaw := fun f => Nat.beq f 154, odd := oddT, dfr := fun f => Nat.beq f 39 || Nat.beq f 13 || Nat.beq f 21, raw := fun _ _ => true, own := fun f r => bif Nat.beq f 34 && Nat.beq r 3 then [(2, 0, false)] else [], deep := fun t => Nat.beq t 197, glob := gl }
def intD (n : Int) : D := .agg [.val (.int .i64 2), .val (.int .i64 n), .val (.int .i64 0), .val (.string .empty), .slice []]
def boolD (n : Int) : D := .agg [.val (.int .i64 1), .val (.int .i64 n), .val (.int .i64 0), .val (.string .empty), .slice []]
def fltD (c o l k : Int) : D := .agg [.val (.int .i64 c), .val (.int .i64 o), .val (.int .i64 l), .val (.int .i64 k)]
def setD (es : List D) : D := .agg [.val (.int .i64 7), .val (.int .i64 0), .val (.int .i64 0), .val (.string .empty), .slice es]
def zeroD : D := .agg [.val (.int .i64 0), .val (.int .i64 0), .val (.int .i64 0), .val (.string .empty), .slice []]
def vparses : List StrR := [⟨[32, 51], .many [intD 3, fltD 0 0 0 0]⟩, ⟨[32, 116, 114, 117, 101], .many [boolD 1, fltD 0 0 0 0]⟩, ⟨[123, 51, 44, 49, 32, 44, 32, 51, 125], .many [setD [intD 1, intD 3], fltD 0 0 0 0]⟩, ⟨[40, 49, 41], .many [zeroD, fltD 41 2 1 3]⟩]
set_option maxRecDepth 100000 in
theorem vparse1 (gl : Nat → Option (List D)) : pureCall (evFn (cfgA gl) 40) 21 [.val (.string ⟨#[32, 51]⟩)] = some (.many [intD 3, fltD 0 0 0 0]) := by kernel_rfl
set_option maxRecDepth 100000 in
theorem vparse2 (gl : Nat → Option (List D)) : pureCall (evFn (cfgA gl) 40) 21 [.val (.string ⟨#[32, 116, 114, 117, 101]⟩)] = some (.many [boolD 1, fltD 0 0 0 0]) := by kernel_rfl
set_option maxRecDepth 100000 in
theorem vparse3 (gl : Nat → Option (List D)) : pureCall (evFn (cfgA gl) 40) 21 [.val (.string ⟨#[123, 51, 44, 49, 32, 44, 32, 51, 125]⟩)] = some (.many [setD [intD 1, intD 3], fltD 0 0 0 0]) := by kernel_rfl
set_option maxRecDepth 100000 in
theorem vparse4 (gl : Nat → Option (List D)) : pureCall (evFn (cfgA gl) 40) 21 [.val (.string ⟨#[40, 49, 41]⟩)] = some (.many [zeroD, fltD 41 2 1 3]) := by kernel_rfl
theorem vparses_all (gl : Nat → Option (List D)) : ∀ r ∈ vparses, pureCall (evFn (cfgA gl) 40) 21 [.val (.string ⟨⟨r.name⟩⟩)] = some r.res := by
  intro r hr
  simp only [vparses, List.mem_cons, List.not_mem_nil, or_false] at hr
  rcases hr with rfl | rfl | rfl | rfl
  · exact vparse1 gl
  · exact vparse2 gl
  · exact vparse3 gl
  · exact vparse4 gl
theorem cfgA_ok (gl : Nat → Option (List D)) : (cfgA gl).P = Tryz.prog ∧ (cfgA gl).glob = gl ∧ OddSound Tryz.prog gl (cfgA gl).odd := ⟨rfl, rfl, oddT_sound⟩
def tabV : Tab := (21, strE2 vparses) :: libe
theorem tab_vparse {gl : Nat → Option (List D)} (hl : LibFits gl) : TabOk Tryz.prog gl tabV :=
  (libOk hl).cons (strE2_fair _) (strE2_spec (cfgA_ok gl) (by kernel_rfl) (libOk hl).ext MethSound.none (vparses_all gl))
end Ev
