/- What functions of the program compute, as plain Lean functions, each with its proof by a proved reader; plain laws about them (AlveQ). -/
import Derived.Test.YtohmflkolmobmaaGreatDoorAlveP
namespace Ev
open Go Go.Proofs
set_option maxRecDepth 100000 in
theorem eparse0 (gl : Nat → Option (List D)) : pureCall (evFn (cfgB gl) 40) 34 [.val (.string ⟨#[35, 32, 104, 10, 32, 32, 105, 110, 118, 32, 112, 49, 32, 113, 32, 101, 110, 113, 32, 51, 10, 114, 101, 115, 32, 112, 49, 32, 116, 114, 117, 101, 10]⟩)] = some (.many [.slice evs0, fltD 0 0 0 0]) := by kernel_rfl
def eparses : List StrR := [⟨[35, 32, 104, 10, 32, 32, 105, 110, 118, 32, 112, 49, 32, 113, 32, 101, 110, 113, 32, 51, 10, 114, 101, 115, 32, 112, 49, 32, 116, 114, 117, 101, 10], .many [.slice evs0, fltD 0 0 0 0]⟩, ⟨[105, 110, 118, 32, 112, 32, 49, 113, 32, 101, 110, 113, 32, 51], .many [.slice [], fltD 21 6 1 7]⟩, ⟨[10, 105, 110, 118, 32, 112, 32, 113], .many [.slice [], fltD 60 8 2 8]⟩]
theorem eparses_all (gl : Nat → Option (List D)) : ∀ r ∈ eparses, pureCall (evFn (cfgB gl) 40) 34 [.val (.string ⟨⟨r.name⟩⟩)] = some r.res := by
  intro r hr
  simp only [eparses, List.mem_cons, List.not_mem_nil, or_false] at hr
  rcases hr with rfl | rfl | rfl
  · exact eparse0 gl
  · exact eparse1 gl
  · exact eparse2 gl
theorem cfgB_ok (gl : Nat → Option (List D)) : (cfgB gl).P = Tryz.prog ∧ (cfgB gl).glob = gl ∧ OddSound Tryz.prog gl (cfgB gl).odd := ⟨rfl, rfl, oddT_sound⟩
def tabE : Tab := (34, strE2 eparses) :: tabV
theorem tab_eparse {gl : Nat → Option (List D)} (hl : LibFits gl) : TabOk Tryz.prog gl tabE :=
  (tab_vparse hl).cons (strE2_fair _) (strE2_spec (cfgB_ok gl) (by kernel_rfl) (tab_vparse hl).ext MethSound.none (eparses_all gl))
end Ev
