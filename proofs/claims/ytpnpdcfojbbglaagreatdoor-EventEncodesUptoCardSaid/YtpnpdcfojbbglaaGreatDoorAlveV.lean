/- What functions of the program compute, as plain Lean functions, each with its proof by a proved reader; plain laws about them (AlveV). -/
import Derived.Test.YtpnpdcfojbbglaaGreatDoorEvLibe
import Derived.Test.YtpnpdcfojbbglaaGreatDoorEvBlde
import Derived.Test.YtpnpdcfojbbglaaGreatDoorEvAl
namespace Ev
open Go Go.Proofs
def libe : Tab := [(155, e155), (50, e50), (170, e170), (101, e101), (99, e99), (180, e180), (42, e42)]
noncomputable def cfgA (gl : Nat → Option (List D)) : Cfg := { P := Tryz.prog, ext := extOf libe, keep := fun f => Nat.beq f 59 || Nat.beq f 26, thaw := fun f => Nat.beq f 171, odd := oddT, dfr := fun f => Nat.beq f 25 || Nat.beq f 89 || Nat.beq f 109, raw := fun _ _ => true, own := fun f r => bif Nat.beq f 24 && Nat.beq r 3 then [(2, 0, false)] else [], deep := fun t => Nat.beq t 128, glob := gl }
def intD (n : Int) : D := .agg [.val (.int .i64 2), .val (.int .i64 n), .val (.int .i64 0), .val (.string .empty), .slice []]
def boolD (n : Int) : D := .agg [.val (.int .i64 1), .val (.int .i64 n), .val (.int .i64 0), .val (.string .empty), .slice []]
def fltD (c o l k : Int) : D := .agg [.val (.int .i64 c), .val (.int .i64 o), .val (.int .i64 l), .val (.int .i64 k)]
def vparses : List StrR := [⟨[32, 51], .many [intD 3, fltD 0 0 0 0]⟩, ⟨[32, 116, 114, 117, 101], .many [boolD 1, fltD 0 0 0 0]⟩]
set_option maxRecDepth 100000 in
theorem vparse1 (gl : Nat → Option (List D)) : pureCall (evFn (cfgA gl) 40) 109 [.val (.string ⟨#[32, 51]⟩)] = some (.many [intD 3, fltD 0 0 0 0]) := by kernel_rfl
set_option maxRecDepth 100000 in
theorem vparse2 (gl : Nat → Option (List D)) : pureCall (evFn (cfgA gl) 40) 109 [.val (.string ⟨#[32, 116, 114, 117, 101]⟩)] = some (.many [boolD 1, fltD 0 0 0 0]) := by kernel_rfl
theorem vparses_all (gl : Nat → Option (List D)) : ∀ r ∈ vparses, pureCall (evFn (cfgA gl) 40) 109 [.val (.string ⟨⟨r.name⟩⟩)] = some r.res := by
  intro r hr
  simp only [vparses, List.mem_cons, List.not_mem_nil, or_false] at hr
  rcases hr with rfl | rfl
  · exact vparse1 gl
  · exact vparse2 gl
theorem cfgA_ok (gl : Nat → Option (List D)) : (cfgA gl).P = Tryz.prog ∧ (cfgA gl).glob = gl ∧ OddSound Tryz.prog gl (cfgA gl).odd := ⟨rfl, rfl, oddT_sound⟩
def tabV : Tab := (109, strE2 vparses) :: libe
theorem tab_vparse {gl : Nat → Option (List D)} (hl : LibFits gl) : TabOk Tryz.prog gl tabV :=
  (libOk hl).cons (strE2_fair _) (strE2_spec (cfgA_ok gl) (by kernel_rfl) (libOk hl).ext MethSound.none (vparses_all gl))
end Ev
