/- What functions of the program compute, as plain Lean functions, each with its proof by a proved reader; plain laws about them (AlveP). -/
import Derived.Test.YtohmflkolmobmaaGreatDoorAlveV
namespace Ev
open Go Go.Proofs
noncomputable def cfgB (gl : Nat → Option (List D)) : Cfg := { cfgA gl with ext := extOf tabV }
def evD (k : Int) (p o q : List UInt8) (vk vi off l c : Int) : D := .agg [.val (.int .i64 k), .val (.string ⟨⟨p⟩⟩), .val (.string ⟨⟨o⟩⟩), .val (.string ⟨⟨q⟩⟩), .val (.int .i64 vk), .val (.int .i64 vi), .val (.int .i64 0), .val (.string .empty), .slice [], .val (.int .i64 off), .val (.int .i64 l), .val (.int .i64 c)]
def evs0 : List D := [evD 1 [112, 49] [113] [101, 110, 113] 2 3 6 2 3, evD 2 [112, 49] [] [] 1 1 21 3 1]
set_option maxRecDepth 100000 in
theorem eparse1 (gl : Nat → Option (List D)) : pureCall (evFn (cfgB gl) 40) 34 [.val (.string ⟨#[105, 110, 118, 32, 112, 32, 49, 113, 32, 101, 110, 113, 32, 51]⟩)] = some (.many [.slice [], fltD 21 6 1 7]) := by kernel_rfl
set_option maxRecDepth 100000 in
theorem eparse2 (gl : Nat → Option (List D)) : pureCall (evFn (cfgB gl) 40) 34 [.val (.string ⟨#[10, 105, 110, 118, 32, 112, 32, 113]⟩)] = some (.many [.slice [], fltD 60 8 2 8]) := by kernel_rfl
end Ev
