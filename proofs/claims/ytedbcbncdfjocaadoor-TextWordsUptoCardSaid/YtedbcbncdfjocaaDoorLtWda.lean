/- What functions of the program compute, as plain Lean functions, each with its proof by the reader (LtWda); printed by a tool of this work. -/
import Derived.Test.YtedbcbncdfjocaaDoorEvTh
import Derived.Test.YtedbcbncdfjocaaDoorEvLib
import Derived.Test.YtedbcbncdfjocaaDoorEvHex
import Derived.Test.YtedbcbncdfjocaaDoorEvBld
import Derived.Test.YtedbcbncdfjocaaDoorChecked
import Derived.KernelRfl
set_option maxRecDepth 100000
set_option linter.unusedVariables false
namespace Ev
open Go Go.Proofs
variable {gl : Nat → Option (List D)}
def tabs (gl : Nat → Option (List D)) : Tabs := ⟨[(44, [(1, [0]), (0, [0])]),
  (69, [(1, [0]), (0, [0])]),
  (84, [(2, [6]), (1, [0, 1]), (0, [0, 1])]),
  (71, [(1, [0]), (0, [])]),
  (70, [(1, [0]), (0, [0])]),
  (98, [(1, [0, 1, 2, 3]), (0, [0, 1, 2, 3])]),
  (39, [(1, [0]), (0, [0])]),
  (37, [(7, []), (6, [0, 5, 6]), (5, []), (4, [0, 4, 5, 6]), (3, [0, 5, 6]), (2, [0, 5, 6]), (1, [0]), (0, [0])]),
  (67, [(22, [1, 4]), (4, [1, 4, 5]), (7, [0, 1, 4, 5]), (6, [0, 1, 4, 5, 6, 7]), (14, [0, 1, 4, 5]), (13, [0, 1, 4, 5, 6, 7]), (12, [0, 1, 4, 5, 6]), (11, [0, 1, 4, 5, 6, 7]), (10, [0, 1, 4, 5, 7]), (9, [0, 1, 4, 5, 6, 7]), (21, [0, 1, 4, 5]), (20, [0, 1, 4, 5, 6, 7]), (19, [0, 1, 4, 5, 6]), (18, [0, 1, 4, 5, 6, 7]), (17, [0, 1, 4, 5, 7]), (16, [0, 1, 4, 5, 6, 7]), (15, [0, 1, 4, 5, 6, 7]), (8, [0, 1, 4, 5, 6, 7]), (5, [0, 1, 4, 5, 6, 7]), (3, [0, 1, 4, 5, 6, 7]), (2, [0, 1, 4, 5]), (1, [0, 1, 4]), (0, [0, 1])]),
  (42, [(4, [4]), (3, []), (2, [0, 4, 5]), (1, [0]), (0, [0])]),
  (29, [(7, [3]), (6, [0, 3, 4, 5]), (5, [0, 3, 4, 5]), (4, [0, 3, 4]), (3, [0, 3, 4]), (2, [0, 3]), (1, [0]), (0, [0])]),
  (36, [(18, [4]), (17, [0, 3, 4, 6]), (16, [0, 3, 4, 5, 6, 8]), (15, [4]), (14, [0, 3, 4, 5, 6, 8]), (13, [0, 3, 4, 5, 6, 7]), (12, [0, 3, 4, 5, 6]), (11, [0, 3, 4, 5, 6, 7]), (10, [0, 3, 4, 5, 6]), (9, [0, 3, 4, 5, 6]), (8, [0, 3, 4, 5, 6]), (7, [0, 3, 4, 5]), (6, [0, 3, 4, 5]), (5, [0, 3, 4, 5]), (4, [0, 3, 4, 5]), (3, [0, 3, 4]), (2, [0, 3]), (1, [0]), (0, [0])]),
  (35, [(17, [5]), (16, [2, 5, 8]), (11, [1, 2, 5, 6, 7, 8, 9, 10, 14]), (13, [5]), (15, [1, 2, 5, 6, 7, 8, 9, 10, 14]), (14, [1, 2, 5, 6, 7, 8, 9, 10, 14]), (12, [1, 2, 5, 6, 7, 8, 9, 10, 11, 14]), (10, [1, 2, 5, 6, 7, 8, 9, 10, 11, 14]), (9, [1, 2, 5, 6, 7, 8, 9, 10, 11, 14]), (8, [1, 2, 5, 6, 7, 8, 9, 14, 15]), (7, [1, 2, 5, 6, 7, 8, 9, 14]), (6, [1, 2, 5, 6, 7, 8, 9]), (5, [1, 2, 5, 6, 7, 8]), (4, [1, 2, 5, 6, 7]), (3, [1, 2, 5, 6]), (2, [1, 2, 5]), (1, [1, 2]), (0, [0, 1])]),
  (52, [(5, [3]), (4, [3, 5]), (3, [3, 5]), (2, [0, 3]), (1, [0]), (0, [0])]),
  (40, [(10, []), (9, []), (8, [3]), (7, []), (6, [3, 5, 7]), (5, [3, 5, 7]), (4, [3, 7, 8]), (3, [3, 7]), (2, [0, 3]), (1, [0]), (0, [0])]),
  (85, [(3, [0, 3, 4]), (6, [0, 4, 6]), (5, [0, 4, 5, 6]), (4, [0, 3, 4]), (2, [0, 3, 4]), (1, [0, 3]), (0, [0, 1])]),
  (83, [(11, [0, 1, 3, 8]), (10, [0, 1, 3, 8]), (9, [0, 1, 3, 5, 8]), (8, [0, 1, 3, 5, 8]), (7, [0, 1, 3, 5, 8]), (6, [0, 1, 3, 8]), (5, [0, 1, 3, 4, 5, 8]), (4, [0, 1, 3, 4, 5, 8]), (3, [0, 1, 3, 8, 9]), (2, [0, 1, 3, 8]), (1, [0, 1, 3]), (0, [0, 1])]),
  (33, [(11, [4, 5]), (10, [5, 8]), (9, [4, 5, 7, 8]), (8, [4, 5, 7, 15]), (7, [4, 5, 14, 15]), (6, [4, 5, 6]), (5, []), (4, [4, 5, 6]), (3, [0, 4, 5]), (2, [0, 4]), (1, [0]), (0, [0])]),
  (28, [(11, [4, 5]), (10, [5, 8]), (9, [4, 5, 7, 8]), (8, [4, 5, 7, 15]), (7, [4, 5, 14, 15]), (6, [4, 5, 6]), (5, []), (4, [4, 5, 6]), (3, [0, 4, 5]), (2, [0, 4]), (1, [0]), (0, [0])]),
  (48, [(18, [3]), (17, [3]), (9, [3, 5]), (8, [3, 5]), (11, [3]), (16, [3, 6]), (15, [3, 6]), (14, [3, 6]), (13, [1, 3, 4]), (6, [3, 5]), (12, [1, 3, 4, 5]), (10, [1, 3, 4, 5]), (7, [1, 3, 4, 5]), (5, [1, 3, 4, 11]), (4, [1, 3, 10, 11]), (3, [1, 3]), (2, [1, 3]), (1, [1]), (0, [0])]),
  (76, [(4, [4, 5]), (3, [0]), (2, []), (1, [0]), (0, [0])]),
  (50, [(3, [0, 1]), (2, []), (1, [0, 1]), (0, [0, 1])]),
  (46, [(25, [5]), (24, []), (23, [0, 5]), (7, [0, 4, 5, 6]), (16, [0, 4, 5, 6]), (22, [0, 4, 5, 6]), (21, [0, 4, 5, 6, 7]), (20, []), (19, [0, 4, 5, 6, 7, 8]), (18, [0, 4, 5, 6]), (14, [0, 4, 5, 6]), (17, [0, 4, 5, 6, 54]), (15, [0, 4, 5, 6, 54]), (13, [0, 4, 5, 6]), (12, []), (11, [0, 4, 5, 6]), (10, [0, 4, 5, 6]), (9, [0, 4, 5, 6]), (8, [0, 4, 5, 6]), (6, [0, 4, 5, 6]), (5, [0, 4, 5]), (4, [0, 4]), (3, [0]), (2, []), (1, [0]), (0, [0])]),
  (32, [(7, [1, 2, 3, 4, 5, 6, 7, 8, 9, 10, 11]), (6, [1, 2, 3, 4, 5, 6, 7, 8, 9]), (5, [1, 2, 3, 4, 5, 6, 7]), (4, [1, 2, 3, 4, 5]), (3, [1, 2, 3, 4]), (2, [1, 2]), (1, []), (0, [])]),
  (35, [(17, [5]), (16, [2, 5, 8]), (11, [1, 2, 5, 6, 7, 8, 9, 10, 14]), (13, [5]), (15, [1, 2, 5, 6, 7, 8, 9, 10, 14]), (14, [1, 2, 5, 6, 7, 8, 9, 10, 14]), (12, [1, 2, 5, 6, 7, 8, 9, 10, 11, 14]), (10, [1, 2, 5, 6, 7, 8, 9, 10, 11, 14]), (9, [1, 2, 5, 6, 7, 8, 9, 10, 11, 14]), (8, [1, 2, 5, 6, 7, 8, 9, 14, 15]), (7, [1, 2, 5, 6, 7, 8, 9, 14]), (6, [1, 2, 5, 6, 7, 8, 9]), (5, [1, 2, 5, 6, 7, 8]), (4, [1, 2, 5, 6, 7]), (3, [1, 2, 5, 6]), (2, [1, 2, 5]), (1, [1, 2]), (0, [0, 1])]),
  (9, [(21, []), (18, [6, 9, 10]), (20, []), (19, [6, 9, 10]), (17, [6, 9, 10]), (16, [6, 9]), (15, [0, 1, 6]), (13, [0, 1, 5, 6, 8]), (14, [0, 1, 5, 6, 8]), (12, [0, 1, 5, 6, 8]), (11, [0, 1, 5, 6]), (7, [0, 1, 5, 6, 7]), (10, [0, 1, 5, 6, 7]), (9, []), (8, [0, 1, 5, 6, 7]), (6, [0, 1, 5, 6, 7]), (5, [0, 1, 5, 6]), (4, []), (3, [0, 1, 5, 6]), (2, [0, 1, 5]), (1, [0, 1]), (0, [0, 1])])],
  [(44, []),
  (69, []),
  (84, []),
  (71, []),
  (70, []),
  (98, []),
  (39, []),
  (37, [(0, [2]), (1, [0, 2, 5, 6])]),
  (67, [(0, [1, 4])]),
  (42, []),
  (29, [(0, [3]), (1, [0, 3, 4])]),
  (36, [(0, [2, 4]), (1, [0, 2, 3, 4, 5]), (2, [0, 3, 4, 5, 6]), (3, [0, 3, 4, 5, 6])]),
  (35, [(0, [2, 4, 5, 8]), (1, [1, 2, 4, 5, 6, 7, 8, 9, 14]), (2, [1, 2, 4, 5, 6, 7, 8, 9, 14])]),
  (52, [(0, [3]), (1, [3, 5])]),
  (40, [(0, [2, 3]), (1, [2, 3, 7])]),
  (85, [(0, []), (1, [0, 3, 4])]),
  (83, [(0, []), (1, [0, 1, 3, 8])]),
  (33, [(0, [4, 5]), (1, [])]),
  (28, [(0, [4, 5]), (1, [])]),
  (48, [(0, [3]), (1, []), (2, [])]),
  (76, []),
  (50, []),
  (46, [(0, [0, 2, 3, 5]), (1, [0, 2, 3, 4, 5, 6]), (2, [0, 2, 3, 4, 5, 6])]),
  (32, []),
  (35, [(0, [2, 4, 5, 8]), (1, [1, 2, 4, 5, 6, 7, 8, 9, 14]), (2, [1, 2, 4, 5, 6, 7, 8, 9, 14])]),
  (9, [(4, [4]), (5, [4, 6, 9, 10]), (2, [0, 1, 6]), (0, [0, 1, 4, 5, 6]), (1, [0, 1, 4, 5, 6, 7])])],
  [(35, [(6, [(1, 0, false)])]), (33, [(6, [(0, 0, false), (1, 0, false)])]), (28, [(6, [(0, 0, false), (1, 0, false)])]), (48, [(2, [(1, 1, true)])]), (35, [(6, [(1, 0, false)])])],
  [(69, [(1, [3, 7])]), (70, [(1, [3, 7])]), (37, [(4, [5])]), (67, [(5, [3]), (8, [3]), (15, [3])]), (35, [(12, [3])]), (40, [(8, [3])]), (48, [(7, [3]), (12, [3])]), (50, [(1, [3])]), (32, [(7, [23, 40, 53, 62, 71])]), (35, [(12, [3])])],
  [85, 83], [54, 53, 104, 124], gl, oddT, [(9, 12)]⟩
theorem oddOk : OddSound Tryd.prog gl (tabs gl).odd := oddT_sound
noncomputable def tS0 : Tab := [(102, e102), (107, e107), (86, e86), (82, e82), (73, e73), (74, e74)]
theorem okS0 (hl : LibFits gl) : TabOk Tryd.prog gl tS0 := libAll hl
theorem mixed : Tryd.prog.follows .mixedOrders = true := Tryd.checked.mixed
def d44 (ds : List D) : Option (Int) := match ds with
  | [.val (.int .i64 a0)] => some a0
  | _ => none
def r44 (v : AV) : Option (ByteArray) := match toPR v with
  | some (.one (.val (.string a1))) => some a1
  | _ => none
def n44 : Int → Option (ByteArray) := fun a0 => ((n74 (a0, 10)).bind fun y2 => (some y2))
def e44 : PureE := mkE d44 n44 (fun a1 => .one (.val (.string a1)))
def g44 {σ : Type} : Nat → Option (SegE σ)
  | _ => none
theorem N44 : ∀ a, n44 a = bodyK (cfgOf Tryd.prog (tabs gl) tS0) (toldOf tS0) noY (inlN (cfgOf Tryd.prog (tabs gl) tS0) (toldOf tS0) noY) g44 44 Tryd.f44 (((fun a0 => [.val (.int .i64 a0)] : (Int) → List D) a).map .d) [] [] () (fun v _ _ _ => r44 v) := by
  intro a0
  kernel_rfl
noncomputable def t44 : Tab := (44, e44) :: tS0
theorem ok44 (hl : LibFits gl) : TabOk Tryd.prog gl t44 :=
  told_fn (okS0 hl) mixed oddOk Tryd.func44 (by kernel_rfl) (by kernel_rfl) (by kernel_rfl) (segs_no (by kernel_rfl))
    (args := fun a0 => [.val (.int .i64 a0)]) (res := r44)
    (fun ds a h => by
      unfold d44 at h
      split at h
      · cases h; rfl
      · cases h)
    (fun v r h => by
      unfold r44 at h
      split at h
      · rename_i hv; cases h; exact hv
      · cases h)
    N44
def d69 (ds : List D) : Option (Int) := match ds with
  | [.val (.int .i32 a0)] => some a0
  | _ => none
def r69 (v : AV) : Option (Bool) := match toPR v with
  | some (.one (.val (.bool a1))) => some a1
  | _ => none
def n69 : Int → Option (Bool) := fun a0 => (some (bif (bif (a0 == 32) then true else (a0 == 9)) then true else (a0 == 13)))
def e69 : PureE := mkE d69 n69 (fun a1 => .one (.val (.bool a1)))
def g69 {σ : Type} : Nat → Option (SegE σ)
  | _ => none
theorem N69 : ∀ a, n69 a = bodyK (cfgOf Tryd.prog (tabs gl) tS0) (toldOf tS0) noY (inlN (cfgOf Tryd.prog (tabs gl) tS0) (toldOf tS0) noY) g69 69 Tryd.f69 (((fun a0 => [.val (.int .i32 a0)] : (Int) → List D) a).map .d) [] [] () (fun v _ _ _ => r69 v) := by
  intro a0
  kernel_rfl
noncomputable def t69 : Tab := (69, e69) :: tS0
theorem ok69 (hl : LibFits gl) : TabOk Tryd.prog gl t69 :=
  told_fn (okS0 hl) mixed oddOk Tryd.func69 (by kernel_rfl) (by kernel_rfl) (by kernel_rfl) (segs_no (by kernel_rfl))
    (args := fun a0 => [.val (.int .i32 a0)]) (res := r69)
    (fun ds a h => by
      unfold d69 at h
      split at h
      · cases h; rfl
      · cases h)
    (fun v r h => by
      unfold r69 at h
      split at h
      · rename_i hv; cases h; exact hv
      · cases h)
    N69
def d84 (ds : List D) : Option (ByteArray × Int) := match ds with
  | [.val (.string a0), .val (.int .i64 a1)] => some (a0, a1)
  | _ => none
def r84 (v : AV) : Option (Bool) := match toPR v with
  | some (.one (.val (.bool a2))) => some a2
  | _ => none
def n84 : ByteArray × Int → Option (Bool) := fun (a0, a1) => (ask (cutOk a1 (a0.size : Int) a0.size) ((n107 (a0.extract (Int.toNat a1) (Int.toNat (a0.size : Int)))).bind fun y3 => (some (y3.2 == 1))))
def e84 : PureE := mkE d84 n84 (fun a2 => .one (.val (.bool a2)))
def g84 {σ : Type} : Nat → Option (SegE σ)
  | _ => none
theorem N84 : ∀ a, n84 a = bodyK (cfgOf Tryd.prog (tabs gl) tS0) (toldOf tS0) noY (inlN (cfgOf Tryd.prog (tabs gl) tS0) (toldOf tS0) noY) g84 84 Tryd.f84 (((fun (a0, a1) => [.val (.string a0), .val (.int .i64 a1)] : (ByteArray × Int) → List D) a).map .d) [] [] () (fun v _ _ _ => r84 v) := by
  intro a
  obtain ⟨a0, a1⟩ := a
  kernel_rfl
noncomputable def t84 : Tab := (84, e84) :: tS0
theorem ok84 (hl : LibFits gl) : TabOk Tryd.prog gl t84 :=
  told_fn (okS0 hl) mixed oddOk Tryd.func84 (by kernel_rfl) (by kernel_rfl) (by kernel_rfl) (segs_no (by kernel_rfl))
    (args := fun (a0, a1) => [.val (.string a0), .val (.int .i64 a1)]) (res := r84)
    (fun ds a h => by
      unfold d84 at h
      split at h
      · cases h; rfl
      · cases h)
    (fun v r h => by
      unfold r84 at h
      split at h
      · rename_i hv; cases h; exact hv
      · cases h)
    N84
def d71 (ds : List D) : Option (Unit) := match ds with
  | [] => some ()
  | _ => none
def r71 (v : AV) : Option (Int × Int × Int × Int × Int × Int × Int × Int × Int × Int × Int × Int × Int × Int × Int × Int) := match toPR v with
  | some (.one (.agg [.val (.int .i32 a0), .val (.int .i32 a1), .val (.int .i32 a2), .val (.int .i32 a3), .val (.int .i32 a4), .val (.int .i32 a5), .val (.int .i32 a6), .val (.int .i32 a7), .val (.int .i32 a8), .val (.int .i32 a9), .val (.int .i32 a10), .val (.int .i32 a11), .val (.int .i32 a12), .val (.int .i32 a13), .val (.int .i32 a14), .val (.int .i32 a15)])) => some (a0, a1, a2, a3, a4, a5, a6, a7, a8, a9, a10, a11, a12, a13, a14, a15)
  | _ => none
def n71 : Unit → Option (Int × Int × Int × Int × Int × Int × Int × Int × Int × Int × Int × Int × Int × Int × Int × Int) := fun () => (some (97, 122, 65, 90, 95, 95, 192, 214, 216, 246, 248, 591, 913, 929, 931, 969))
def e71 : PureE := mkE d71 n71 (fun (a0, a1, a2, a3, a4, a5, a6, a7, a8, a9, a10, a11, a12, a13, a14, a15) => .one (.agg [.val (.int .i32 a0), .val (.int .i32 a1), .val (.int .i32 a2), .val (.int .i32 a3), .val (.int .i32 a4), .val (.int .i32 a5), .val (.int .i32 a6), .val (.int .i32 a7), .val (.int .i32 a8), .val (.int .i32 a9), .val (.int .i32 a10), .val (.int .i32 a11), .val (.int .i32 a12), .val (.int .i32 a13), .val (.int .i32 a14), .val (.int .i32 a15)]))
def g71 {σ : Type} : Nat → Option (SegE σ)
  | _ => none
theorem N71 : ∀ a, n71 a = bodyK (cfgOf Tryd.prog (tabs gl) tS0) (toldOf tS0) noY (inlN (cfgOf Tryd.prog (tabs gl) tS0) (toldOf tS0) noY) g71 71 Tryd.f71 (((fun () => [] : (Unit) → List D) a).map .d) [] [] () (fun v _ _ _ => r71 v) := by
  intro a
  kernel_rfl
noncomputable def t71 : Tab := (71, e71) :: tS0
theorem ok71 (hl : LibFits gl) : TabOk Tryd.prog gl t71 :=
  told_fn (okS0 hl) mixed oddOk Tryd.func71 (by kernel_rfl) (by kernel_rfl) (by kernel_rfl) (segs_no (by kernel_rfl))
    (args := fun () => []) (res := r71)
    (fun ds a h => by
      unfold d71 at h
      split at h
      · cases h; rfl
      · cases h)
    (fun v r h => by
      unfold r71 at h
      split at h
      · rename_i hv; cases h; exact hv
      · cases h)
    N71
def d70 (ds : List D) : Option (Int) := match ds with
  | [.val (.int .i64 a0)] => some a0
  | _ => none
def r70 (v : AV) : Option (Bool) := match toPR v with
  | some (.one (.val (.bool a1))) => some a1
  | _ => none
def n70 : Int → Option (Bool) := fun a0 => (some (bif (bif (a0 == 32) then true else (a0 == 9)) then true else (a0 == 13)))
def e70 : PureE := mkE d70 n70 (fun a1 => .one (.val (.bool a1)))
def g70 {σ : Type} : Nat → Option (SegE σ)
  | _ => none
theorem N70 : ∀ a, n70 a = bodyK (cfgOf Tryd.prog (tabs gl) tS0) (toldOf tS0) noY (inlN (cfgOf Tryd.prog (tabs gl) tS0) (toldOf tS0) noY) g70 70 Tryd.f70 (((fun a0 => [.val (.int .i64 a0)] : (Int) → List D) a).map .d) [] [] () (fun v _ _ _ => r70 v) := by
  intro a0
  kernel_rfl
noncomputable def t70 : Tab := (70, e70) :: tS0
theorem ok70 (hl : LibFits gl) : TabOk Tryd.prog gl t70 :=
  told_fn (okS0 hl) mixed oddOk Tryd.func70 (by kernel_rfl) (by kernel_rfl) (by kernel_rfl) (segs_no (by kernel_rfl))
    (args := fun a0 => [.val (.int .i64 a0)]) (res := r70)
    (fun ds a h => by
      unfold d70 at h
      split at h
      · cases h; rfl
      · cases h)
    (fun v r h => by
      unfold r70 at h
      split at h
      · rename_i hv; cases h; exact hv
      · cases h)
    N70
def d98 (ds : List D) : Option (ByteArray × Int × Int × Int) := match ds with
  | [.val (.string a0), .val (.int .i64 a1), .val (.int .u8 a2), .val (.int .u8 a3)] => some (a0, a1, a2, a3)
  | _ => none
def r98 (v : AV) : Option (Bool) := match toPR v with
  | some (.one (.val (.bool a4))) => some a4
  | _ => none
def n98 : ByteArray × Int × Int × Int → Option (Bool) := fun (a0, a1, a2, a3) => (bif (decide (a1 < (a0.size : Int))) then ((sidx a0 a1).bind fun c5 => (bif (decide ((c5.toNat : Int) ≥ a2)) then ((sidx a0 a1).bind fun c6 => (some (decide ((c6.toNat : Int) ≤ a3)))) else (some false))) else (some false))
def e98 : PureE := mkE d98 n98 (fun a4 => .one (.val (.bool a4)))
def g98 {σ : Type} : Nat → Option (SegE σ)
  | _ => none
theorem N98 : ∀ a, n98 a = bodyK (cfgOf Tryd.prog (tabs gl) tS0) (toldOf tS0) noY (inlN (cfgOf Tryd.prog (tabs gl) tS0) (toldOf tS0) noY) g98 98 Tryd.f98 (((fun (a0, a1, a2, a3) => [.val (.string a0), .val (.int .i64 a1), .val (.int .u8 a2), .val (.int .u8 a3)] : (ByteArray × Int × Int × Int) → List D) a).map .d) [] [] () (fun v _ _ _ => r98 v) := by
  intro a
  obtain ⟨a0, a1, a2, a3⟩ := a
  kernel_rfl
noncomputable def t98 : Tab := (98, e98) :: tS0
theorem ok98 (hl : LibFits gl) : TabOk Tryd.prog gl t98 :=
  told_fn (okS0 hl) mixed oddOk Tryd.func98 (by kernel_rfl) (by kernel_rfl) (by kernel_rfl) (segs_no (by kernel_rfl))
    (args := fun (a0, a1, a2, a3) => [.val (.string a0), .val (.int .i64 a1), .val (.int .u8 a2), .val (.int .u8 a3)]) (res := r98)
    (fun ds a h => by
      unfold d98 at h
      split at h
      · cases h; rfl
      · cases h)
    (fun v r h => by
      unfold r98 at h
      split at h
      · rename_i hv; cases h; exact hv
      · cases h)
    N98
def d39 (ds : List D) : Option (Int) := match ds with
  | [.val (.int .i64 a0)] => some a0
  | _ => none
def r39 (v : AV) : Option (Int) := match toPR v with
  | some (.one (.val (.int .i64 a1))) => some a1
  | _ => none
def n39 : Int → Option (Int) := fun a0 => (some a0)
def e39 : PureE := mkE d39 n39 (fun a1 => .one (.val (.int .i64 a1)))
def g39 {σ : Type} : Nat → Option (SegE σ)
  | _ => none
theorem N39 : ∀ a, n39 a = bodyK (cfgOf Tryd.prog (tabs gl) tS0) (toldOf tS0) noY (inlN (cfgOf Tryd.prog (tabs gl) tS0) (toldOf tS0) noY) g39 39 Tryd.f39 (((fun a0 => [.val (.int .i64 a0)] : (Int) → List D) a).map .d) [] [] () (fun v _ _ _ => r39 v) := by
  intro a0
  kernel_rfl
noncomputable def t39 : Tab := (39, e39) :: tS0
theorem ok39 (hl : LibFits gl) : TabOk Tryd.prog gl t39 :=
  told_fn (okS0 hl) mixed oddOk Tryd.func39 (by kernel_rfl) (by kernel_rfl) (by kernel_rfl) (segs_no (by kernel_rfl))
    (args := fun a0 => [.val (.int .i64 a0)]) (res := r39)
    (fun ds a h => by
      unfold d39 at h
      split at h
      · cases h; rfl
      · cases h)
    (fun v r h => by
      unfold r39 at h
      split at h
      · rename_i hv; cases h; exact hv
      · cases h)
    N39
noncomputable def tS1 : Tab := (44, e44) :: (69, e69) :: (84, e84) :: (71, e71) :: (70, e70) :: (98, e98) :: (39, e39) :: tS0
theorem okS1 (hl : LibFits gl) : TabOk Tryd.prog gl tS1 :=
  TabOk.cons (TabOk.cons (TabOk.cons (TabOk.cons (TabOk.cons (TabOk.cons (TabOk.cons (okS0 hl) ((ok39 hl).fair (39, e39) (List.mem_cons_self (l := tS0))) ((ok39 hl).spec (39, e39) (List.mem_cons_self (l := tS0)))) ((ok98 hl).fair (98, e98) (List.mem_cons_self (l := tS0))) ((ok98 hl).spec (98, e98) (List.mem_cons_self (l := tS0)))) ((ok70 hl).fair (70, e70) (List.mem_cons_self (l := tS0))) ((ok70 hl).spec (70, e70) (List.mem_cons_self (l := tS0)))) ((ok71 hl).fair (71, e71) (List.mem_cons_self (l := tS0))) ((ok71 hl).spec (71, e71) (List.mem_cons_self (l := tS0)))) ((ok84 hl).fair (84, e84) (List.mem_cons_self (l := tS0))) ((ok84 hl).spec (84, e84) (List.mem_cons_self (l := tS0)))) ((ok69 hl).fair (69, e69) (List.mem_cons_self (l := tS0))) ((ok69 hl).spec (69, e69) (List.mem_cons_self (l := tS0)))) ((ok44 hl).fair (44, e44) (List.mem_cons_self (l := tS0))) ((ok44 hl).spec (44, e44) (List.mem_cons_self (l := tS0)))
def d37 (ds : List D) : Option (Int) := match ds with
  | [.val (.int .i32 a0)] => some a0
  | _ => none
def r37 (v : AV) : Option (Bool) := match toPR v with
  | some (.one (.val (.bool a1))) => some a1
  | _ => none
def n37 : Int → Option (Bool) := fun a0 => ((n71 ()).bind fun y2 => (bif (bif (decide (a0 ≥ y2.1)) then (decide (a0 ≤ y2.2.1)) else false) then (some true) else (bif (bif (decide (a0 ≥ y2.2.2.1)) then (decide (a0 ≤ y2.2.2.2.1)) else false) then (some true) else (bif (bif (decide (a0 ≥ y2.2.2.2.2.1)) then (decide (a0 ≤ y2.2.2.2.2.2.1)) else false) then (some true) else (bif (bif (decide (a0 ≥ y2.2.2.2.2.2.2.1)) then (decide (a0 ≤ y2.2.2.2.2.2.2.2.1)) else false) then (some true) else (bif (bif (decide (a0 ≥ y2.2.2.2.2.2.2.2.2.1)) then (decide (a0 ≤ y2.2.2.2.2.2.2.2.2.2.1)) else false) then (some true) else (bif (bif (decide (a0 ≥ y2.2.2.2.2.2.2.2.2.2.2.1)) then (decide (a0 ≤ y2.2.2.2.2.2.2.2.2.2.2.2.1)) else false) then (some true) else (bif (bif (decide (a0 ≥ y2.2.2.2.2.2.2.2.2.2.2.2.2.1)) then (decide (a0 ≤ y2.2.2.2.2.2.2.2.2.2.2.2.2.2.1)) else false) then (some true) else (bif (bif (decide (a0 ≥ y2.2.2.2.2.2.2.2.2.2.2.2.2.2.2.1)) then (decide (a0 ≤ y2.2.2.2.2.2.2.2.2.2.2.2.2.2.2.2)) else false) then (some true) else (some false))))))))))
def e37 : PureE := mkE d37 n37 (fun a1 => .one (.val (.bool a1)))
def g37 {σ : Type} : Nat → Option (SegE σ)
  | _ => none
theorem N37 : ∀ a, n37 a = bodyK (cfgOf Tryd.prog (tabs gl) tS1) (toldOf tS1) noY (inlN (cfgOf Tryd.prog (tabs gl) tS1) (toldOf tS1) noY) g37 37 Tryd.f37 (((fun a0 => [.val (.int .i32 a0)] : (Int) → List D) a).map .d) [] [] () (fun v _ _ _ => r37 v) := by
  intro a0
  kernel_rfl
noncomputable def t37 : Tab := (37, e37) :: tS1
theorem ok37 (hl : LibFits gl) : TabOk Tryd.prog gl t37 :=
  told_fn (okS1 hl) mixed oddOk Tryd.func37 (by kernel_rfl) (by kernel_rfl) (by kernel_rfl) (segs_no (by kernel_rfl))
    (args := fun a0 => [.val (.int .i32 a0)]) (res := r37)
    (fun ds a h => by
      unfold d37 at h
      split at h
      · cases h; rfl
      · cases h)
    (fun v r h => by
      unfold r37 at h
      split at h
      · rename_i hv; cases h; exact hv
      · cases h)
    N37
def d67 (ds : List D) : Option (ByteArray × Int) := match ds with
  | [.val (.string a0), .val (.int .i64 a1)] => some (a0, a1)
  | _ => none
def r67 (v : AV) : Option (Int × Int × Int) := match toPR v with
  | some (.one (.agg [.val (.int .i64 a2), .val (.int .i64 a3), .val (.int .i64 a4)])) => some (a2, a3, a4)
  | _ => none
def n67 : ByteArray × Int → Option (Int × Int × Int) := fun (a0, a1) => ((sidx a0 a1).bind fun c5 => (bif (decide ((c5.toNat : Int) < 128)) then (some ((w64 (c5.toNat : Int)), a1, 1)) else (bif (bif (decide ((c5.toNat : Int) ≥ 194)) then (decide ((c5.toNat : Int) ≤ 223)) else false) then ((n98 (a0, (w64 (a1 + 1)), 128, 191)).bind fun y6 => (bif y6 then ((sidx a0 (w64 (a1 + 1))).bind fun c7 => (some ((bOr .i64 (w64 ((w64 (bAnd .u8 (c5.toNat : Int) 31)) * 2 ^ (min (Int.toNat 6) 64))) (w64 (bAnd .u8 (c7.toNat : Int) 63))), a1, 2))) else (some ((-1), a1, 1)))) else (bif (bif (decide ((c5.toNat : Int) ≥ 224)) then (decide ((c5.toNat : Int) ≤ 239)) else false) then (bif ((c5.toNat : Int) == 224) then (bif ((c5.toNat : Int) == 237) then ((n98 (a0, (w64 (a1 + 1)), 160, 159)).bind fun y8 => (bif y8 then ((n98 (a0, (w64 (a1 + 2)), 128, 191)).bind fun y9 => (bif y9 then ((sidx a0 (w64 (a1 + 1))).bind fun c10 => ((sidx a0 (w64 (a1 + 2))).bind fun c11 => (some ((bOr .i64 (bOr .i64 (w64 ((w64 (bAnd .u8 (c5.toNat : Int) 15)) * 2 ^ (min (Int.toNat 12) 64))) (w64 ((w64 (bAnd .u8 (c10.toNat : Int) 63)) * 2 ^ (min (Int.toNat 6) 64)))) (w64 (bAnd .u8 (c11.toNat : Int) 63))), a1, 3)))) else (some ((-1), a1, 1)))) else (some ((-1), a1, 1)))) else ((n98 (a0, (w64 (a1 + 1)), 160, 191)).bind fun y12 => (bif y12 then ((n98 (a0, (w64 (a1 + 2)), 128, 191)).bind fun y13 => (bif y13 then ((sidx a0 (w64 (a1 + 1))).bind fun c14 => ((sidx a0 (w64 (a1 + 2))).bind fun c15 => (some ((bOr .i64 (bOr .i64 (w64 ((w64 (bAnd .u8 (c5.toNat : Int) 15)) * 2 ^ (min (Int.toNat 12) 64))) (w64 ((w64 (bAnd .u8 (c14.toNat : Int) 63)) * 2 ^ (min (Int.toNat 6) 64)))) (w64 (bAnd .u8 (c15.toNat : Int) 63))), a1, 3)))) else (some ((-1), a1, 1)))) else (some ((-1), a1, 1))))) else (bif ((c5.toNat : Int) == 237) then ((n98 (a0, (w64 (a1 + 1)), 128, 159)).bind fun y16 => (bif y16 then ((n98 (a0, (w64 (a1 + 2)), 128, 191)).bind fun y17 => (bif y17 then ((sidx a0 (w64 (a1 + 1))).bind fun c18 => ((sidx a0 (w64 (a1 + 2))).bind fun c19 => (some ((bOr .i64 (bOr .i64 (w64 ((w64 (bAnd .u8 (c5.toNat : Int) 15)) * 2 ^ (min (Int.toNat 12) 64))) (w64 ((w64 (bAnd .u8 (c18.toNat : Int) 63)) * 2 ^ (min (Int.toNat 6) 64)))) (w64 (bAnd .u8 (c19.toNat : Int) 63))), a1, 3)))) else (some ((-1), a1, 1)))) else (some ((-1), a1, 1)))) else ((n98 (a0, (w64 (a1 + 1)), 128, 191)).bind fun y20 => (bif y20 then ((n98 (a0, (w64 (a1 + 2)), 128, 191)).bind fun y21 => (bif y21 then ((sidx a0 (w64 (a1 + 1))).bind fun c22 => ((sidx a0 (w64 (a1 + 2))).bind fun c23 => (some ((bOr .i64 (bOr .i64 (w64 ((w64 (bAnd .u8 (c5.toNat : Int) 15)) * 2 ^ (min (Int.toNat 12) 64))) (w64 ((w64 (bAnd .u8 (c22.toNat : Int) 63)) * 2 ^ (min (Int.toNat 6) 64)))) (w64 (bAnd .u8 (c23.toNat : Int) 63))), a1, 3)))) else (some ((-1), a1, 1)))) else (some ((-1), a1, 1)))))) else (bif (bif (decide ((c5.toNat : Int) ≥ 240)) then (decide ((c5.toNat : Int) ≤ 244)) else false) then (bif ((c5.toNat : Int) == 240) then (bif ((c5.toNat : Int) == 244) then ((n98 (a0, (w64 (a1 + 1)), 144, 143)).bind fun y24 => (bif y24 then ((n98 (a0, (w64 (a1 + 2)), 128, 191)).bind fun y25 => (bif y25 then ((n98 (a0, (w64 (a1 + 3)), 128, 191)).bind fun y26 => (bif y26 then ((sidx a0 (w64 (a1 + 1))).bind fun c27 => ((sidx a0 (w64 (a1 + 2))).bind fun c28 => ((sidx a0 (w64 (a1 + 3))).bind fun c29 => (some ((bOr .i64 (bOr .i64 (bOr .i64 (w64 ((w64 (bAnd .u8 (c5.toNat : Int) 7)) * 2 ^ (min (Int.toNat 18) 64))) (w64 ((w64 (bAnd .u8 (c27.toNat : Int) 63)) * 2 ^ (min (Int.toNat 12) 64)))) (w64 ((w64 (bAnd .u8 (c28.toNat : Int) 63)) * 2 ^ (min (Int.toNat 6) 64)))) (w64 (bAnd .u8 (c29.toNat : Int) 63))), a1, 4))))) else (some ((-1), a1, 1)))) else (some ((-1), a1, 1)))) else (some ((-1), a1, 1)))) else ((n98 (a0, (w64 (a1 + 1)), 144, 191)).bind fun y30 => (bif y30 then ((n98 (a0, (w64 (a1 + 2)), 128, 191)).bind fun y31 => (bif y31 then ((n98 (a0, (w64 (a1 + 3)), 128, 191)).bind fun y32 => (bif y32 then ((sidx a0 (w64 (a1 + 1))).bind fun c33 => ((sidx a0 (w64 (a1 + 2))).bind fun c34 => ((sidx a0 (w64 (a1 + 3))).bind fun c35 => (some ((bOr .i64 (bOr .i64 (bOr .i64 (w64 ((w64 (bAnd .u8 (c5.toNat : Int) 7)) * 2 ^ (min (Int.toNat 18) 64))) (w64 ((w64 (bAnd .u8 (c33.toNat : Int) 63)) * 2 ^ (min (Int.toNat 12) 64)))) (w64 ((w64 (bAnd .u8 (c34.toNat : Int) 63)) * 2 ^ (min (Int.toNat 6) 64)))) (w64 (bAnd .u8 (c35.toNat : Int) 63))), a1, 4))))) else (some ((-1), a1, 1)))) else (some ((-1), a1, 1)))) else (some ((-1), a1, 1))))) else (bif ((c5.toNat : Int) == 244) then ((n98 (a0, (w64 (a1 + 1)), 128, 143)).bind fun y36 => (bif y36 then ((n98 (a0, (w64 (a1 + 2)), 128, 191)).bind fun y37 => (bif y37 then ((n98 (a0, (w64 (a1 + 3)), 128, 191)).bind fun y38 => (bif y38 then ((sidx a0 (w64 (a1 + 1))).bind fun c39 => ((sidx a0 (w64 (a1 + 2))).bind fun c40 => ((sidx a0 (w64 (a1 + 3))).bind fun c41 => (some ((bOr .i64 (bOr .i64 (bOr .i64 (w64 ((w64 (bAnd .u8 (c5.toNat : Int) 7)) * 2 ^ (min (Int.toNat 18) 64))) (w64 ((w64 (bAnd .u8 (c39.toNat : Int) 63)) * 2 ^ (min (Int.toNat 12) 64)))) (w64 ((w64 (bAnd .u8 (c40.toNat : Int) 63)) * 2 ^ (min (Int.toNat 6) 64)))) (w64 (bAnd .u8 (c41.toNat : Int) 63))), a1, 4))))) else (some ((-1), a1, 1)))) else (some ((-1), a1, 1)))) else (some ((-1), a1, 1)))) else ((n98 (a0, (w64 (a1 + 1)), 128, 191)).bind fun y42 => (bif y42 then ((n98 (a0, (w64 (a1 + 2)), 128, 191)).bind fun y43 => (bif y43 then ((n98 (a0, (w64 (a1 + 3)), 128, 191)).bind fun y44 => (bif y44 then ((sidx a0 (w64 (a1 + 1))).bind fun c45 => ((sidx a0 (w64 (a1 + 2))).bind fun c46 => ((sidx a0 (w64 (a1 + 3))).bind fun c47 => (some ((bOr .i64 (bOr .i64 (bOr .i64 (w64 ((w64 (bAnd .u8 (c5.toNat : Int) 7)) * 2 ^ (min (Int.toNat 18) 64))) (w64 ((w64 (bAnd .u8 (c45.toNat : Int) 63)) * 2 ^ (min (Int.toNat 12) 64)))) (w64 ((w64 (bAnd .u8 (c46.toNat : Int) 63)) * 2 ^ (min (Int.toNat 6) 64)))) (w64 (bAnd .u8 (c47.toNat : Int) 63))), a1, 4))))) else (some ((-1), a1, 1)))) else (some ((-1), a1, 1)))) else (some ((-1), a1, 1)))))) else (some ((-1), a1, 1)))))))
def e67 : PureE := mkE d67 n67 (fun (a2, a3, a4) => .one (.agg [.val (.int .i64 a2), .val (.int .i64 a3), .val (.int .i64 a4)]))
def g67 {σ : Type} : Nat → Option (SegE σ)
  | _ => none
theorem N67 : ∀ a, n67 a = bodyK (cfgOf Tryd.prog (tabs gl) tS1) (toldOf tS1) noY (inlN (cfgOf Tryd.prog (tabs gl) tS1) (toldOf tS1) noY) g67 67 Tryd.f67 (((fun (a0, a1) => [.val (.string a0), .val (.int .i64 a1)] : (ByteArray × Int) → List D) a).map .d) [] [] () (fun v _ _ _ => r67 v) := by
  intro a
  obtain ⟨a0, a1⟩ := a
  kernel_rfl
noncomputable def t67 : Tab := (67, e67) :: tS1
theorem ok67 (hl : LibFits gl) : TabOk Tryd.prog gl t67 :=
  told_fn (okS1 hl) mixed oddOk Tryd.func67 (by kernel_rfl) (by kernel_rfl) (by kernel_rfl) (segs_no (by kernel_rfl))
    (args := fun (a0, a1) => [.val (.string a0), .val (.int .i64 a1)]) (res := r67)
    (fun ds a h => by
      unfold d67 at h
      split at h
      · cases h; rfl
      · cases h)
    (fun v r h => by
      unfold r67 at h
      split at h
      · rename_i hv; cases h; exact hv
      · cases h)
    N67
def d42 (ds : List D) : Option (ByteArray) := match ds with
  | [.val (.string a0)] => some a0
  | _ => none
def r42 (v : AV) : Option (Int × Int) := match toPR v with
  | some (.many [.val (.int .i64 a1), .val (.int .i64 a2)]) => some (a1, a2)
  | _ => none
def n42 : ByteArray → Option (Int × Int) := fun a0 => ((n73 (a0, 10, 64)).bind fun y3 => (bif y3.2 then (some (0, 22)) else ((n44 y3.1).bind fun y4 => (bif (!(sEq y4 a0)) then (some (0, 22)) else (some (y3.1, 0))))))
def e42 : PureE := mkE d42 n42 (fun (a1, a2) => .many [.val (.int .i64 a1), .val (.int .i64 a2)])
def g42 {σ : Type} : Nat → Option (SegE σ)
  | _ => none
theorem N42 : ∀ a, n42 a = bodyK (cfgOf Tryd.prog (tabs gl) tS1) (toldOf tS1) noY (inlN (cfgOf Tryd.prog (tabs gl) tS1) (toldOf tS1) noY) g42 42 Tryd.f42 (((fun a0 => [.val (.string a0)] : (ByteArray) → List D) a).map .d) [] [] () (fun v _ _ _ => r42 v) := by
  intro a0
  kernel_rfl
noncomputable def t42 : Tab := (42, e42) :: tS1
theorem ok42 (hl : LibFits gl) : TabOk Tryd.prog gl t42 :=
  told_fn (okS1 hl) mixed oddOk Tryd.func42 (by kernel_rfl) (by kernel_rfl) (by kernel_rfl) (segs_no (by kernel_rfl))
    (args := fun a0 => [.val (.string a0)]) (res := r42)
    (fun ds a h => by
      unfold d42 at h
      split at h
      · cases h; rfl
      · cases h)
    (fun v r h => by
      unfold r42 at h
      split at h
      · rename_i hv; cases h; exact hv
      · cases h)
    N42
noncomputable def tS2 : Tab := (37, e37) :: (67, e67) :: (42, e42) :: tS1
theorem okS2 (hl : LibFits gl) : TabOk Tryd.prog gl tS2 :=
  TabOk.cons (TabOk.cons (TabOk.cons (okS1 hl) ((ok42 hl).fair (42, e42) (List.mem_cons_self (l := tS1))) ((ok42 hl).spec (42, e42) (List.mem_cons_self (l := tS1)))) ((ok67 hl).fair (67, e67) (List.mem_cons_self (l := tS1))) ((ok67 hl).spec (67, e67) (List.mem_cons_self (l := tS1)))) ((ok37 hl).fair (37, e37) (List.mem_cons_self (l := tS1))) ((ok37 hl).spec (37, e37) (List.mem_cons_self (l := tS1)))
abbrev A29_0 := ByteArray × List D × Int × Nat
inductive O29_0 where
  | x0 (o7 : List D) (q8 : Nat)
def l29_0 : LoopS A29_0 O29_0 where
  n := 22
  ks := [0, 3, 4]
  kso := [3]
  m := 0
  mt := 2
  decV := fun vs bs ts => match vs, bs, ts with
    | [.d (.val (.string v2)), .osl 1 v3, .d (.val (.int .i64 v4))], [], [k5, _] => some (v2, v3, v4, k5)
    | _, _, _ => none
  encV := fun (v2, v3, v4, k5) => [.d (.val (.string v2)), .osl 1 v3, .d (.val (.int .i64 v4))]
  encB := fun (v2, v3, v4, k5) => []
  tk := fun (v2, v3, v4, k5) => [k5, v3.length]
  decO := fun ex vs bs ts => match ex, vs, bs, ts with
    | .normal, [.osl 1 o7], [], [q8, _] => some (.x0 o7 q8)
    | _, _, _, _ => none
  exO := fun x => match x with
    | .x0 o7 q8 => .normal
  outV := fun x => match x with
    | .x0 o7 q8 => [.osl 1 o7]
  outB := fun x => match x with
    | .x0 o7 q8 => []
  tkO := fun x => match x with
    | .x0 o7 q8 => [q8, o7.length]
  elim := fun x k => match x with
    | .x0 o7 q8 => k .normal [.osl 1 o7] [] [q8, o7.length]
theorem k29_0 : l29_0.Ok where
  ok1 := by kernel_rfl
  ok2 := by kernel_rfl
  dec := by
    intro vs bs ts a h
    simp only [l29_0] at h ⊢
    split at h
    · cases h; exact ⟨rfl, rfl⟩
    · cases h
  out := by
    intro ex vs bs ts o h
    simp only [l29_0] at h ⊢
    split at h
    · cases h; exact ⟨rfl, rfl, rfl⟩
    · cases h
  len := fun _ => ⟨rfl, rfl⟩
  elim := fun β o k => by cases o <;> rfl
def L29_0 {σ : Type} : Nat → A29_0 → σ → Option (O29_0 × σ)
  | 0, _, _ => none
  | n+1, (v2, v3, v4, k5), s => (bif (decide (v4 < (v2.size : Int))) then ((n67 (v2, v4)).bind fun y6 => (ask (addOk v3.length v3 ([.agg [.val (.int .i64 y6.1), .val (.int .i64 y6.2.1), .val (.int .i64 y6.2.2)]] : List D) 3 24) (ask (([k5, (v3.length + ([.agg [.val (.int .i64 y6.1), .val (.int .i64 y6.2.1), .val (.int .i64 y6.2.2)]] : List D).length)] : List Nat) = [k5, (v3 ++ ([.agg [.val (.int .i64 y6.1), .val (.int .i64 y6.2.1), .val (.int .i64 y6.2.2)]] : List D)).length]) (L29_0 n (v2, (v3 ++ ([.agg [.val (.int .i64 y6.1), .val (.int .i64 y6.2.1), .val (.int .i64 y6.2.2)]] : List D)), (w64 (v4 + y6.2.2)), k5) s)))) else (ask (([k5, v3.length] : List Nat) = [k5, v3.length]) (some (O29_0.x0 v3 k5, s))))
def d29 (ds : List D) : Option (ByteArray) := match ds with
  | [.val (.string a0)] => some a0
  | _ => none
def r29 (v : AV) : Option (List D) := match toPR v with
  | some (.one (.slice a1)) => some a1
  | _ => none
def n29 : ByteArray → Option (List D) := fun a0 => (ask (([0, 0] : List Nat) = [0, ([] : List D).length]) ((L29_0 1000000000000 (a0, ([] : List D), 0, 0) ()).bind fun p9 => match p9.1 with | .x0 z10 z11 => (some z10)))
def e29 : PureE := mkE d29 n29 (fun a1 => .one (.slice a1))
def g29 {σ : Type} : Nat → Option (SegE σ)
  | 0 => some (l29_0.seg σ (L29_0 1000000000000))
  | _ => none
theorem E29_0 {σ : Type} (Y : Yd σ) : ∀ n a (s : σ), L29_0 (n + 1) a s = evK (cfgOf Tryd.prog (tabs gl) tS2) (toldOf tS2) Y (inlN (cfgOf Tryd.prog (tabs gl) tS2) (toldOf tS2) Y) g29 29 (loopAt Tryd.f29 0) ((l29_0.toT σ).enc a s) (fun ex st' => l29_0.next (cfgOf Tryd.prog (tabs gl) tS2) 29 0 (L29_0 n) ex st') := by
  intro n ⟨v2, v3, v4, k5⟩ s
  kernel_rfl
theorem Q29_0 {σ : Type} (hl : LibFits gl) (Y : Yd σ) (rnd : Bool) : SegOk (cfgOf Tryd.prog (tabs gl) tS2) (evFn (cfgOf Tryd.prog (tabs gl) tS2) 9) 29 rnd Y (l29_0.seg σ (L29_0 1000000000000)) (.block 0 (.loop (loopAt Tryd.f29 0))) :=
  told_loop (okS2 hl) k29_0 (by kernel_rfl) (by kernel_rfl) (fun _ _ => rfl) (segs_no (by kernel_rfl)) (E29_0 Y) (hr := by kernel_rfl)
theorem N29 : ∀ a, n29 a = bodyK (cfgOf Tryd.prog (tabs gl) tS2) (toldOf tS2) noY (inlN (cfgOf Tryd.prog (tabs gl) tS2) (toldOf tS2) noY) g29 29 Tryd.f29 (((fun a0 => [.val (.string a0)] : (ByteArray) → List D) a).map .d) [] [] () (fun v _ _ _ => r29 v) := by
  intro a0
  kernel_rfl
noncomputable def t29 : Tab := (29, e29) :: tS2
theorem ok29 (hl : LibFits gl) : TabOk Tryd.prog gl t29 :=
  told_fn (okS2 hl) mixed oddOk Tryd.func29 (by kernel_rfl) (by kernel_rfl) (by kernel_rfl) (fun p hp e he => by
    have hq : segsOf (σ := Unit) (g29 (σ := Unit)) (bodyOf Tryd.f29) = [(0, .loop (loopAt Tryd.f29 0))] := by kernel_rfl
    rw [hq] at hp
    simp only [List.mem_cons, List.not_mem_nil, or_false] at hp
    subst hp
    cases he
    exact Q29_0 hl _ _)
    (args := fun a0 => [.val (.string a0)]) (res := r29)
    (fun ds a h => by
      unfold d29 at h
      split at h
      · cases h; rfl
      · cases h)
    (fun v r h => by
      unfold r29 at h
      split at h
      · rename_i hv; cases h; exact hv
      · cases h)
    N29
noncomputable def tS3 : Tab := (29, e29) :: tS2
theorem okS3 (hl : LibFits gl) : TabOk Tryd.prog gl tS3 :=
  TabOk.cons (okS2 hl) ((ok29 hl).fair (29, e29) (List.mem_cons_self (l := tS2))) ((ok29 hl).spec (29, e29) (List.mem_cons_self (l := tS2)))
abbrev A36_2 := ByteArray × List D × List D × Int × Int × Nat
inductive O36_2 where
  | x0 (o22 : ByteArray) (o23 : List D) (o24 : List D) (o25 : Int) (o26 : Int) (q27 : Nat)
def l36_2 : LoopS A36_2 O36_2 where
  n := 76
  ks := [0, 3, 4, 5, 6]
  kso := [0, 3, 4, 5, 6]
  m := 0
  mt := 2
  decV := fun vs bs ts => match vs, bs, ts with
    | [.d (.val (.string v12)), .d (.slice v13), .osl 1 v14, .d (.val (.int .i64 v15)), .d (.val (.int .i64 v16))], [], [k17, _] => some (v12, v13, v14, v15, v16, k17)
    | _, _, _ => none
  encV := fun (v12, v13, v14, v15, v16, k17) => [.d (.val (.string v12)), .d (.slice v13), .osl 1 v14, .d (.val (.int .i64 v15)), .d (.val (.int .i64 v16))]
  encB := fun (v12, v13, v14, v15, v16, k17) => []
  tk := fun (v12, v13, v14, v15, v16, k17) => [k17, v14.length]
  decO := fun ex vs bs ts => match ex, vs, bs, ts with
    | .normal, [.d (.val (.string o22)), .d (.slice o23), .osl 1 o24, .d (.val (.int .i64 o25)), .d (.val (.int .i64 o26))], [], [q27, _] => some (.x0 o22 o23 o24 o25 o26 q27)
    | _, _, _, _ => none
  exO := fun x => match x with
    | .x0 o22 o23 o24 o25 o26 q27 => .normal
  outV := fun x => match x with
    | .x0 o22 o23 o24 o25 o26 q27 => [.d (.val (.string o22)), .d (.slice o23), .osl 1 o24, .d (.val (.int .i64 o25)), .d (.val (.int .i64 o26))]
  outB := fun x => match x with
    | .x0 o22 o23 o24 o25 o26 q27 => []
  tkO := fun x => match x with
    | .x0 o22 o23 o24 o25 o26 q27 => [q27, o24.length]
  elim := fun x k => match x with
    | .x0 o22 o23 o24 o25 o26 q27 => k .normal [.d (.val (.string o22)), .d (.slice o23), .osl 1 o24, .d (.val (.int .i64 o25)), .d (.val (.int .i64 o26))] [] [q27, o24.length]
theorem k36_2 : l36_2.Ok where
  ok1 := by kernel_rfl
  ok2 := by kernel_rfl
  dec := by
    intro vs bs ts a h
    simp only [l36_2] at h ⊢
    split at h
    · cases h; exact ⟨rfl, rfl⟩
    · cases h
  out := by
    intro ex vs bs ts o h
    simp only [l36_2] at h ⊢
    split at h
    · cases h; exact ⟨rfl, rfl, rfl⟩
    · cases h
  len := fun _ => ⟨rfl, rfl⟩
  elim := fun β o k => by cases o <;> rfl
def L36_2 {σ : Type} : Nat → A36_2 → σ → Option (O36_2 × σ)
  | 0, _, _ => none
  | n+1, (v12, v13, v14, v15, v16, k17), s => (bif (decide (v16 < ((v13.length : Nat) : Int))) then ((lidx v13 v16).bind fun d18 => ask (d18.cells.length = 3) ((cellAt 0 d18).bind fun x19 => (asInt .i64 x19).bind fun x20 => ((n70 x20).bind fun y21 => (bif (!y21) then (ask (([k17, v14.length] : List Nat) = [k17, v14.length]) (L36_2 n (v12, v13, v14, v15, (w64 (v16 + 1)), k17) s)) else (ask (([k17, v14.length] : List Nat) = [k17, v14.length]) (some (O36_2.x0 v12 v13 v14 v15 v16 k17, s))))))) else (ask (([k17, v14.length] : List Nat) = [k17, v14.length]) (some (O36_2.x0 v12 v13 v14 v15 v16 k17, s))))
abbrev A36_0 := ByteArray × List D × List D × Int × Nat
inductive O36_0 where
  | x0 (o42 : List D) (o43 : List D) (q44 : Nat)
  | x1 (o55 : List D) (q56 : Nat)
def l36_0 : LoopS A36_0 O36_0 where
  n := 76
  ks := [0, 3, 4, 5]
  kso := [2, 4]
  m := 0
  mt := 2
  decV := fun vs bs ts => match vs, bs, ts with
    | [.d (.val (.string v3)), .d (.slice v4), .osl 1 v5, .d (.val (.int .i64 v6))], [], [k7, _] => some (v3, v4, v5, v6, k7)
    | _, _, _ => none
  encV := fun (v3, v4, v5, v6, k7) => [.d (.val (.string v3)), .d (.slice v4), .osl 1 v5, .d (.val (.int .i64 v6))]
  encB := fun (v3, v4, v5, v6, k7) => []
  tk := fun (v3, v4, v5, v6, k7) => [k7, v5.length]
  decO := fun ex vs bs ts => match ex, vs, bs, ts with
    | .ret, [.osl 1 o42, .osl 1 o43], [], [q44, _] => some (.x0 o42 o43 q44)
    | .normal, [.undef, .osl 1 o55], [], [q56, _] => some (.x1 o55 q56)
    | _, _, _, _ => none
  exO := fun x => match x with
    | .x0 o42 o43 q44 => .ret
    | .x1 o55 q56 => .normal
  outV := fun x => match x with
    | .x0 o42 o43 q44 => [.osl 1 o42, .osl 1 o43]
    | .x1 o55 q56 => [.undef, .osl 1 o55]
  outB := fun x => match x with
    | .x0 o42 o43 q44 => []
    | .x1 o55 q56 => []
  tkO := fun x => match x with
    | .x0 o42 o43 q44 => [q44, o42.length]
    | .x1 o55 q56 => [q56, o55.length]
  elim := fun x k => match x with
    | .x0 o42 o43 q44 => k .ret [.osl 1 o42, .osl 1 o43] [] [q44, o42.length]
    | .x1 o55 q56 => k .normal [.undef, .osl 1 o55] [] [q56, o55.length]
theorem k36_0 : l36_0.Ok where
  ok1 := by kernel_rfl
  ok2 := by kernel_rfl
  dec := by
    intro vs bs ts a h
    simp only [l36_0] at h ⊢
    split at h
    · cases h; exact ⟨rfl, rfl⟩
    · cases h
  out := by
    intro ex vs bs ts o h
    simp only [l36_0] at h ⊢
    split at h
    · cases h; exact ⟨rfl, rfl, rfl⟩
    · cases h; exact ⟨rfl, rfl, rfl⟩
    · cases h
  len := fun _ => ⟨rfl, rfl⟩
  elim := fun β o k => by cases o <;> rfl
def L36_0 {σ : Type} : Nat → A36_0 → σ → Option (O36_0 × σ)
  | 0, _, _ => none
  | n+1, (v3, v4, v5, v6, k7), s => (bif (decide (v6 < ((v4.length : Nat) : Int))) then ((lidx v4 v6).bind fun d8 => ask (d8.cells.length = 3) ((cellAt 0 d8).bind fun x9 => (asInt .i64 x9).bind fun x10 => ((n70 x10).bind fun y11 => (bif y11 then (ask (([k7, v5.length] : List Nat) = [k7, v5.length]) (L36_0 n (v3, v4, v5, (w64 (v6 + 1)), k7) s)) else (ask (([k7, v5.length] : List Nat) = [k7, v5.length]) ((L36_2 1000000000000 (v3, v4, v5, v6, v6, k7) s).bind fun p28 => match p28.1 with | .x0 z29 z30 z31 z32 z33 z34 => (bif (decide (z33 < ((z30.length : Nat) : Int))) then ((lidx z30 z33).bind fun d35 => ask (d35.cells.length = 3) ((cellAt 1 d35).bind fun x36 => (asInt .i64 x36).bind fun x37 => ((lidx z30 z32).bind fun d38 => ask (d38.cells.length = 3) ((cellAt 1 d38).bind fun x39 => (asInt .i64 x39).bind fun x40 => (ask (cutOk x40 x37 z29.size) ((sidx (z29.extract (Int.toNat x40) (Int.toNat x37)) 0).bind fun c41 => (bif ((c41.toNat : Int) == 35) then (ask (([z34, z31.length] : List Nat) = [z34, z31.length]) (some (O36_0.x0 z31 z31 z34, p28.2))) else ((lidx z30 z32).bind fun d45 => ask (d45.cells.length = 3) ((cellAt 1 d45).bind fun x46 => (asInt .i64 x46).bind fun x47 => (ask (addOk z31.length z31 ([.agg [.val (.string (z29.extract (Int.toNat x40) (Int.toNat x37))), .val (.int .i64 x47), .val (.int .i64 (w64 (z32 + 1)))]] : List D) 3 32) (ask (([z34, (z31.length + ([.agg [.val (.string (z29.extract (Int.toNat x40) (Int.toNat x37))), .val (.int .i64 x47), .val (.int .i64 (w64 (z32 + 1)))]] : List D).length)] : List Nat) = [z34, (z31 ++ ([.agg [.val (.string (z29.extract (Int.toNat x40) (Int.toNat x37))), .val (.int .i64 x47), .val (.int .i64 (w64 (z32 + 1)))]] : List D)).length]) (L36_0 n (z29, z30, (z31 ++ ([.agg [.val (.string (z29.extract (Int.toNat x40) (Int.toNat x37))), .val (.int .i64 x47), .val (.int .i64 (w64 (z32 + 1)))]] : List D)), z33, z34) p28.2)))))))))))) else ((lidx z30 z32).bind fun d48 => ask (d48.cells.length = 3) ((cellAt 1 d48).bind fun x49 => (asInt .i64 x49).bind fun x50 => (ask (cutOk x50 (z29.size : Int) z29.size) ((sidx (z29.extract (Int.toNat x50) (Int.toNat (z29.size : Int))) 0).bind fun c51 => (bif ((c51.toNat : Int) == 35) then (ask (([z34, z31.length] : List Nat) = [z34, z31.length]) (some (O36_0.x0 z31 z31 z34, p28.2))) else ((lidx z30 z32).bind fun d52 => ask (d52.cells.length = 3) ((cellAt 1 d52).bind fun x53 => (asInt .i64 x53).bind fun x54 => (ask (addOk z31.length z31 ([.agg [.val (.string (z29.extract (Int.toNat x50) (Int.toNat (z29.size : Int)))), .val (.int .i64 x54), .val (.int .i64 (w64 (z32 + 1)))]] : List D) 3 32) (ask (([z34, (z31.length + ([.agg [.val (.string (z29.extract (Int.toNat x50) (Int.toNat (z29.size : Int)))), .val (.int .i64 x54), .val (.int .i64 (w64 (z32 + 1)))]] : List D).length)] : List Nat) = [z34, (z31 ++ ([.agg [.val (.string (z29.extract (Int.toNat x50) (Int.toNat (z29.size : Int)))), .val (.int .i64 x54), .val (.int .i64 (w64 (z32 + 1)))]] : List D)).length]) (L36_0 n (z29, z30, (z31 ++ ([.agg [.val (.string (z29.extract (Int.toNat x50) (Int.toNat (z29.size : Int)))), .val (.int .i64 x54), .val (.int .i64 (w64 (z32 + 1)))]] : List D)), z33, z34) p28.2))))))))))))))))) else (ask (([k7, v5.length] : List Nat) = [k7, v5.length]) (some (O36_0.x1 v5 k7, s))))
def d36 (ds : List D) : Option (ByteArray) := match ds with
  | [.val (.string a0)] => some a0
  | _ => none
def r36 (v : AV) : Option (List D) := match toPR v with
  | some (.one (.slice a1)) => some a1
  | _ => none
def n36 : ByteArray → Option (List D) := fun a0 => ((n29 a0).bind fun y2 => (ask (([0, 0] : List Nat) = [0, ([] : List D).length]) ((L36_0 1000000000000 (a0, y2, ([] : List D), 0, 0) ()).bind fun p57 => match p57.1 with | .x0 z58 z59 z60 => (some z58) | .x1 z61 z62 => (some z61))))
def e36 : PureE := mkE d36 n36 (fun a1 => .one (.slice a1))
def g36 {σ : Type} : Nat → Option (SegE σ)
  | 2 => some (l36_2.seg σ (L36_2 1000000000000))
  | 0 => some (l36_0.seg σ (L36_0 1000000000000))
  | _ => none
theorem E36_2 {σ : Type} (Y : Yd σ) : ∀ n a (s : σ), L36_2 (n + 1) a s = evK (cfgOf Tryd.prog (tabs gl) tS3) (toldOf tS3) Y (inlN (cfgOf Tryd.prog (tabs gl) tS3) (toldOf tS3) Y) g36 36 (loopAt Tryd.f36 2) ((l36_2.toT σ).enc a s) (fun ex st' => l36_2.next (cfgOf Tryd.prog (tabs gl) tS3) 36 2 (L36_2 n) ex st') := by
  intro n ⟨v12, v13, v14, v15, v16, k17⟩ s
  kernel_rfl
theorem Q36_2 {σ : Type} (hl : LibFits gl) (Y : Yd σ) (rnd : Bool) : SegOk (cfgOf Tryd.prog (tabs gl) tS3) (evFn (cfgOf Tryd.prog (tabs gl) tS3) 9) 36 rnd Y (l36_2.seg σ (L36_2 1000000000000)) (.block 2 (.loop (loopAt Tryd.f36 2))) :=
  told_loop (okS3 hl) k36_2 (by kernel_rfl) (by kernel_rfl) (fun _ _ => rfl) (segs_no (by kernel_rfl)) (E36_2 Y) (hr := by kernel_rfl)
theorem E36_0 {σ : Type} (Y : Yd σ) : ∀ n a (s : σ), L36_0 (n + 1) a s = evK (cfgOf Tryd.prog (tabs gl) tS3) (toldOf tS3) Y (inlN (cfgOf Tryd.prog (tabs gl) tS3) (toldOf tS3) Y) g36 36 (loopAt Tryd.f36 0) ((l36_0.toT σ).enc a s) (fun ex st' => l36_0.next (cfgOf Tryd.prog (tabs gl) tS3) 36 0 (L36_0 n) ex st') := by
  intro n ⟨v3, v4, v5, v6, k7⟩ s
  kernel_rfl
theorem Q36_0 {σ : Type} (hl : LibFits gl) (Y : Yd σ) (rnd : Bool) : SegOk (cfgOf Tryd.prog (tabs gl) tS3) (evFn (cfgOf Tryd.prog (tabs gl) tS3) 9) 36 rnd Y (l36_0.seg σ (L36_0 1000000000000)) (.block 0 (.loop (loopAt Tryd.f36 0))) :=
  told_loop (okS3 hl) k36_0 (by kernel_rfl) (by kernel_rfl) (fun _ _ => rfl) (fun p hp e he => by
    have hq : segsOf (σ := σ) (g36 (σ := σ)) (loopAt Tryd.f36 0) = [(2, .loop (loopAt Tryd.f36 2))] := by kernel_rfl
    rw [hq] at hp
    simp only [List.mem_cons, List.not_mem_nil, or_false] at hp
    subst hp
    cases he
    exact Q36_2 hl _ _) (E36_0 Y) (hr := by kernel_rfl)
theorem N36 : ∀ a, n36 a = bodyK (cfgOf Tryd.prog (tabs gl) tS3) (toldOf tS3) noY (inlN (cfgOf Tryd.prog (tabs gl) tS3) (toldOf tS3) noY) g36 36 Tryd.f36 (((fun a0 => [.val (.string a0)] : (ByteArray) → List D) a).map .d) [] [] () (fun v _ _ _ => r36 v) := by
  intro a0
  kernel_rfl
noncomputable def t36 : Tab := (36, e36) :: tS3
theorem ok36 (hl : LibFits gl) : TabOk Tryd.prog gl t36 :=
  told_fn (okS3 hl) mixed oddOk Tryd.func36 (by kernel_rfl) (by kernel_rfl) (by kernel_rfl) (fun p hp e he => by
    have hq : segsOf (σ := Unit) (g36 (σ := Unit)) (bodyOf Tryd.f36) = [(0, .loop (loopAt Tryd.f36 0))] := by kernel_rfl
    rw [hq] at hp
    simp only [List.mem_cons, List.not_mem_nil, or_false] at hp
    subst hp
    cases he
    exact Q36_0 hl _ _)
    (args := fun a0 => [.val (.string a0)]) (res := r36)
    (fun ds a h => by
      unfold d36 at h
      split at h
      · cases h; rfl
      · cases h)
    (fun v r h => by
      unfold r36 at h
      split at h
      · rename_i hv; cases h; exact hv
      · cases h)
    N36
abbrev A35_0 := Int × Int × ByteArray × List D × Int × Int × Int × Int × ByteArray × Nat × Nat
inductive O35_0 where
  | x0 (o15 : List D) (o16 : ByteArray) (o17 : List D) (o18 : Int) (o19 : Int) (o20 : Int) (o21 : Int) (o22 : ByteArray) (o23 : Nat) (q24 : Nat)
  | x1 (o25 : ByteArray) (o26 : List D) (o27 : Int) (o28 : Int) (o29 : Int) (o30 : Int) (o31 : ByteArray) (o32 : Nat) (q33 : Nat)
def l35_0 : LoopS A35_0 O35_0 where
  n := 48
  ks := [1, 2, 5, 6, 7, 8, 9, 14]
  kso := [2, 4, 5, 8]
  m := 5
  mt := 2
  decV := fun vs bs ts => match vs, bs, ts with
    | [.d (.val (.int .i64 v3)), .ptr 0 0, .ptr 1 0, .ptr 2 0, .ptr 3 0, .func (.func 68) [] [.ptr 3 0, .ptr 1 0, .ptr 0 0, .ptr 2 0], .d (.val (.int .i64 v4)), .iter 4], [.cells none [.d (.val (.string v5))], .cells (some 64) [.osl 1 v6], .cells (some 25) [.d (.val (.int .i64 v7)), .d (.val (.int .i64 v8)), .d (.val (.int .i64 v9))], .cells (some 3) [.d (.val (.int .i64 v10))], .iter v11 v12], [k13, _] => some (v3, v4, v5, v6, v7, v8, v9, v10, v11, v12, k13)
    | _, _, _ => none
  encV := fun (v3, v4, v5, v6, v7, v8, v9, v10, v11, v12, k13) => [.d (.val (.int .i64 v3)), .ptr 0 0, .ptr 1 0, .ptr 2 0, .ptr 3 0, .func (.func 68) [] [.ptr 3 0, .ptr 1 0, .ptr 0 0, .ptr 2 0], .d (.val (.int .i64 v4)), .iter 4]
  encB := fun (v3, v4, v5, v6, v7, v8, v9, v10, v11, v12, k13) => [.cells none [.d (.val (.string v5))], .cells (some 64) [.osl 1 v6], .cells (some 25) [.d (.val (.int .i64 v7)), .d (.val (.int .i64 v8)), .d (.val (.int .i64 v9))], .cells (some 3) [.d (.val (.int .i64 v10))], .iter v11 v12]
  tk := fun (v3, v4, v5, v6, v7, v8, v9, v10, v11, v12, k13) => [k13, v6.length]
  decO := fun ex vs bs ts => match ex, vs, bs, ts with
    | .ret, [.undef, .osl 1 o15, .ptr 1 0, .undef], [.cells none [.d (.val (.string o16))], .cells (some 64) [.osl 1 o17], .cells (some 25) [.d (.val (.int .i64 o18)), .d (.val (.int .i64 o19)), .d (.val (.int .i64 o20))], .cells (some 3) [.d (.val (.int .i64 o21))], .iter o22 o23], [q24, _] => some (.x0 o15 o16 o17 o18 o19 o20 o21 o22 o23 q24)
    | .normal, [.ptr 0 0, .undef, .ptr 1 0, .func (.func 68) [] [.ptr 3 0, .ptr 1 0, .ptr 0 0, .ptr 2 0]], [.cells none [.d (.val (.string o25))], .cells (some 64) [.osl 1 o26], .cells (some 25) [.d (.val (.int .i64 o27)), .d (.val (.int .i64 o28)), .d (.val (.int .i64 o29))], .cells (some 3) [.d (.val (.int .i64 o30))], .iter o31 o32], [q33, _] => some (.x1 o25 o26 o27 o28 o29 o30 o31 o32 q33)
    | _, _, _, _ => none
  exO := fun x => match x with
    | .x0 o15 o16 o17 o18 o19 o20 o21 o22 o23 q24 => .ret
    | .x1 o25 o26 o27 o28 o29 o30 o31 o32 q33 => .normal
  outV := fun x => match x with
    | .x0 o15 o16 o17 o18 o19 o20 o21 o22 o23 q24 => [.undef, .osl 1 o15, .ptr 1 0, .undef]
    | .x1 o25 o26 o27 o28 o29 o30 o31 o32 q33 => [.ptr 0 0, .undef, .ptr 1 0, .func (.func 68) [] [.ptr 3 0, .ptr 1 0, .ptr 0 0, .ptr 2 0]]
  outB := fun x => match x with
    | .x0 o15 o16 o17 o18 o19 o20 o21 o22 o23 q24 => [.cells none [.d (.val (.string o16))], .cells (some 64) [.osl 1 o17], .cells (some 25) [.d (.val (.int .i64 o18)), .d (.val (.int .i64 o19)), .d (.val (.int .i64 o20))], .cells (some 3) [.d (.val (.int .i64 o21))], .iter o22 o23]
    | .x1 o25 o26 o27 o28 o29 o30 o31 o32 q33 => [.cells none [.d (.val (.string o25))], .cells (some 64) [.osl 1 o26], .cells (some 25) [.d (.val (.int .i64 o27)), .d (.val (.int .i64 o28)), .d (.val (.int .i64 o29))], .cells (some 3) [.d (.val (.int .i64 o30))], .iter o31 o32]
  tkO := fun x => match x with
    | .x0 o15 o16 o17 o18 o19 o20 o21 o22 o23 q24 => [q24, o15.length]
    | .x1 o25 o26 o27 o28 o29 o30 o31 o32 q33 => [q33, o26.length]
  elim := fun x k => match x with
    | .x0 o15 o16 o17 o18 o19 o20 o21 o22 o23 q24 => k .ret [.undef, .osl 1 o15, .ptr 1 0, .undef] [.cells none [.d (.val (.string o16))], .cells (some 64) [.osl 1 o17], .cells (some 25) [.d (.val (.int .i64 o18)), .d (.val (.int .i64 o19)), .d (.val (.int .i64 o20))], .cells (some 3) [.d (.val (.int .i64 o21))], .iter o22 o23] [q24, o15.length]
    | .x1 o25 o26 o27 o28 o29 o30 o31 o32 q33 => k .normal [.ptr 0 0, .undef, .ptr 1 0, .func (.func 68) [] [.ptr 3 0, .ptr 1 0, .ptr 0 0, .ptr 2 0]] [.cells none [.d (.val (.string o25))], .cells (some 64) [.osl 1 o26], .cells (some 25) [.d (.val (.int .i64 o27)), .d (.val (.int .i64 o28)), .d (.val (.int .i64 o29))], .cells (some 3) [.d (.val (.int .i64 o30))], .iter o31 o32] [q33, o26.length]
theorem k35_0 : l35_0.Ok where
  ok1 := by kernel_rfl
  ok2 := by kernel_rfl
  dec := by
    intro vs bs ts a h
    simp only [l35_0] at h ⊢
    split at h
    · cases h; exact ⟨rfl, rfl⟩
    · cases h
  out := by
    intro ex vs bs ts o h
    simp only [l35_0] at h ⊢
    split at h
    · cases h; exact ⟨rfl, rfl, rfl⟩
    · cases h; exact ⟨rfl, rfl, rfl⟩
    · cases h
  len := fun _ => ⟨rfl, rfl⟩
  elim := fun β o k => by cases o <;> rfl
def L35_0 {σ : Type} : Nat → A35_0 → σ → Option (O35_0 × σ)
  | 0, _, _ => none
  | n+1, (v3, v4, v5, v6, v7, v8, v9, v10, v11, v12, k13), s => (bif decide (v12 < v11.size) then ((n69 ((Utf8.decode v11 v12).1 : Int)).bind fun y14 => (bif y14 then (bif (decide (v10 ≥ 0)) then (ask (cutOk v10 (v12 : Int) v5.size) (ask (addOk v6.length v6 ([.agg [.val (.string (v5.extract (Int.toNat v10) (Int.toNat (v12 : Int)))), .val (.int .i64 v7), .val (.int .i64 v8), .val (.int .i64 v9)]] : List D) 4 40) (ask (([k13, (v6.length + ([.agg [.val (.string (v5.extract (Int.toNat v10) (Int.toNat (v12 : Int)))), .val (.int .i64 v7), .val (.int .i64 v8), .val (.int .i64 v9)]] : List D).length)] : List Nat) = [k13, (v6 ++ ([.agg [.val (.string (v5.extract (Int.toNat v10) (Int.toNat (v12 : Int)))), .val (.int .i64 v7), .val (.int .i64 v8), .val (.int .i64 v9)]] : List D)).length]) (L35_0 n (v3, (w64 (v4 + 1)), v5, (v6 ++ ([.agg [.val (.string (v5.extract (Int.toNat v10) (Int.toNat (v12 : Int)))), .val (.int .i64 v7), .val (.int .i64 v8), .val (.int .i64 v9)]] : List D)), v7, v8, v9, (-1), v11, (v12 + (Utf8.decode v11 v12).2), k13) s)))) else (ask (([k13, v6.length] : List Nat) = [k13, v6.length]) (L35_0 n (v3, (w64 (v4 + 1)), v5, v6, v7, v8, v9, (-1), v11, (v12 + (Utf8.decode v11 v12).2), k13) s))) else (bif (bif (decide (v10 < 0)) then (((Utf8.decode v11 v12).1 : Int) == 35) else false) then (ask (([k13, v6.length] : List Nat) = [k13, v6.length]) (some (O35_0.x0 v6 v5 v6 v7 v8 v9 v10 v11 (v12 + (Utf8.decode v11 v12).2) k13, s))) else (bif (decide (v10 < 0)) then (ask (([k13, v6.length] : List Nat) = [k13, v6.length]) (L35_0 n (v3, (w64 (v4 + 1)), v5, v6, (v12 : Int), v3, (w64 (v4 + 1)), (v12 : Int), v11, (v12 + (Utf8.decode v11 v12).2), k13) s)) else (ask (([k13, v6.length] : List Nat) = [k13, v6.length]) (L35_0 n (v3, (w64 (v4 + 1)), v5, v6, v7, v8, v9, v10, v11, (v12 + (Utf8.decode v11 v12).2), k13) s)))))) else (ask (([k13, v6.length] : List Nat) = [k13, v6.length]) (some (O35_0.x1 v5 v6 v7 v8 v9 v10 v11 v12 k13, s))))
def d35 (ds : List D) : Option (ByteArray × Int) := match ds with
  | [.val (.string a0), .val (.int .i64 a1)] => some (a0, a1)
  | _ => none
def r35 (v : AV) : Option (List D) := match toPR v with
  | some (.one (.slice a2)) => some a2
  | _ => none
def n35 : ByteArray × Int → Option (List D) := fun (a0, a1) => (ask (([0, 0] : List Nat) = [0, ([] : List D).length]) ((L35_0 1000000000000 (a1, 0, a0, ([] : List D), 0, 0, 0, (-1), a0, 0, 0) ()).bind fun p34 => match p34.1 with | .x0 z35 z36 z37 z38 z39 z40 z41 z42 z43 z44 => (some z35) | .x1 z45 z46 z47 z48 z49 z50 z51 z52 z53 => (bif (decide (z50 ≥ 0)) then (ask (cutOk z50 (z45.size : Int) z45.size) (ask (addOk z46.length z46 ([.agg [.val (.string (z45.extract (Int.toNat z50) (Int.toNat (z45.size : Int)))), .val (.int .i64 z47), .val (.int .i64 z48), .val (.int .i64 z49)]] : List D) 4 40) (some (z46 ++ ([.agg [.val (.string (z45.extract (Int.toNat z50) (Int.toNat (z45.size : Int)))), .val (.int .i64 z47), .val (.int .i64 z48), .val (.int .i64 z49)]] : List D))))) else (some z46))))
def e35 : PureE := mkE d35 n35 (fun a2 => .one (.slice a2))
def g35 {σ : Type} : Nat → Option (SegE σ)
  | 0 => some (l35_0.seg σ (L35_0 1000000000000))
  | _ => none
theorem E35_0 {σ : Type} (Y : Yd σ) : ∀ n a (s : σ), L35_0 (n + 1) a s = evK (cfgOf Tryd.prog (tabs gl) tS3) (toldOf tS3) Y (inlN (cfgOf Tryd.prog (tabs gl) tS3) (toldOf tS3) Y) g35 35 (loopAt Tryd.f35 0) ((l35_0.toT σ).enc a s) (fun ex st' => l35_0.next (cfgOf Tryd.prog (tabs gl) tS3) 35 0 (L35_0 n) ex st') := by
  intro n ⟨v3, v4, v5, v6, v7, v8, v9, v10, v11, v12, k13⟩ s
  kernel_rfl
theorem Q35_0 {σ : Type} (hl : LibFits gl) (Y : Yd σ) (rnd : Bool) : SegOk (cfgOf Tryd.prog (tabs gl) tS3) (evFn (cfgOf Tryd.prog (tabs gl) tS3) 9) 35 rnd Y (l35_0.seg σ (L35_0 1000000000000)) (.block 0 (.loop (loopAt Tryd.f35 0))) :=
  told_loop (okS3 hl) k35_0 (by kernel_rfl) (by kernel_rfl) (fun _ _ => rfl) (segs_no (by kernel_rfl)) (E35_0 Y) (hr := by kernel_rfl)
theorem N35 : ∀ a, n35 a = bodyK (cfgOf Tryd.prog (tabs gl) tS3) (toldOf tS3) noY (inlN (cfgOf Tryd.prog (tabs gl) tS3) (toldOf tS3) noY) g35 35 Tryd.f35 (((fun (a0, a1) => [.val (.string a0), .val (.int .i64 a1)] : (ByteArray × Int) → List D) a).map .d) [] [] () (fun v _ _ _ => r35 v) := by
  intro a
  obtain ⟨a0, a1⟩ := a
  kernel_rfl
noncomputable def t35 : Tab := (35, e35) :: tS3
theorem ok35 (hl : LibFits gl) : TabOk Tryd.prog gl t35 :=
  told_fn (okS3 hl) mixed oddOk Tryd.func35 (by kernel_rfl) (by kernel_rfl) (by kernel_rfl) (fun p hp e he => by
    have hq : segsOf (σ := Unit) (g35 (σ := Unit)) (bodyOf Tryd.f35) = [(0, .loop (loopAt Tryd.f35 0))] := by kernel_rfl
    rw [hq] at hp
    simp only [List.mem_cons, List.not_mem_nil, or_false] at hp
    subst hp
    cases he
    exact Q35_0 hl _ _)
    (args := fun (a0, a1) => [.val (.string a0), .val (.int .i64 a1)]) (res := r35)
    (fun ds a h => by
      unfold d35 at h
      split at h
      · cases h; rfl
      · cases h)
    (fun v r h => by
      unfold r35 at h
      split at h
      · rename_i hv; cases h; exact hv
      · cases h)
    N35
abbrev A52_0 := Int × ByteArray × Nat
inductive O52_0 where
  | x0 (o5 : Int) (o6 : ByteArray) (o7 : Nat)
def l52_0 : LoopS A52_0 O52_0 where
  n := 11
  ks := [3, 5]
  kso := [3]
  m := 1
  mt := 0
  decV := fun vs bs ts => match vs, bs, ts with
    | [.d (.val (.int .i64 v2)), .iter 0], [.iter v3 v4], [] => some (v2, v3, v4)
    | _, _, _ => none
  encV := fun (v2, v3, v4) => [.d (.val (.int .i64 v2)), .iter 0]
  encB := fun (v2, v3, v4) => [.iter v3 v4]
  tk := fun _ => []
  decO := fun ex vs bs ts => match ex, vs, bs, ts with
    | .normal, [.d (.val (.int .i64 o5))], [.iter o6 o7], [] => some (.x0 o5 o6 o7)
    | _, _, _, _ => none
  exO := fun x => match x with
    | .x0 o5 o6 o7 => .normal
  outV := fun x => match x with
    | .x0 o5 o6 o7 => [.d (.val (.int .i64 o5))]
  outB := fun x => match x with
    | .x0 o5 o6 o7 => [.iter o6 o7]
  tkO := fun x => match x with
    | .x0 o5 o6 o7 => []
  elim := fun x k => match x with
    | .x0 o5 o6 o7 => k .normal [.d (.val (.int .i64 o5))] [.iter o6 o7] []
theorem k52_0 : l52_0.Ok where
  ok1 := by kernel_rfl
  ok2 := by kernel_rfl
  dec := by
    intro vs bs ts a h
    simp only [l52_0] at h ⊢
    split at h
    · cases h; exact ⟨rfl, rfl⟩
    · cases h
  out := by
    intro ex vs bs ts o h
    simp only [l52_0] at h ⊢
    split at h
    · cases h; exact ⟨rfl, rfl, rfl⟩
    · cases h
  len := fun _ => ⟨rfl, rfl⟩
  elim := fun β o k => by cases o <;> rfl
def L52_0 {σ : Type} : Nat → A52_0 → σ → Option (O52_0 × σ)
  | 0, _, _ => none
  | n+1, (v2, v3, v4), s => (bif decide (v4 < v3.size) then (L52_0 n ((w64 (v2 + 1)), v3, (v4 + (Utf8.decode v3 v4).2)) s) else (some (O52_0.x0 v2 v3 v4, s)))
def d52 (ds : List D) : Option (ByteArray) := match ds with
  | [.val (.string a0)] => some a0
  | _ => none
def r52 (v : AV) : Option (Int) := match toPR v with
  | some (.one (.val (.int .i64 a1))) => some a1
  | _ => none
def n52 : ByteArray → Option (Int) := fun a0 => ((L52_0 1000000000000 (0, a0, 0) ()).bind fun p8 => match p8.1 with | .x0 z9 z10 z11 => (some z9))
def e52 : PureE := mkE d52 n52 (fun a1 => .one (.val (.int .i64 a1)))
def g52 {σ : Type} : Nat → Option (SegE σ)
  | 0 => some (l52_0.seg σ (L52_0 1000000000000))
  | _ => none
theorem E52_0 {σ : Type} (Y : Yd σ) : ∀ n a (s : σ), L52_0 (n + 1) a s = evK (cfgOf Tryd.prog (tabs gl) tS3) (toldOf tS3) Y (inlN (cfgOf Tryd.prog (tabs gl) tS3) (toldOf tS3) Y) g52 52 (loopAt Tryd.f52 0) ((l52_0.toT σ).enc a s) (fun ex st' => l52_0.next (cfgOf Tryd.prog (tabs gl) tS3) 52 0 (L52_0 n) ex st') := by
  intro n ⟨v2, v3, v4⟩ s
  kernel_rfl
theorem Q52_0 {σ : Type} (hl : LibFits gl) (Y : Yd σ) (rnd : Bool) : SegOk (cfgOf Tryd.prog (tabs gl) tS3) (evFn (cfgOf Tryd.prog (tabs gl) tS3) 9) 52 rnd Y (l52_0.seg σ (L52_0 1000000000000)) (.block 0 (.loop (loopAt Tryd.f52 0))) :=
  told_loop (okS3 hl) k52_0 (by kernel_rfl) (by kernel_rfl) (fun _ _ => rfl) (segs_no (by kernel_rfl)) (E52_0 Y) (hr := by kernel_rfl)
theorem N52 : ∀ a, n52 a = bodyK (cfgOf Tryd.prog (tabs gl) tS3) (toldOf tS3) noY (inlN (cfgOf Tryd.prog (tabs gl) tS3) (toldOf tS3) noY) g52 52 Tryd.f52 (((fun a0 => [.val (.string a0)] : (ByteArray) → List D) a).map .d) [] [] () (fun v _ _ _ => r52 v) := by
  intro a0
  kernel_rfl
noncomputable def t52 : Tab := (52, e52) :: tS3
theorem ok52 (hl : LibFits gl) : TabOk Tryd.prog gl t52 :=
  told_fn (okS3 hl) mixed oddOk Tryd.func52 (by kernel_rfl) (by kernel_rfl) (by kernel_rfl) (fun p hp e he => by
    have hq : segsOf (σ := Unit) (g52 (σ := Unit)) (bodyOf Tryd.f52) = [(0, .loop (loopAt Tryd.f52 0))] := by kernel_rfl
    rw [hq] at hp
    simp only [List.mem_cons, List.not_mem_nil, or_false] at hp
    subst hp
    cases he
    exact Q52_0 hl _ _)
    (args := fun a0 => [.val (.string a0)]) (res := r52)
    (fun ds a h => by
      unfold d52 at h
      split at h
      · cases h; rfl
      · cases h)
    (fun v r h => by
      unfold r52 at h
      split at h
      · rename_i hv; cases h; exact hv
      · cases h)
    N52
abbrev A40_0 := Int × ByteArray × Nat
inductive O40_0 where
  | x0 (o6 : Int) (o7 : ByteArray) (o8 : Nat)
  | x1 (o9 : Int) (o10 : ByteArray) (o11 : Nat)
def l40_0 : LoopS A40_0 O40_0 where
  n := 38
  ks := [3, 7]
  kso := [2, 3]
  m := 1
  mt := 0
  decV := fun vs bs ts => match vs, bs, ts with
    | [.d (.val (.int .i64 v2)), .iter 0], [.iter v3 v4], [] => some (v2, v3, v4)
    | _, _, _ => none
  encV := fun (v2, v3, v4) => [.d (.val (.int .i64 v2)), .iter 0]
  encB := fun (v2, v3, v4) => [.iter v3 v4]
  tk := fun _ => []
  decO := fun ex vs bs ts => match ex, vs, bs, ts with
    | .ret, [.d (.val (.int .i64 o6)), .undef], [.iter o7 o8], [] => some (.x0 o6 o7 o8)
    | .normal, [.undef, .d (.val (.int .i64 o9))], [.iter o10 o11], [] => some (.x1 o9 o10 o11)
    | _, _, _, _ => none
  exO := fun x => match x with
    | .x0 o6 o7 o8 => .ret
    | .x1 o9 o10 o11 => .normal
  outV := fun x => match x with
    | .x0 o6 o7 o8 => [.d (.val (.int .i64 o6)), .undef]
    | .x1 o9 o10 o11 => [.undef, .d (.val (.int .i64 o9))]
  outB := fun x => match x with
    | .x0 o6 o7 o8 => [.iter o7 o8]
    | .x1 o9 o10 o11 => [.iter o10 o11]
  tkO := fun x => match x with
    | .x0 o6 o7 o8 => []
    | .x1 o9 o10 o11 => []
  elim := fun x k => match x with
    | .x0 o6 o7 o8 => k .ret [.d (.val (.int .i64 o6)), .undef] [.iter o7 o8] []
    | .x1 o9 o10 o11 => k .normal [.undef, .d (.val (.int .i64 o9))] [.iter o10 o11] []
theorem k40_0 : l40_0.Ok where
  ok1 := by kernel_rfl
  ok2 := by kernel_rfl
  dec := by
    intro vs bs ts a h
    simp only [l40_0] at h ⊢
    split at h
    · cases h; exact ⟨rfl, rfl⟩
    · cases h
  out := by
    intro ex vs bs ts o h
    simp only [l40_0] at h ⊢
    split at h
    · cases h; exact ⟨rfl, rfl, rfl⟩
    · cases h; exact ⟨rfl, rfl, rfl⟩
    · cases h
  len := fun _ => ⟨rfl, rfl⟩
  elim := fun β o k => by cases o <;> rfl
def L40_0 {σ : Type} : Nat → A40_0 → σ → Option (O40_0 × σ)
  | 0, _, _ => none
  | n+1, (v2, v3, v4), s => (bif decide (v4 < v3.size) then ((n37 ((Utf8.decode v3 v4).1 : Int)).bind fun y5 => (bif (!y5) then (bif ((w64 (v2 + 1)) == 1) then (some (O40_0.x0 21 v3 (v4 + (Utf8.decode v3 v4).2), s)) else (bif (((Utf8.decode v3 v4).1 : Int) != 39) then (bif (decide (((Utf8.decode v3 v4).1 : Int) < 48)) then (some (O40_0.x0 21 v3 (v4 + (Utf8.decode v3 v4).2), s)) else (bif (decide (((Utf8.decode v3 v4).1 : Int) > 57)) then (some (O40_0.x0 21 v3 (v4 + (Utf8.decode v3 v4).2), s)) else (L40_0 n ((w64 (v2 + 1)), v3, (v4 + (Utf8.decode v3 v4).2)) s))) else (L40_0 n ((w64 (v2 + 1)), v3, (v4 + (Utf8.decode v3 v4).2)) s))) else (L40_0 n ((w64 (v2 + 1)), v3, (v4 + (Utf8.decode v3 v4).2)) s))) else (some (O40_0.x1 v2 v3 v4, s)))
def d40 (ds : List D) : Option (ByteArray) := match ds with
  | [.val (.string a0)] => some a0
  | _ => none
def r40 (v : AV) : Option (Int) := match toPR v with
  | some (.one (.val (.int .i64 a1))) => some a1
  | _ => none
def n40 : ByteArray → Option (Int) := fun a0 => ((L40_0 1000000000000 (0, a0, 0) ()).bind fun p12 => match p12.1 with | .x0 z13 z14 z15 => (some z13) | .x1 z16 z17 z18 => (bif (bif (z16 == 0) then true else (decide (z16 > 32))) then (some 21) else (some 0)))
def e40 : PureE := mkE d40 n40 (fun a1 => .one (.val (.int .i64 a1)))
def g40 {σ : Type} : Nat → Option (SegE σ)
  | 0 => some (l40_0.seg σ (L40_0 1000000000000))
  | _ => none
theorem E40_0 {σ : Type} (Y : Yd σ) : ∀ n a (s : σ), L40_0 (n + 1) a s = evK (cfgOf Tryd.prog (tabs gl) tS3) (toldOf tS3) Y (inlN (cfgOf Tryd.prog (tabs gl) tS3) (toldOf tS3) Y) g40 40 (loopAt Tryd.f40 0) ((l40_0.toT σ).enc a s) (fun ex st' => l40_0.next (cfgOf Tryd.prog (tabs gl) tS3) 40 0 (L40_0 n) ex st') := by
  intro n ⟨v2, v3, v4⟩ s
  kernel_rfl
theorem Q40_0 {σ : Type} (hl : LibFits gl) (Y : Yd σ) (rnd : Bool) : SegOk (cfgOf Tryd.prog (tabs gl) tS3) (evFn (cfgOf Tryd.prog (tabs gl) tS3) 9) 40 rnd Y (l40_0.seg σ (L40_0 1000000000000)) (.block 0 (.loop (loopAt Tryd.f40 0))) :=
  told_loop (okS3 hl) k40_0 (by kernel_rfl) (by kernel_rfl) (fun _ _ => rfl) (segs_no (by kernel_rfl)) (E40_0 Y) (hr := by kernel_rfl)
theorem N40 : ∀ a, n40 a = bodyK (cfgOf Tryd.prog (tabs gl) tS3) (toldOf tS3) noY (inlN (cfgOf Tryd.prog (tabs gl) tS3) (toldOf tS3) noY) g40 40 Tryd.f40 (((fun a0 => [.val (.string a0)] : (ByteArray) → List D) a).map .d) [] [] () (fun v _ _ _ => r40 v) := by
  intro a0
  kernel_rfl
noncomputable def t40 : Tab := (40, e40) :: tS3
theorem ok40 (hl : LibFits gl) : TabOk Tryd.prog gl t40 :=
  told_fn (okS3 hl) mixed oddOk Tryd.func40 (by kernel_rfl) (by kernel_rfl) (by kernel_rfl) (fun p hp e he => by
    have hq : segsOf (σ := Unit) (g40 (σ := Unit)) (bodyOf Tryd.f40) = [(0, .loop (loopAt Tryd.f40 0))] := by kernel_rfl
    rw [hq] at hp
    simp only [List.mem_cons, List.not_mem_nil, or_false] at hp
    subst hp
    cases he
    exact Q40_0 hl _ _)
    (args := fun a0 => [.val (.string a0)]) (res := r40)
    (fun ds a h => by
      unfold d40 at h
      split at h
      · cases h; rfl
      · cases h)
    (fun v r h => by
      unfold r40 at h
      split at h
      · rename_i hv; cases h; exact hv
      · cases h)
    N40
abbrev A85_0 := ByteArray × Int × ByteArray
inductive O85_0 where
  | x0 (o6 : ByteArray)
  | x1 (o7 : ByteArray)
def l85_0 : LoopS A85_0 O85_0 where
  n := 25
  ks := [0, 3, 4]
  kso := []
  m := 1
  mt := 0
  decV := fun vs bs ts => match vs, bs, ts with
    | [.yld, .d (.val (.string v1)), .d (.val (.int .i64 v2))], [.cells none [.d (.val (.string v3))]], [] => some (v1, v2, v3)
    | _, _, _ => none
  encV := fun (v1, v2, v3) => [.yld, .d (.val (.string v1)), .d (.val (.int .i64 v2))]
  encB := fun (v1, v2, v3) => [.cells none [.d (.val (.string v3))]]
  tk := fun _ => []
  decO := fun ex vs bs ts => match ex, vs, bs, ts with
    | .ret, [], [.cells none [.d (.val (.string o6))]], [] => some (.x0 o6)
    | .normal, [], [.cells none [.d (.val (.string o7))]], [] => some (.x1 o7)
    | _, _, _, _ => none
  exO := fun x => match x with
    | .x0 o6 => .ret
    | .x1 o7 => .normal
  outV := fun x => match x with
    | .x0 o6 => []
    | .x1 o7 => []
  outB := fun x => match x with
    | .x0 o6 => [.cells none [.d (.val (.string o6))]]
    | .x1 o7 => [.cells none [.d (.val (.string o7))]]
  tkO := fun x => match x with
    | .x0 o6 => []
    | .x1 o7 => []
  elim := fun x k => match x with
    | .x0 o6 => k .ret [] [.cells none [.d (.val (.string o6))]] []
    | .x1 o7 => k .normal [] [.cells none [.d (.val (.string o7))]] []
theorem k85_0 : l85_0.Ok where
  ok1 := by kernel_rfl
  ok2 := by kernel_rfl
  dec := by
    intro vs bs ts a h
    simp only [l85_0] at h ⊢
    split at h
    · cases h; exact ⟨rfl, rfl⟩
    · cases h
  out := by
    intro ex vs bs ts o h
    simp only [l85_0] at h ⊢
    split at h
    · cases h; exact ⟨rfl, rfl, rfl⟩
    · cases h; exact ⟨rfl, rfl, rfl⟩
    · cases h
  len := fun _ => ⟨rfl, rfl⟩
  elim := fun β o k => by cases o <;> rfl
def L85_0 {σ : Type} (Y : Yd σ) : Nat → A85_0 → σ → Option (O85_0 × σ)
  | 0, _, _ => none
  | n+1, (v1, v2, v3), s => (bif (!(sEq v1 (⟨#[]⟩ : ByteArray))) then ((n86 (v1, (⟨#[10]⟩ : ByteArray))).bind fun y4 => ((Y [.val (.int .i64 v2), .val (.string y4.1)] s).bind fun q5 => (bif (!q5.1) then (some (O85_0.x0 v3, q5.2)) else (L85_0 Y n (y4.2.1, (w64 (v2 + 1)), v3) q5.2)))) else (some (O85_0.x1 v3, s)))
def encL85 : (ByteArray) → List Box := fun a0 => [.cells none [.d (.val (.string a0))]]
def decL85 (bs : List Box) : Option (ByteArray) := match bs with
  | [.cells none [.d (.val (.string a0))]] => some a0
  | _ => none
def itDec85 (caps : List AV) (lent : List Box) : Option (ByteArray) := match caps, lent with
  | [.ptr 0 0], [.cells none [.d (.val (.string a0))]] => some a0
  | _, _ => none
def n85 {σ : Type} (Y : Yd σ) : (ByteArray) → σ → Option ((ByteArray) × σ) := fun a0 s => ((L85_0 Y 1000000000000 (a0, 1, a0) s).bind fun p8 => match p8.1 with | .x0 z9 => (some (z9, p8.2)) | .x1 z10 => (some (z10, p8.2)))
def g85 {σ : Type} (Y : Yd σ) : Nat → Option (SegE σ)
  | 0 => some (l85_0.seg σ (L85_0 Y 1000000000000))
  | _ => none
theorem E85_0 {σ : Type} (Y : Yd σ) : ∀ n a (s : σ), L85_0 Y (n + 1) a s = evK (cfgOf Tryd.prog (tabs gl) tS3) (toldOf tS3) Y (inlI (cfgOf Tryd.prog (tabs gl) tS3) (toldOf tS3) Y) (g85 Y) 85 (loopAt Tryd.f85 0) ((l85_0.toT σ).enc a s) (fun ex st' => l85_0.next (cfgOf Tryd.prog (tabs gl) tS3) 85 0 (L85_0 Y n) ex st') := by
  intro n ⟨v1, v2, v3⟩ s
  kernel_rfl
theorem Q85_0 {σ : Type} (hl : LibFits gl) (Y : Yd σ) (rnd : Bool) : SegOk (cfgOf Tryd.prog (tabs gl) tS3) (evFn (cfgOf Tryd.prog (tabs gl) tS3) 8) 85 rnd Y (l85_0.seg σ (L85_0 Y 1000000000000)) (.block 0 (.loop (loopAt Tryd.f85 0))) :=
  told_loopI (okS3 hl) k85_0 (by kernel_rfl) (by kernel_rfl) (fun _ _ => rfl) (segs_no (by kernel_rfl)) (E85_0 Y)
theorem N85 : ∀ (σ : Type) (Y : Yd σ) (i : ByteArray) (s : σ), n85 Y i s = bodyK (cfgOf Tryd.prog (tabs gl) tS3) (toldOf tS3) Y (inlI (cfgOf Tryd.prog (tabs gl) tS3) (toldOf tS3) Y) (g85 Y) 85 Tryd.f85 (.yld :: (fun (_ : ByteArray) => ([.ptr 0 0] : List AV)) i) (encL85 i) [] s (fun _ b _ s => (decL85 b).bind fun i => some (i, s)) := by
  intro σ Y a0 s
  kernel_rfl
theorem J85 (hl : LibFits gl) : ∀ caps lent i, itDec85 caps lent = some i → IterOk (evFn (cfgOf Tryd.prog (tabs gl) tS3) 9) 85 caps lent encL85 (fun σ Y => n85 Y i) := by
  intro caps lent i h
  unfold itDec85 at h
  split at h
  · cases h
    exact told_iter (okS3 hl) Tryd.func85 (by kernel_rfl) (by kernel_rfl) (capsOf := fun (_ : ByteArray) => [.ptr 0 0]) (encL := encL85) (decL := decL85) (fun b i h => by
      unfold decL85 at h
      split at h
      · cases h; rfl
      · cases h) (n := fun {σ} Y i s => n85 Y i s) (seg := fun {σ} Y => g85 Y) (by kernel_rfl) (fun σ Y => (fun p hp e he => by
    have hq : segsOf (σ := σ) (g85 Y) (bodyOf Tryd.f85) = [(0, .loop (loopAt Tryd.f85 0))] := by kernel_rfl
    rw [hq] at hp
    simp only [List.mem_cons, List.not_mem_nil, or_false] at hp
    subst hp
    cases he
    exact Q85_0 hl _ _)) N85 _
  · cases h
theorem Z85_0 {σ τ : Type} {Y : Yd σ} {W : Yd τ} {enc : τ → σ} (h : ∀ xs a, SimO enc (W xs a) (Y xs (enc a))) : ∀ n a s, SimO enc (L85_0 W n a s) (L85_0 Y n a (enc s)) := by
  intro n
  induction n with
  | zero => intro a s; exact sim_none
  | succ n ih =>
    intro a s
    simp only [L85_0]
    repeat (first
      | exact sim_none
      | exact sim_some _ _
      | exact ih _ _
      | exact ih _ _
      | (refine sim_bif ?_ ?_)
      | (refine sim_ask ?_)
      | (refine sim_bind (h _ _) ?_; intro b s; dsimp only)
      | (refine sim_pure ?_; intro v)
      | (split))
theorem S85 : ∀ i, IterSim (fun σ Y => n85 (σ := σ) Y i) := by
  intro i σ τ Y W enc h0 a i' a' e
  have h : ∀ xs a, SimO enc (W xs a) (Y xs (enc a)) := fun xs a o s e => h0 xs a o s e
  revert e
  refine (?_ : SimO enc _ _) i' a'
  simp only [n85]
  repeat (first
      | exact sim_none
      | exact sim_some _ _
      | (refine sim_bind (Z85_0 h _ _ _) ?_; intro v s; dsimp only)
      | (refine sim_bif ?_ ?_)
      | (refine sim_ask ?_)
      | (refine sim_bind (h _ _) ?_; intro b s; dsimp only)
      | (refine sim_pure ?_; intro v)
      | (split))
abbrev A83_0 := ByteArray × Int × Int × Int × ByteArray × Nat
inductive O83_0 where
  | x0 (o9 : ByteArray) (o10 : Int) (o11 : Int) (o12 : Int) (o13 : ByteArray) (o14 : Nat)
  | x1 (o17 : ByteArray) (o18 : Int) (o19 : Int) (o20 : Int) (o21 : ByteArray) (o22 : Nat)
def l83_0 : LoopS A83_0 O83_0 where
  n := 38
  ks := [0, 1, 3, 8]
  kso := []
  m := 3
  mt := 0
  decV := fun vs bs ts => match vs, bs, ts with
    | [.yld, .ptr 0 0, .ptr 1 0, .iter 2], [.cells none [.d (.val (.string v1))], .cells (some 25) [.d (.val (.int .i64 v2)), .d (.val (.int .i64 v3)), .d (.val (.int .i64 v4))], .iter v5 v6], [] => some (v1, v2, v3, v4, v5, v6)
    | _, _, _ => none
  encV := fun (v1, v2, v3, v4, v5, v6) => [.yld, .ptr 0 0, .ptr 1 0, .iter 2]
  encB := fun (v1, v2, v3, v4, v5, v6) => [.cells none [.d (.val (.string v1))], .cells (some 25) [.d (.val (.int .i64 v2)), .d (.val (.int .i64 v3)), .d (.val (.int .i64 v4))], .iter v5 v6]
  tk := fun _ => []
  decO := fun ex vs bs ts => match ex, vs, bs, ts with
    | .ret, [], [.cells none [.d (.val (.string o9))], .cells (some 25) [.d (.val (.int .i64 o10)), .d (.val (.int .i64 o11)), .d (.val (.int .i64 o12))], .iter o13 o14], [] => some (.x0 o9 o10 o11 o12 o13 o14)
    | .normal, [], [.cells none [.d (.val (.string o17))], .cells (some 25) [.d (.val (.int .i64 o18)), .d (.val (.int .i64 o19)), .d (.val (.int .i64 o20))], .iter o21 o22], [] => some (.x1 o17 o18 o19 o20 o21 o22)
    | _, _, _, _ => none
  exO := fun x => match x with
    | .x0 o9 o10 o11 o12 o13 o14 => .ret
    | .x1 o17 o18 o19 o20 o21 o22 => .normal
  outV := fun x => match x with
    | .x0 o9 o10 o11 o12 o13 o14 => []
    | .x1 o17 o18 o19 o20 o21 o22 => []
  outB := fun x => match x with
    | .x0 o9 o10 o11 o12 o13 o14 => [.cells none [.d (.val (.string o9))], .cells (some 25) [.d (.val (.int .i64 o10)), .d (.val (.int .i64 o11)), .d (.val (.int .i64 o12))], .iter o13 o14]
    | .x1 o17 o18 o19 o20 o21 o22 => [.cells none [.d (.val (.string o17))], .cells (some 25) [.d (.val (.int .i64 o18)), .d (.val (.int .i64 o19)), .d (.val (.int .i64 o20))], .iter o21 o22]
  tkO := fun x => match x with
    | .x0 o9 o10 o11 o12 o13 o14 => []
    | .x1 o17 o18 o19 o20 o21 o22 => []
  elim := fun x k => match x with
    | .x0 o9 o10 o11 o12 o13 o14 => k .ret [] [.cells none [.d (.val (.string o9))], .cells (some 25) [.d (.val (.int .i64 o10)), .d (.val (.int .i64 o11)), .d (.val (.int .i64 o12))], .iter o13 o14] []
    | .x1 o17 o18 o19 o20 o21 o22 => k .normal [] [.cells none [.d (.val (.string o17))], .cells (some 25) [.d (.val (.int .i64 o18)), .d (.val (.int .i64 o19)), .d (.val (.int .i64 o20))], .iter o21 o22] []
theorem k83_0 : l83_0.Ok where
  ok1 := by kernel_rfl
  ok2 := by kernel_rfl
  dec := by
    intro vs bs ts a h
    simp only [l83_0] at h ⊢
    split at h
    · cases h; exact ⟨rfl, rfl⟩
    · cases h
  out := by
    intro ex vs bs ts o h
    simp only [l83_0] at h ⊢
    split at h
    · cases h; exact ⟨rfl, rfl, rfl⟩
    · cases h; exact ⟨rfl, rfl, rfl⟩
    · cases h
  len := fun _ => ⟨rfl, rfl⟩
  elim := fun β o k => by cases o <;> rfl
def L83_0 {σ : Type} (Y : Yd σ) : Nat → A83_0 → σ → Option (O83_0 × σ)
  | 0, _, _ => none
  | n+1, (v1, v2, v3, v4, v5, v6), s => (bif decide (v6 < v5.size) then (bif (((Utf8.decode v5 v6).1 : Int) == 65533) then ((n84 (v1, (v6 : Int))).bind fun y7 => (bif y7 then ((Y [.agg [.val (.int .i64 (v6 : Int)), .val (.int .i64 v3), .val (.int .i64 v4)], .val (.int .i32 (-1))] s).bind fun q8 => (bif (!q8.1) then (some (O83_0.x0 v1 (v6 : Int) v3 v4 v5 (v6 + (Utf8.decode v5 v6).2), q8.2)) else (L83_0 Y n (v1, (v6 : Int), v3, (w64 (v4 + 1)), v5, (v6 + (Utf8.decode v5 v6).2)) q8.2))) else ((Y [.agg [.val (.int .i64 (v6 : Int)), .val (.int .i64 v3), .val (.int .i64 v4)], .val (.int .i32 ((Utf8.decode v5 v6).1 : Int))] s).bind fun q15 => (bif (!q15.1) then (some (O83_0.x0 v1 (v6 : Int) v3 v4 v5 (v6 + (Utf8.decode v5 v6).2), q15.2)) else (bif (((Utf8.decode v5 v6).1 : Int) == 10) then (L83_0 Y n (v1, (v6 : Int), (w64 (v3 + 1)), 1, v5, (v6 + (Utf8.decode v5 v6).2)) q15.2) else (L83_0 Y n (v1, (v6 : Int), v3, (w64 (v4 + 1)), v5, (v6 + (Utf8.decode v5 v6).2)) q15.2)))))) else ((Y [.agg [.val (.int .i64 (v6 : Int)), .val (.int .i64 v3), .val (.int .i64 v4)], .val (.int .i32 ((Utf8.decode v5 v6).1 : Int))] s).bind fun q16 => (bif (!q16.1) then (some (O83_0.x0 v1 (v6 : Int) v3 v4 v5 (v6 + (Utf8.decode v5 v6).2), q16.2)) else (bif (((Utf8.decode v5 v6).1 : Int) == 10) then (L83_0 Y n (v1, (v6 : Int), (w64 (v3 + 1)), 1, v5, (v6 + (Utf8.decode v5 v6).2)) q16.2) else (L83_0 Y n (v1, (v6 : Int), v3, (w64 (v4 + 1)), v5, (v6 + (Utf8.decode v5 v6).2)) q16.2))))) else (some (O83_0.x1 v1 v2 v3 v4 v5 v6, s)))
def encL83 : (ByteArray) → List Box := fun a0 => [.cells none [.d (.val (.string a0))]]
def decL83 (bs : List Box) : Option (ByteArray) := match bs with
  | [.cells none [.d (.val (.string a0))]] => some a0
  | _ => none
def itDec83 (caps : List AV) (lent : List Box) : Option (ByteArray) := match caps, lent with
  | [.ptr 0 0], [.cells none [.d (.val (.string a0))]] => some a0
  | _, _ => none
def n83 {σ : Type} (Y : Yd σ) : (ByteArray) → σ → Option ((ByteArray) × σ) := fun a0 s => ((L83_0 Y 1000000000000 (a0, 0, 1, 1, a0, 0) s).bind fun p23 => match p23.1 with | .x0 z24 z25 z26 z27 z28 z29 => (some (z24, p23.2)) | .x1 z30 z31 z32 z33 z34 z35 => (some (z30, p23.2)))
def g83 {σ : Type} (Y : Yd σ) : Nat → Option (SegE σ)
  | 0 => some (l83_0.seg σ (L83_0 Y 1000000000000))
  | _ => none
theorem E83_0 {σ : Type} (Y : Yd σ) : ∀ n a (s : σ), L83_0 Y (n + 1) a s = evK (cfgOf Tryd.prog (tabs gl) tS3) (toldOf tS3) Y (inlI (cfgOf Tryd.prog (tabs gl) tS3) (toldOf tS3) Y) (g83 Y) 83 (loopAt Tryd.f83 0) ((l83_0.toT σ).enc a s) (fun ex st' => l83_0.next (cfgOf Tryd.prog (tabs gl) tS3) 83 0 (L83_0 Y n) ex st') := by
  intro n ⟨v1, v2, v3, v4, v5, v6⟩ s
  kernel_rfl
theorem Q83_0 {σ : Type} (hl : LibFits gl) (Y : Yd σ) (rnd : Bool) : SegOk (cfgOf Tryd.prog (tabs gl) tS3) (evFn (cfgOf Tryd.prog (tabs gl) tS3) 8) 83 rnd Y (l83_0.seg σ (L83_0 Y 1000000000000)) (.block 0 (.loop (loopAt Tryd.f83 0))) :=
  told_loopI (okS3 hl) k83_0 (by kernel_rfl) (by kernel_rfl) (fun _ _ => rfl) (segs_no (by kernel_rfl)) (E83_0 Y)
theorem N83 : ∀ (σ : Type) (Y : Yd σ) (i : ByteArray) (s : σ), n83 Y i s = bodyK (cfgOf Tryd.prog (tabs gl) tS3) (toldOf tS3) Y (inlI (cfgOf Tryd.prog (tabs gl) tS3) (toldOf tS3) Y) (g83 Y) 83 Tryd.f83 (.yld :: (fun (_ : ByteArray) => ([.ptr 0 0] : List AV)) i) (encL83 i) [] s (fun _ b _ s => (decL83 b).bind fun i => some (i, s)) := by
  intro σ Y a0 s
  kernel_rfl
theorem J83 (hl : LibFits gl) : ∀ caps lent i, itDec83 caps lent = some i → IterOk (evFn (cfgOf Tryd.prog (tabs gl) tS3) 9) 83 caps lent encL83 (fun σ Y => n83 Y i) := by
  intro caps lent i h
  unfold itDec83 at h
  split at h
  · cases h
    exact told_iter (okS3 hl) Tryd.func83 (by kernel_rfl) (by kernel_rfl) (capsOf := fun (_ : ByteArray) => [.ptr 0 0]) (encL := encL83) (decL := decL83) (fun b i h => by
      unfold decL83 at h
      split at h
      · cases h; rfl
      · cases h) (n := fun {σ} Y i s => n83 Y i s) (seg := fun {σ} Y => g83 Y) (by kernel_rfl) (fun σ Y => (fun p hp e he => by
    have hq : segsOf (σ := σ) (g83 Y) (bodyOf Tryd.f83) = [(0, .loop (loopAt Tryd.f83 0))] := by kernel_rfl
    rw [hq] at hp
    simp only [List.mem_cons, List.not_mem_nil, or_false] at hp
    subst hp
    cases he
    exact Q83_0 hl _ _)) N83 _
  · cases h
theorem Z83_0 {σ τ : Type} {Y : Yd σ} {W : Yd τ} {enc : τ → σ} (h : ∀ xs a, SimO enc (W xs a) (Y xs (enc a))) : ∀ n a s, SimO enc (L83_0 W n a s) (L83_0 Y n a (enc s)) := by
  intro n
  induction n with
  | zero => intro a s; exact sim_none
  | succ n ih =>
    intro a s
    simp only [L83_0]
    repeat (first
      | exact sim_none
      | exact sim_some _ _
      | exact ih _ _
      | exact ih _ _
      | (refine sim_bif ?_ ?_)
      | (refine sim_ask ?_)
      | (refine sim_bind (h _ _) ?_; intro b s; dsimp only)
      | (refine sim_pure ?_; intro v)
      | (split))
theorem S83 : ∀ i, IterSim (fun σ Y => n83 (σ := σ) Y i) := by
  intro i σ τ Y W enc h0 a i' a' e
  have h : ∀ xs a, SimO enc (W xs a) (Y xs (enc a)) := fun xs a o s e => h0 xs a o s e
  revert e
  refine (?_ : SimO enc _ _) i' a'
  simp only [n83]
  repeat (first
      | exact sim_none
      | exact sim_some _ _
      | (refine sim_bind (Z83_0 h _ _ _) ?_; intro v s; dsimp only)
      | (refine sim_bif ?_ ?_)
      | (refine sim_ask ?_)
      | (refine sim_bind (h _ _) ?_; intro b s; dsimp only)
      | (refine sim_pure ?_; intro v)
      | (split))
abbrev P33_0 := Unit
abbrev X33_0 := Int × ByteArray
abbrev A33_0 := List D × List D × Nat × Nat
inductive O33_0 where
def l33_0 : RangeS P33_0 X33_0 A33_0 O33_0 where
  n := 26
  ks := [4, 5, 14, 15]
  ps := [14, 15]
  ks0 := [4, 5]
  m := 3
  mt := 4
  decE := fun vs => match vs with
    | [.ptr 0 0, .ptr 1 0] => some ()
    | _ => none
  encE := fun () => [.ptr 0 0, .ptr 1 0]
  decX := fun xs => match xs with
    | [.val (.int .i64 e3), .val (.string e4)] => some (e3, e4)
    | _ => none
  encX := fun (e3, e4) => [.val (.int .i64 e3), .val (.string e4)]
  decB := fun bs ts => match bs, ts with
    | [.cells (some 45) [.osl 2 v5], .cells (some 60) [.osl 3 v6], .gone], [k7, k8, _, _] => some (v5, v6, k7, k8)
    | _, _ => none
  encB := fun (v5, v6, k7, k8) => [.cells (some 45) [.osl 2 v5], .cells (some 60) [.osl 3 v6], .gone]
  tk := fun (v5, v6, k7, k8) => [k7, k8, v5.length, v6.length]
  decO := fun ex bs ts => match ex, bs, ts with
    | _, _, _ => none
  exO := fun x => nomatch x
  outB := fun x => nomatch x
  tkO := fun x => nomatch x
  elim := fun x _ => nomatch x
theorem k33_0 : l33_0.Ok where
  ok1 := by kernel_rfl
  ok2 := by kernel_rfl
  ok3 := by kernel_rfl
  decE := by
    intro vs p h
    simp only [l33_0] at h ⊢
    split at h
    · cases h; rfl
    · cases h
  decX := by
    intro xs x h
    simp only [l33_0] at h ⊢
    split at h
    · cases h; rfl
    · cases h
  lenX := fun _ => rfl
  decB := by
    intro bs ts a h
    simp only [l33_0] at h ⊢
    split at h
    · cases h; rfl
    · cases h
  lenB := fun _ => ⟨rfl, rfl⟩
  decO := by
    intro ex bs ts o h
    simp only [l33_0] at h ⊢
    cases h
  exO := fun o => by cases o <;> exact ⟨fun h => (by cases h), rfl⟩
  elim := fun β o k => by cases o <;> rfl
def W33_0 {σ : Type} (p : P33_0) : Yd ((A33_0 ⊕ O33_0) × σ) := fun xs q => match p, xs, q with
  | (), [.val (.int .i64 e3), .val (.string e4)], (.inl (v5, v6, k7, k8), s) => (ask (addOk v5.length v5 ([.val (.int .i64 e3)] : List D) 1 8) (ask (addOk v6.length v6 ([.val (.string e4)] : List D) 1 16) (ask (([k7, k8, (v5.length + ([.val (.int .i64 e3)] : List D).length), (v6.length + ([.val (.string e4)] : List D).length)] : List Nat) = [k7, k8, (v5 ++ ([.val (.int .i64 e3)] : List D)).length, (v6 ++ ([.val (.string e4)] : List D)).length]) (some (true, (Sum.inl ((v5 ++ ([.val (.int .i64 e3)] : List D)), (v6 ++ ([.val (.string e4)] : List D)), k7, k8), s))))))
  | _, _, _ => none
def d33 (ds : List D) : Option (ByteArray) := match ds with
  | [.val (.string a0)] => some a0
  | _ => none
def r33 (v : AV) : Option (List D × List D) := match toPR v with
  | some (.many [.slice a1, .slice a2]) => some (a1, a2)
  | _ => none
def n33 : ByteArray → Option (List D × List D) := fun a0 => (ask (([0, 0, 0, 0] : List Nat) = [0, 0, ([] : List D).length, ([] : List D).length]) ((n85 (W33_0 ()) a0 (Sum.inl (([] : List D), ([] : List D), 0, 0), ())).bind fun p9 => match p9.2.1 with | .inl z10 => (some ((z10.1), (z10.2.1))) | .inr o11 => nomatch o11))
def e33 : PureE := mkE d33 n33 (fun (a1, a2) => .many [.slice a1, .slice a2])
noncomputable def g33 (gl : Nat → Option (List D)) {σ : Type} : Nat → Option (SegE σ)
  | 0 => some (l33_0.seg (cfgOf Tryd.prog (tabs gl) tS3) 33 0 (rangeG Tryd.f33 0) 85 itDec85 encL85 (fun i σ Y => n85 Y i) σ W33_0)
  | _ => none
theorem E33_0 {σ : Type} (Y : Yd σ) : ∀ p x a (s : σ), W33_0 p (l33_0.encX x) (.inl a, s) = evK (cfgOf Tryd.prog (tabs gl) tS3) (toldOf tS3) Y (inlN (cfgOf Tryd.prog (tabs gl) tS3) (toldOf tS3) Y) (g33 gl) 33 (.seq (rangeA Tryd.f33 0) (rangeB Tryd.f33 0)) (l33_0.encS p x a s) (fun ex st' => l33_0.next ex st') := by
  intro p x a s
  obtain ⟨e3, e4⟩ := x
  obtain ⟨v5, v6, k7, k8⟩ := a
  kernel_rfl
theorem D33_0 {σ : Type} : ∀ p xs q r, W33_0 (σ := σ) p xs q = some r → ∃ x a s, xs = l33_0.encX x ∧ q = (.inl a, s) := by
  intro p xs q r h
  unfold W33_0 at h
  split at h
  · rename_i e3 e4 v5 v6 k7 k8 s
    exact ⟨(e3, e4), (v5, v6, k7, k8), _, rfl, rfl⟩
  · cases h
theorem Q33_0 {σ : Type} (hl : LibFits gl) (Y : Yd σ) (_ : Bool) : SegOk (cfgOf Tryd.prog (tabs gl) tS3) (evFn (cfgOf Tryd.prog (tabs gl) tS3) 9) 33 false Y (l33_0.seg (cfgOf Tryd.prog (tabs gl) tS3) 33 0 (rangeG Tryd.f33 0) 85 itDec85 encL85 (fun i σ Y => n85 Y i) σ W33_0) (.block 0 (.rangeFunc (rangeG Tryd.f33 0) (rangeP Tryd.f33 0) (rangeA Tryd.f33 0) (rangeB Tryd.f33 0))) :=
  told_range (okS3 hl) k33_0 (by kernel_rfl) (by kernel_rfl) (by kernel_rfl) (segs_no (by kernel_rfl)) D33_0 (E33_0 Y) (J85 hl) S85
theorem N33 : ∀ a, n33 a = bodyK (cfgOf Tryd.prog (tabs gl) tS3) (toldOf tS3) noY (inlN (cfgOf Tryd.prog (tabs gl) tS3) (toldOf tS3) noY) (g33 gl) 33 Tryd.f33 (((fun a0 => [.val (.string a0)] : (ByteArray) → List D) a).map .d) [] [] () (fun v _ _ _ => r33 v) := by
  intro a0
  kernel_rfl
noncomputable def t33 : Tab := (33, e33) :: tS3
theorem ok33 (hl : LibFits gl) : TabOk Tryd.prog gl t33 :=
  told_fn (okS3 hl) mixed oddOk Tryd.func33 (by kernel_rfl) (by kernel_rfl) (by kernel_rfl) (fun p hp e he => by
    have hq : segsOf (σ := Unit) (g33 gl (σ := Unit)) (bodyOf Tryd.f33) = [(0, .rangeFunc (rangeG Tryd.f33 0) (rangeP Tryd.f33 0) (rangeA Tryd.f33 0) (rangeB Tryd.f33 0))] := by kernel_rfl
    rw [hq] at hp
    simp only [List.mem_cons, List.not_mem_nil, or_false] at hp
    subst hp
    cases he
    exact Q33_0 hl _ true)
    (args := fun a0 => [.val (.string a0)]) (res := r33)
    (fun ds a h => by
      unfold d33 at h
      split at h
      · cases h; rfl
      · cases h)
    (fun v r h => by
      unfold r33 at h
      split at h
      · rename_i hv; cases h; exact hv
      · cases h)
    N33
abbrev P28_0 := Unit
abbrev X28_0 := Int × Int × Int × Int
abbrev A28_0 := List D × List D × Nat × Nat
inductive O28_0 where
def l28_0 : RangeS P28_0 X28_0 A28_0 O28_0 where
  n := 26
  ks := [4, 5, 14, 15]
  ps := [14, 15]
  ks0 := [4, 5]
  m := 3
  mt := 4
  decE := fun vs => match vs with
    | [.ptr 0 0, .ptr 1 0] => some ()
    | _ => none
  encE := fun () => [.ptr 0 0, .ptr 1 0]
  decX := fun xs => match xs with
    | [.agg [.val (.int .i64 e3), .val (.int .i64 e4), .val (.int .i64 e5)], .val (.int .i32 e6)] => some (e3, e4, e5, e6)
    | _ => none
  encX := fun (e3, e4, e5, e6) => [.agg [.val (.int .i64 e3), .val (.int .i64 e4), .val (.int .i64 e5)], .val (.int .i32 e6)]
  decB := fun bs ts => match bs, ts with
    | [.cells (some 48) [.osl 2 v7], .cells (some 49) [.osl 3 v8], .gone], [k9, k10, _, _] => some (v7, v8, k9, k10)
    | _, _ => none
  encB := fun (v7, v8, k9, k10) => [.cells (some 48) [.osl 2 v7], .cells (some 49) [.osl 3 v8], .gone]
  tk := fun (v7, v8, k9, k10) => [k9, k10, v7.length, v8.length]
  decO := fun ex bs ts => match ex, bs, ts with
    | _, _, _ => none
  exO := fun x => nomatch x
  outB := fun x => nomatch x
  tkO := fun x => nomatch x
  elim := fun x _ => nomatch x
theorem k28_0 : l28_0.Ok where
  ok1 := by kernel_rfl
  ok2 := by kernel_rfl
  ok3 := by kernel_rfl
  decE := by
    intro vs p h
    simp only [l28_0] at h ⊢
    split at h
    · cases h; rfl
    · cases h
  decX := by
    intro xs x h
    simp only [l28_0] at h ⊢
    split at h
    · cases h; rfl
    · cases h
  lenX := fun _ => rfl
  decB := by
    intro bs ts a h
    simp only [l28_0] at h ⊢
    split at h
    · cases h; rfl
    · cases h
  lenB := fun _ => ⟨rfl, rfl⟩
  decO := by
    intro ex bs ts o h
    simp only [l28_0] at h ⊢
    cases h
  exO := fun o => by cases o <;> exact ⟨fun h => (by cases h), rfl⟩
  elim := fun β o k => by cases o <;> rfl
def W28_0 {σ : Type} (p : P28_0) : Yd ((A28_0 ⊕ O28_0) × σ) := fun xs q => match p, xs, q with
  | (), [.agg [.val (.int .i64 e3), .val (.int .i64 e4), .val (.int .i64 e5)], .val (.int .i32 e6)], (.inl (v7, v8, k9, k10), s) => (ask (addOk v7.length v7 ([.agg [.val (.int .i64 e3), .val (.int .i64 e4), .val (.int .i64 e5)]] : List D) 3 24) (ask (addOk v8.length v8 ([.val (.int .i32 e6)] : List D) 1 4) (ask (([k9, k10, (v7.length + ([.agg [.val (.int .i64 e3), .val (.int .i64 e4), .val (.int .i64 e5)]] : List D).length), (v8.length + ([.val (.int .i32 e6)] : List D).length)] : List Nat) = [k9, k10, (v7 ++ ([.agg [.val (.int .i64 e3), .val (.int .i64 e4), .val (.int .i64 e5)]] : List D)).length, (v8 ++ ([.val (.int .i32 e6)] : List D)).length]) (some (true, (Sum.inl ((v7 ++ ([.agg [.val (.int .i64 e3), .val (.int .i64 e4), .val (.int .i64 e5)]] : List D)), (v8 ++ ([.val (.int .i32 e6)] : List D)), k9, k10), s))))))
  | _, _, _ => none
def d28 (ds : List D) : Option (ByteArray) := match ds with
  | [.val (.string a0)] => some a0
  | _ => none
def r28 (v : AV) : Option (List D × List D) := match toPR v with
  | some (.many [.slice a1, .slice a2]) => some (a1, a2)
  | _ => none
def n28 : ByteArray → Option (List D × List D) := fun a0 => (ask (([0, 0, 0, 0] : List Nat) = [0, 0, ([] : List D).length, ([] : List D).length]) ((n83 (W28_0 ()) a0 (Sum.inl (([] : List D), ([] : List D), 0, 0), ())).bind fun p11 => match p11.2.1 with | .inl z12 => (some ((z12.1), (z12.2.1))) | .inr o13 => nomatch o13))
def e28 : PureE := mkE d28 n28 (fun (a1, a2) => .many [.slice a1, .slice a2])
noncomputable def g28 (gl : Nat → Option (List D)) {σ : Type} : Nat → Option (SegE σ)
  | 0 => some (l28_0.seg (cfgOf Tryd.prog (tabs gl) tS3) 28 0 (rangeG Tryd.f28 0) 83 itDec83 encL83 (fun i σ Y => n83 Y i) σ W28_0)
  | _ => none
theorem E28_0 {σ : Type} (Y : Yd σ) : ∀ p x a (s : σ), W28_0 p (l28_0.encX x) (.inl a, s) = evK (cfgOf Tryd.prog (tabs gl) tS3) (toldOf tS3) Y (inlN (cfgOf Tryd.prog (tabs gl) tS3) (toldOf tS3) Y) (g28 gl) 28 (.seq (rangeA Tryd.f28 0) (rangeB Tryd.f28 0)) (l28_0.encS p x a s) (fun ex st' => l28_0.next ex st') := by
  intro p x a s
  obtain ⟨e3, e4, e5, e6⟩ := x
  obtain ⟨v7, v8, k9, k10⟩ := a
  kernel_rfl
theorem D28_0 {σ : Type} : ∀ p xs q r, W28_0 (σ := σ) p xs q = some r → ∃ x a s, xs = l28_0.encX x ∧ q = (.inl a, s) := by
  intro p xs q r h
  unfold W28_0 at h
  split at h
  · rename_i e3 e4 e5 e6 v7 v8 k9 k10 s
    exact ⟨(e3, e4, e5, e6), (v7, v8, k9, k10), _, rfl, rfl⟩
  · cases h
theorem Q28_0 {σ : Type} (hl : LibFits gl) (Y : Yd σ) (_ : Bool) : SegOk (cfgOf Tryd.prog (tabs gl) tS3) (evFn (cfgOf Tryd.prog (tabs gl) tS3) 9) 28 false Y (l28_0.seg (cfgOf Tryd.prog (tabs gl) tS3) 28 0 (rangeG Tryd.f28 0) 83 itDec83 encL83 (fun i σ Y => n83 Y i) σ W28_0) (.block 0 (.rangeFunc (rangeG Tryd.f28 0) (rangeP Tryd.f28 0) (rangeA Tryd.f28 0) (rangeB Tryd.f28 0))) :=
  told_range (okS3 hl) k28_0 (by kernel_rfl) (by kernel_rfl) (by kernel_rfl) (segs_no (by kernel_rfl)) D28_0 (E28_0 Y) (J83 hl) S83
theorem N28 : ∀ a, n28 a = bodyK (cfgOf Tryd.prog (tabs gl) tS3) (toldOf tS3) noY (inlN (cfgOf Tryd.prog (tabs gl) tS3) (toldOf tS3) noY) (g28 gl) 28 Tryd.f28 (((fun a0 => [.val (.string a0)] : (ByteArray) → List D) a).map .d) [] [] () (fun v _ _ _ => r28 v) := by
  intro a0
  kernel_rfl
noncomputable def t28 : Tab := (28, e28) :: tS3
theorem ok28 (hl : LibFits gl) : TabOk Tryd.prog gl t28 :=
  told_fn (okS3 hl) mixed oddOk Tryd.func28 (by kernel_rfl) (by kernel_rfl) (by kernel_rfl) (fun p hp e he => by
    have hq : segsOf (σ := Unit) (g28 gl (σ := Unit)) (bodyOf Tryd.f28) = [(0, .rangeFunc (rangeG Tryd.f28 0) (rangeP Tryd.f28 0) (rangeA Tryd.f28 0) (rangeB Tryd.f28 0))] := by kernel_rfl
    rw [hq] at hp
    simp only [List.mem_cons, List.not_mem_nil, or_false] at hp
    subst hp
    cases he
    exact Q28_0 hl _ true)
    (args := fun a0 => [.val (.string a0)]) (res := r28)
    (fun ds a h => by
      unfold d28 at h
      split at h
      · cases h; rfl
      · cases h)
    (fun v r h => by
      unfold r28 at h
      split at h
      · rename_i hv; cases h; exact hv
      · cases h)
    N28
abbrev P48_0 := Unit
abbrev X48_0 := Int × Int × Int × Int
abbrev A48_0 := ByteArray × ByteArray
inductive O48_0 where
def l48_0 : RangeS P48_0 X48_0 A48_0 O48_0 where
  n := 50
  ks := [1, 3, 10, 11]
  ps := [10, 11]
  ks0 := [1, 3]
  m := 3
  mt := 1
  decE := fun vs => match vs with
    | [.ptr 0 0, .ptr 1 0] => some ()
    | _ => none
  encE := fun () => [.ptr 0 0, .ptr 1 0]
  decX := fun xs => match xs with
    | [.agg [.val (.int .i64 e2), .val (.int .i64 e3), .val (.int .i64 e4)], .val (.int .i32 e5)] => some (e2, e3, e4, e5)
    | _ => none
  encX := fun (e2, e3, e4, e5) => [.agg [.val (.int .i64 e2), .val (.int .i64 e3), .val (.int .i64 e4)], .val (.int .i32 e5)]
  decB := fun bs ts => match bs, ts with
    | [.cells none [.d (.val (.string v6))], .cells (some 137) [.ptr 1 0, .obs 0 v7], .gone], [_] => some (v6, v7)
    | _, _ => none
  encB := fun (v6, v7) => [.cells none [.d (.val (.string v6))], .cells (some 137) [.ptr 1 0, .obs 0 v7], .gone]
  tk := fun (v6, v7) => [v7.size]
  decO := fun ex bs ts => match ex, bs, ts with
    | _, _, _ => none
  exO := fun x => nomatch x
  outB := fun x => nomatch x
  tkO := fun x => nomatch x
  elim := fun x _ => nomatch x
theorem k48_0 : l48_0.Ok where
  ok1 := by kernel_rfl
  ok2 := by kernel_rfl
  ok3 := by kernel_rfl
  decE := by
    intro vs p h
    simp only [l48_0] at h ⊢
    split at h
    · cases h; rfl
    · cases h
  decX := by
    intro xs x h
    simp only [l48_0] at h ⊢
    split at h
    · cases h; rfl
    · cases h
  lenX := fun _ => rfl
  decB := by
    intro bs ts a h
    simp only [l48_0] at h ⊢
    split at h
    · cases h; rfl
    · cases h
  lenB := fun _ => ⟨rfl, rfl⟩
  decO := by
    intro ex bs ts o h
    simp only [l48_0] at h ⊢
    cases h
  exO := fun o => by cases o <;> exact ⟨fun h => (by cases h), rfl⟩
  elim := fun β o k => by cases o <;> rfl
def W48_0 {σ : Type} (p : P48_0) : Yd ((A48_0 ⊕ O48_0) × σ) := fun xs q => match p, xs, q with
  | (), [.agg [.val (.int .i64 e2), .val (.int .i64 e3), .val (.int .i64 e4)], .val (.int .i32 e5)], (.inl (v6, v7), s) => (bif (bif (e5 == 34) then true else (e5 == 92)) then (ask (addBOk v7.size v7 (bcons 92 ByteArray.empty) 1) (bif (decide ((wu32 e5) ≤ 127)) then (ask (byteOk (wu8 e5)) (ask (addBOk (v7.size + (bcons 92 ByteArray.empty).size) (v7 ++ (bcons 92 ByteArray.empty)) (bcons (wu8 e5) ByteArray.empty) 1) (ask (([((v7 ++ (bcons 92 ByteArray.empty)).size + (bcons (wu8 e5) ByteArray.empty).size)] : List Nat) = [((v7 ++ (bcons 92 ByteArray.empty)) ++ (bcons (wu8 e5) ByteArray.empty)).size]) (some (true, (Sum.inl (v6, ((v7 ++ (bcons 92 ByteArray.empty)) ++ (bcons (wu8 e5) ByteArray.empty))), s)))))) else (bif (decide ((wu32 e5) ≤ 2047)) then (ask (byteOk (bOr .u8 192 (wu8 ((e5 : Int).fdiv (2 ^ (min (Int.toNat 6) 32)))))) (ask (byteOk (bOr .u8 128 (bAnd .u8 (wu8 e5) 63))) (ask (addBOk (v7.size + (bcons 92 ByteArray.empty).size) (v7 ++ (bcons 92 ByteArray.empty)) (bcons (bOr .u8 192 (wu8 ((e5 : Int).fdiv (2 ^ (min (Int.toNat 6) 32))))) (bcons (bOr .u8 128 (bAnd .u8 (wu8 e5) 63)) ByteArray.empty)) 1) (ask (([((v7 ++ (bcons 92 ByteArray.empty)).size + (bcons (bOr .u8 192 (wu8 ((e5 : Int).fdiv (2 ^ (min (Int.toNat 6) 32))))) (bcons (bOr .u8 128 (bAnd .u8 (wu8 e5) 63)) ByteArray.empty)).size)] : List Nat) = [((v7 ++ (bcons 92 ByteArray.empty)) ++ (bcons (bOr .u8 192 (wu8 ((e5 : Int).fdiv (2 ^ (min (Int.toNat 6) 32))))) (bcons (bOr .u8 128 (bAnd .u8 (wu8 e5) 63)) ByteArray.empty))).size]) (some (true, (Sum.inl (v6, ((v7 ++ (bcons 92 ByteArray.empty)) ++ (bcons (bOr .u8 192 (wu8 ((e5 : Int).fdiv (2 ^ (min (Int.toNat 6) 32))))) (bcons (bOr .u8 128 (bAnd .u8 (wu8 e5) 63)) ByteArray.empty)))), s))))))) else (bif (decide ((wu32 e5) < 55296)) then (ask (byteOk (bOr .u8 224 (wu8 ((e5 : Int).fdiv (2 ^ (min (Int.toNat 12) 32)))))) (ask (byteOk (bOr .u8 128 (bAnd .u8 (wu8 ((e5 : Int).fdiv (2 ^ (min (Int.toNat 6) 32)))) 63))) (ask (byteOk (bOr .u8 128 (bAnd .u8 (wu8 e5) 63))) (ask (addBOk (v7.size + (bcons 92 ByteArray.empty).size) (v7 ++ (bcons 92 ByteArray.empty)) (bcons (bOr .u8 224 (wu8 ((e5 : Int).fdiv (2 ^ (min (Int.toNat 12) 32))))) (bcons (bOr .u8 128 (bAnd .u8 (wu8 ((e5 : Int).fdiv (2 ^ (min (Int.toNat 6) 32)))) 63)) (bcons (bOr .u8 128 (bAnd .u8 (wu8 e5) 63)) ByteArray.empty))) 1) (ask (([((v7 ++ (bcons 92 ByteArray.empty)).size + (bcons (bOr .u8 224 (wu8 ((e5 : Int).fdiv (2 ^ (min (Int.toNat 12) 32))))) (bcons (bOr .u8 128 (bAnd .u8 (wu8 ((e5 : Int).fdiv (2 ^ (min (Int.toNat 6) 32)))) 63)) (bcons (bOr .u8 128 (bAnd .u8 (wu8 e5) 63)) ByteArray.empty))).size)] : List Nat) = [((v7 ++ (bcons 92 ByteArray.empty)) ++ (bcons (bOr .u8 224 (wu8 ((e5 : Int).fdiv (2 ^ (min (Int.toNat 12) 32))))) (bcons (bOr .u8 128 (bAnd .u8 (wu8 ((e5 : Int).fdiv (2 ^ (min (Int.toNat 6) 32)))) 63)) (bcons (bOr .u8 128 (bAnd .u8 (wu8 e5) 63)) ByteArray.empty)))).size]) (some (true, (Sum.inl (v6, ((v7 ++ (bcons 92 ByteArray.empty)) ++ (bcons (bOr .u8 224 (wu8 ((e5 : Int).fdiv (2 ^ (min (Int.toNat 12) 32))))) (bcons (bOr .u8 128 (bAnd .u8 (wu8 ((e5 : Int).fdiv (2 ^ (min (Int.toNat 6) 32)))) 63)) (bcons (bOr .u8 128 (bAnd .u8 (wu8 e5) 63)) ByteArray.empty))))), s)))))))) else (bif (decide (57343 < (wu32 e5))) then (bif (decide ((wu32 e5) ≤ 65535)) then (ask (byteOk (bOr .u8 224 (wu8 ((e5 : Int).fdiv (2 ^ (min (Int.toNat 12) 32)))))) (ask (byteOk (bOr .u8 128 (bAnd .u8 (wu8 ((e5 : Int).fdiv (2 ^ (min (Int.toNat 6) 32)))) 63))) (ask (byteOk (bOr .u8 128 (bAnd .u8 (wu8 e5) 63))) (ask (addBOk (v7.size + (bcons 92 ByteArray.empty).size) (v7 ++ (bcons 92 ByteArray.empty)) (bcons (bOr .u8 224 (wu8 ((e5 : Int).fdiv (2 ^ (min (Int.toNat 12) 32))))) (bcons (bOr .u8 128 (bAnd .u8 (wu8 ((e5 : Int).fdiv (2 ^ (min (Int.toNat 6) 32)))) 63)) (bcons (bOr .u8 128 (bAnd .u8 (wu8 e5) 63)) ByteArray.empty))) 1) (ask (([((v7 ++ (bcons 92 ByteArray.empty)).size + (bcons (bOr .u8 224 (wu8 ((e5 : Int).fdiv (2 ^ (min (Int.toNat 12) 32))))) (bcons (bOr .u8 128 (bAnd .u8 (wu8 ((e5 : Int).fdiv (2 ^ (min (Int.toNat 6) 32)))) 63)) (bcons (bOr .u8 128 (bAnd .u8 (wu8 e5) 63)) ByteArray.empty))).size)] : List Nat) = [((v7 ++ (bcons 92 ByteArray.empty)) ++ (bcons (bOr .u8 224 (wu8 ((e5 : Int).fdiv (2 ^ (min (Int.toNat 12) 32))))) (bcons (bOr .u8 128 (bAnd .u8 (wu8 ((e5 : Int).fdiv (2 ^ (min (Int.toNat 6) 32)))) 63)) (bcons (bOr .u8 128 (bAnd .u8 (wu8 e5) 63)) ByteArray.empty)))).size]) (some (true, (Sum.inl (v6, ((v7 ++ (bcons 92 ByteArray.empty)) ++ (bcons (bOr .u8 224 (wu8 ((e5 : Int).fdiv (2 ^ (min (Int.toNat 12) 32))))) (bcons (bOr .u8 128 (bAnd .u8 (wu8 ((e5 : Int).fdiv (2 ^ (min (Int.toNat 6) 32)))) 63)) (bcons (bOr .u8 128 (bAnd .u8 (wu8 e5) 63)) ByteArray.empty))))), s)))))))) else (bif (decide ((wu32 e5) > 65535)) then (bif (decide ((wu32 e5) ≤ 1114111)) then (ask (byteOk (bOr .u8 240 (wu8 ((e5 : Int).fdiv (2 ^ (min (Int.toNat 18) 32)))))) (ask (byteOk (bOr .u8 128 (bAnd .u8 (wu8 ((e5 : Int).fdiv (2 ^ (min (Int.toNat 12) 32)))) 63))) (ask (byteOk (bOr .u8 128 (bAnd .u8 (wu8 ((e5 : Int).fdiv (2 ^ (min (Int.toNat 6) 32)))) 63))) (ask (byteOk (bOr .u8 128 (bAnd .u8 (wu8 e5) 63))) (ask (addBOk (v7.size + (bcons 92 ByteArray.empty).size) (v7 ++ (bcons 92 ByteArray.empty)) (bcons (bOr .u8 240 (wu8 ((e5 : Int).fdiv (2 ^ (min (Int.toNat 18) 32))))) (bcons (bOr .u8 128 (bAnd .u8 (wu8 ((e5 : Int).fdiv (2 ^ (min (Int.toNat 12) 32)))) 63)) (bcons (bOr .u8 128 (bAnd .u8 (wu8 ((e5 : Int).fdiv (2 ^ (min (Int.toNat 6) 32)))) 63)) (bcons (bOr .u8 128 (bAnd .u8 (wu8 e5) 63)) ByteArray.empty)))) 1) (ask (([((v7 ++ (bcons 92 ByteArray.empty)).size + (bcons (bOr .u8 240 (wu8 ((e5 : Int).fdiv (2 ^ (min (Int.toNat 18) 32))))) (bcons (bOr .u8 128 (bAnd .u8 (wu8 ((e5 : Int).fdiv (2 ^ (min (Int.toNat 12) 32)))) 63)) (bcons (bOr .u8 128 (bAnd .u8 (wu8 ((e5 : Int).fdiv (2 ^ (min (Int.toNat 6) 32)))) 63)) (bcons (bOr .u8 128 (bAnd .u8 (wu8 e5) 63)) ByteArray.empty)))).size)] : List Nat) = [((v7 ++ (bcons 92 ByteArray.empty)) ++ (bcons (bOr .u8 240 (wu8 ((e5 : Int).fdiv (2 ^ (min (Int.toNat 18) 32))))) (bcons (bOr .u8 128 (bAnd .u8 (wu8 ((e5 : Int).fdiv (2 ^ (min (Int.toNat 12) 32)))) 63)) (bcons (bOr .u8 128 (bAnd .u8 (wu8 ((e5 : Int).fdiv (2 ^ (min (Int.toNat 6) 32)))) 63)) (bcons (bOr .u8 128 (bAnd .u8 (wu8 e5) 63)) ByteArray.empty))))).size]) (some (true, (Sum.inl (v6, ((v7 ++ (bcons 92 ByteArray.empty)) ++ (bcons (bOr .u8 240 (wu8 ((e5 : Int).fdiv (2 ^ (min (Int.toNat 18) 32))))) (bcons (bOr .u8 128 (bAnd .u8 (wu8 ((e5 : Int).fdiv (2 ^ (min (Int.toNat 12) 32)))) 63)) (bcons (bOr .u8 128 (bAnd .u8 (wu8 ((e5 : Int).fdiv (2 ^ (min (Int.toNat 6) 32)))) 63)) (bcons (bOr .u8 128 (bAnd .u8 (wu8 e5) 63)) ByteArray.empty)))))), s))))))))) else (ask (addBOk (v7.size + (bcons 92 ByteArray.empty).size) (v7 ++ (bcons 92 ByteArray.empty)) (bcons 239 (bcons 191 (bcons 189 ByteArray.empty))) 1) (ask (([((v7 ++ (bcons 92 ByteArray.empty)).size + (bcons 239 (bcons 191 (bcons 189 ByteArray.empty))).size)] : List Nat) = [((v7 ++ (bcons 92 ByteArray.empty)) ++ (bcons 239 (bcons 191 (bcons 189 ByteArray.empty)))).size]) (some (true, (Sum.inl (v6, ((v7 ++ (bcons 92 ByteArray.empty)) ++ (bcons 239 (bcons 191 (bcons 189 ByteArray.empty))))), s)))))) else (ask (addBOk (v7.size + (bcons 92 ByteArray.empty).size) (v7 ++ (bcons 92 ByteArray.empty)) (bcons 239 (bcons 191 (bcons 189 ByteArray.empty))) 1) (ask (([((v7 ++ (bcons 92 ByteArray.empty)).size + (bcons 239 (bcons 191 (bcons 189 ByteArray.empty))).size)] : List Nat) = [((v7 ++ (bcons 92 ByteArray.empty)) ++ (bcons 239 (bcons 191 (bcons 189 ByteArray.empty)))).size]) (some (true, (Sum.inl (v6, ((v7 ++ (bcons 92 ByteArray.empty)) ++ (bcons 239 (bcons 191 (bcons 189 ByteArray.empty))))), s))))))) else (bif (decide ((wu32 e5) > 65535)) then (bif (decide ((wu32 e5) ≤ 1114111)) then (ask (byteOk (bOr .u8 240 (wu8 ((e5 : Int).fdiv (2 ^ (min (Int.toNat 18) 32)))))) (ask (byteOk (bOr .u8 128 (bAnd .u8 (wu8 ((e5 : Int).fdiv (2 ^ (min (Int.toNat 12) 32)))) 63))) (ask (byteOk (bOr .u8 128 (bAnd .u8 (wu8 ((e5 : Int).fdiv (2 ^ (min (Int.toNat 6) 32)))) 63))) (ask (byteOk (bOr .u8 128 (bAnd .u8 (wu8 e5) 63))) (ask (addBOk (v7.size + (bcons 92 ByteArray.empty).size) (v7 ++ (bcons 92 ByteArray.empty)) (bcons (bOr .u8 240 (wu8 ((e5 : Int).fdiv (2 ^ (min (Int.toNat 18) 32))))) (bcons (bOr .u8 128 (bAnd .u8 (wu8 ((e5 : Int).fdiv (2 ^ (min (Int.toNat 12) 32)))) 63)) (bcons (bOr .u8 128 (bAnd .u8 (wu8 ((e5 : Int).fdiv (2 ^ (min (Int.toNat 6) 32)))) 63)) (bcons (bOr .u8 128 (bAnd .u8 (wu8 e5) 63)) ByteArray.empty)))) 1) (ask (([((v7 ++ (bcons 92 ByteArray.empty)).size + (bcons (bOr .u8 240 (wu8 ((e5 : Int).fdiv (2 ^ (min (Int.toNat 18) 32))))) (bcons (bOr .u8 128 (bAnd .u8 (wu8 ((e5 : Int).fdiv (2 ^ (min (Int.toNat 12) 32)))) 63)) (bcons (bOr .u8 128 (bAnd .u8 (wu8 ((e5 : Int).fdiv (2 ^ (min (Int.toNat 6) 32)))) 63)) (bcons (bOr .u8 128 (bAnd .u8 (wu8 e5) 63)) ByteArray.empty)))).size)] : List Nat) = [((v7 ++ (bcons 92 ByteArray.empty)) ++ (bcons (bOr .u8 240 (wu8 ((e5 : Int).fdiv (2 ^ (min (Int.toNat 18) 32))))) (bcons (bOr .u8 128 (bAnd .u8 (wu8 ((e5 : Int).fdiv (2 ^ (min (Int.toNat 12) 32)))) 63)) (bcons (bOr .u8 128 (bAnd .u8 (wu8 ((e5 : Int).fdiv (2 ^ (min (Int.toNat 6) 32)))) 63)) (bcons (bOr .u8 128 (bAnd .u8 (wu8 e5) 63)) ByteArray.empty))))).size]) (some (true, (Sum.inl (v6, ((v7 ++ (bcons 92 ByteArray.empty)) ++ (bcons (bOr .u8 240 (wu8 ((e5 : Int).fdiv (2 ^ (min (Int.toNat 18) 32))))) (bcons (bOr .u8 128 (bAnd .u8 (wu8 ((e5 : Int).fdiv (2 ^ (min (Int.toNat 12) 32)))) 63)) (bcons (bOr .u8 128 (bAnd .u8 (wu8 ((e5 : Int).fdiv (2 ^ (min (Int.toNat 6) 32)))) 63)) (bcons (bOr .u8 128 (bAnd .u8 (wu8 e5) 63)) ByteArray.empty)))))), s))))))))) else (ask (addBOk (v7.size + (bcons 92 ByteArray.empty).size) (v7 ++ (bcons 92 ByteArray.empty)) (bcons 239 (bcons 191 (bcons 189 ByteArray.empty))) 1) (ask (([((v7 ++ (bcons 92 ByteArray.empty)).size + (bcons 239 (bcons 191 (bcons 189 ByteArray.empty))).size)] : List Nat) = [((v7 ++ (bcons 92 ByteArray.empty)) ++ (bcons 239 (bcons 191 (bcons 189 ByteArray.empty)))).size]) (some (true, (Sum.inl (v6, ((v7 ++ (bcons 92 ByteArray.empty)) ++ (bcons 239 (bcons 191 (bcons 189 ByteArray.empty))))), s)))))) else (ask (addBOk (v7.size + (bcons 92 ByteArray.empty).size) (v7 ++ (bcons 92 ByteArray.empty)) (bcons 239 (bcons 191 (bcons 189 ByteArray.empty))) 1) (ask (([((v7 ++ (bcons 92 ByteArray.empty)).size + (bcons 239 (bcons 191 (bcons 189 ByteArray.empty))).size)] : List Nat) = [((v7 ++ (bcons 92 ByteArray.empty)) ++ (bcons 239 (bcons 191 (bcons 189 ByteArray.empty)))).size]) (some (true, (Sum.inl (v6, ((v7 ++ (bcons 92 ByteArray.empty)) ++ (bcons 239 (bcons 191 (bcons 189 ByteArray.empty))))), s))))))))))) else (bif (e5 == 10) then (ask (addBOk v7.size v7 (⟨#[92, 110]⟩ : ByteArray) 1) (ask (([(v7.size + (⟨#[92, 110]⟩ : ByteArray).size)] : List Nat) = [(v7 ++ (⟨#[92, 110]⟩ : ByteArray)).size]) (some (true, (Sum.inl (v6, (v7 ++ (⟨#[92, 110]⟩ : ByteArray))), s))))) else (bif (bif (decide (e5 < 32)) then true else (e5 == 127)) then ((sidx v6 e2).bind fun c8 => (ask (addBOk v7.size v7 (⟨#[92, 120]⟩ : ByteArray) 1) ((sidx (⟨#[48, 49, 50, 51, 52, 53, 54, 55, 56, 57, 97, 98, 99, 100, 101, 102]⟩ : ByteArray) (((c8.toNat : Int) : Int).fdiv (2 ^ (min (Int.toNat 4) 8)))).bind fun c9 => (ask (byteOk (c9.toNat : Int)) (ask (addBOk (v7.size + (⟨#[92, 120]⟩ : ByteArray).size) (v7 ++ (⟨#[92, 120]⟩ : ByteArray)) (bcons (c9.toNat : Int) ByteArray.empty) 1) ((sidx (⟨#[48, 49, 50, 51, 52, 53, 54, 55, 56, 57, 97, 98, 99, 100, 101, 102]⟩ : ByteArray) (bAnd .u8 (c8.toNat : Int) 15)).bind fun c10 => (ask (byteOk (c10.toNat : Int)) (ask (addBOk ((v7 ++ (⟨#[92, 120]⟩ : ByteArray)).size + (bcons (c9.toNat : Int) ByteArray.empty).size) ((v7 ++ (⟨#[92, 120]⟩ : ByteArray)) ++ (bcons (c9.toNat : Int) ByteArray.empty)) (bcons (c10.toNat : Int) ByteArray.empty) 1) (ask (([(((v7 ++ (⟨#[92, 120]⟩ : ByteArray)) ++ (bcons (c9.toNat : Int) ByteArray.empty)).size + (bcons (c10.toNat : Int) ByteArray.empty).size)] : List Nat) = [(((v7 ++ (⟨#[92, 120]⟩ : ByteArray)) ++ (bcons (c9.toNat : Int) ByteArray.empty)) ++ (bcons (c10.toNat : Int) ByteArray.empty)).size]) (some (true, (Sum.inl (v6, (((v7 ++ (⟨#[92, 120]⟩ : ByteArray)) ++ (bcons (c9.toNat : Int) ByteArray.empty)) ++ (bcons (c10.toNat : Int) ByteArray.empty))), s)))))))))))) else (bif (decide ((wu32 e5) ≤ 127)) then (ask (byteOk (wu8 e5)) (ask (addBOk v7.size v7 (bcons (wu8 e5) ByteArray.empty) 1) (ask (([(v7.size + (bcons (wu8 e5) ByteArray.empty).size)] : List Nat) = [(v7 ++ (bcons (wu8 e5) ByteArray.empty)).size]) (some (true, (Sum.inl (v6, (v7 ++ (bcons (wu8 e5) ByteArray.empty))), s)))))) else (bif (decide ((wu32 e5) ≤ 2047)) then (ask (byteOk (bOr .u8 192 (wu8 ((e5 : Int).fdiv (2 ^ (min (Int.toNat 6) 32)))))) (ask (byteOk (bOr .u8 128 (bAnd .u8 (wu8 e5) 63))) (ask (addBOk v7.size v7 (bcons (bOr .u8 192 (wu8 ((e5 : Int).fdiv (2 ^ (min (Int.toNat 6) 32))))) (bcons (bOr .u8 128 (bAnd .u8 (wu8 e5) 63)) ByteArray.empty)) 1) (ask (([(v7.size + (bcons (bOr .u8 192 (wu8 ((e5 : Int).fdiv (2 ^ (min (Int.toNat 6) 32))))) (bcons (bOr .u8 128 (bAnd .u8 (wu8 e5) 63)) ByteArray.empty)).size)] : List Nat) = [(v7 ++ (bcons (bOr .u8 192 (wu8 ((e5 : Int).fdiv (2 ^ (min (Int.toNat 6) 32))))) (bcons (bOr .u8 128 (bAnd .u8 (wu8 e5) 63)) ByteArray.empty))).size]) (some (true, (Sum.inl (v6, (v7 ++ (bcons (bOr .u8 192 (wu8 ((e5 : Int).fdiv (2 ^ (min (Int.toNat 6) 32))))) (bcons (bOr .u8 128 (bAnd .u8 (wu8 e5) 63)) ByteArray.empty)))), s))))))) else (bif (decide ((wu32 e5) < 55296)) then (ask (byteOk (bOr .u8 224 (wu8 ((e5 : Int).fdiv (2 ^ (min (Int.toNat 12) 32)))))) (ask (byteOk (bOr .u8 128 (bAnd .u8 (wu8 ((e5 : Int).fdiv (2 ^ (min (Int.toNat 6) 32)))) 63))) (ask (byteOk (bOr .u8 128 (bAnd .u8 (wu8 e5) 63))) (ask (addBOk v7.size v7 (bcons (bOr .u8 224 (wu8 ((e5 : Int).fdiv (2 ^ (min (Int.toNat 12) 32))))) (bcons (bOr .u8 128 (bAnd .u8 (wu8 ((e5 : Int).fdiv (2 ^ (min (Int.toNat 6) 32)))) 63)) (bcons (bOr .u8 128 (bAnd .u8 (wu8 e5) 63)) ByteArray.empty))) 1) (ask (([(v7.size + (bcons (bOr .u8 224 (wu8 ((e5 : Int).fdiv (2 ^ (min (Int.toNat 12) 32))))) (bcons (bOr .u8 128 (bAnd .u8 (wu8 ((e5 : Int).fdiv (2 ^ (min (Int.toNat 6) 32)))) 63)) (bcons (bOr .u8 128 (bAnd .u8 (wu8 e5) 63)) ByteArray.empty))).size)] : List Nat) = [(v7 ++ (bcons (bOr .u8 224 (wu8 ((e5 : Int).fdiv (2 ^ (min (Int.toNat 12) 32))))) (bcons (bOr .u8 128 (bAnd .u8 (wu8 ((e5 : Int).fdiv (2 ^ (min (Int.toNat 6) 32)))) 63)) (bcons (bOr .u8 128 (bAnd .u8 (wu8 e5) 63)) ByteArray.empty)))).size]) (some (true, (Sum.inl (v6, (v7 ++ (bcons (bOr .u8 224 (wu8 ((e5 : Int).fdiv (2 ^ (min (Int.toNat 12) 32))))) (bcons (bOr .u8 128 (bAnd .u8 (wu8 ((e5 : Int).fdiv (2 ^ (min (Int.toNat 6) 32)))) 63)) (bcons (bOr .u8 128 (bAnd .u8 (wu8 e5) 63)) ByteArray.empty))))), s)))))))) else (bif (decide (57343 < (wu32 e5))) then (bif (decide ((wu32 e5) ≤ 65535)) then (ask (byteOk (bOr .u8 224 (wu8 ((e5 : Int).fdiv (2 ^ (min (Int.toNat 12) 32)))))) (ask (byteOk (bOr .u8 128 (bAnd .u8 (wu8 ((e5 : Int).fdiv (2 ^ (min (Int.toNat 6) 32)))) 63))) (ask (byteOk (bOr .u8 128 (bAnd .u8 (wu8 e5) 63))) (ask (addBOk v7.size v7 (bcons (bOr .u8 224 (wu8 ((e5 : Int).fdiv (2 ^ (min (Int.toNat 12) 32))))) (bcons (bOr .u8 128 (bAnd .u8 (wu8 ((e5 : Int).fdiv (2 ^ (min (Int.toNat 6) 32)))) 63)) (bcons (bOr .u8 128 (bAnd .u8 (wu8 e5) 63)) ByteArray.empty))) 1) (ask (([(v7.size + (bcons (bOr .u8 224 (wu8 ((e5 : Int).fdiv (2 ^ (min (Int.toNat 12) 32))))) (bcons (bOr .u8 128 (bAnd .u8 (wu8 ((e5 : Int).fdiv (2 ^ (min (Int.toNat 6) 32)))) 63)) (bcons (bOr .u8 128 (bAnd .u8 (wu8 e5) 63)) ByteArray.empty))).size)] : List Nat) = [(v7 ++ (bcons (bOr .u8 224 (wu8 ((e5 : Int).fdiv (2 ^ (min (Int.toNat 12) 32))))) (bcons (bOr .u8 128 (bAnd .u8 (wu8 ((e5 : Int).fdiv (2 ^ (min (Int.toNat 6) 32)))) 63)) (bcons (bOr .u8 128 (bAnd .u8 (wu8 e5) 63)) ByteArray.empty)))).size]) (some (true, (Sum.inl (v6, (v7 ++ (bcons (bOr .u8 224 (wu8 ((e5 : Int).fdiv (2 ^ (min (Int.toNat 12) 32))))) (bcons (bOr .u8 128 (bAnd .u8 (wu8 ((e5 : Int).fdiv (2 ^ (min (Int.toNat 6) 32)))) 63)) (bcons (bOr .u8 128 (bAnd .u8 (wu8 e5) 63)) ByteArray.empty))))), s)))))))) else (bif (decide ((wu32 e5) > 65535)) then (bif (decide ((wu32 e5) ≤ 1114111)) then (ask (byteOk (bOr .u8 240 (wu8 ((e5 : Int).fdiv (2 ^ (min (Int.toNat 18) 32)))))) (ask (byteOk (bOr .u8 128 (bAnd .u8 (wu8 ((e5 : Int).fdiv (2 ^ (min (Int.toNat 12) 32)))) 63))) (ask (byteOk (bOr .u8 128 (bAnd .u8 (wu8 ((e5 : Int).fdiv (2 ^ (min (Int.toNat 6) 32)))) 63))) (ask (byteOk (bOr .u8 128 (bAnd .u8 (wu8 e5) 63))) (ask (addBOk v7.size v7 (bcons (bOr .u8 240 (wu8 ((e5 : Int).fdiv (2 ^ (min (Int.toNat 18) 32))))) (bcons (bOr .u8 128 (bAnd .u8 (wu8 ((e5 : Int).fdiv (2 ^ (min (Int.toNat 12) 32)))) 63)) (bcons (bOr .u8 128 (bAnd .u8 (wu8 ((e5 : Int).fdiv (2 ^ (min (Int.toNat 6) 32)))) 63)) (bcons (bOr .u8 128 (bAnd .u8 (wu8 e5) 63)) ByteArray.empty)))) 1) (ask (([(v7.size + (bcons (bOr .u8 240 (wu8 ((e5 : Int).fdiv (2 ^ (min (Int.toNat 18) 32))))) (bcons (bOr .u8 128 (bAnd .u8 (wu8 ((e5 : Int).fdiv (2 ^ (min (Int.toNat 12) 32)))) 63)) (bcons (bOr .u8 128 (bAnd .u8 (wu8 ((e5 : Int).fdiv (2 ^ (min (Int.toNat 6) 32)))) 63)) (bcons (bOr .u8 128 (bAnd .u8 (wu8 e5) 63)) ByteArray.empty)))).size)] : List Nat) = [(v7 ++ (bcons (bOr .u8 240 (wu8 ((e5 : Int).fdiv (2 ^ (min (Int.toNat 18) 32))))) (bcons (bOr .u8 128 (bAnd .u8 (wu8 ((e5 : Int).fdiv (2 ^ (min (Int.toNat 12) 32)))) 63)) (bcons (bOr .u8 128 (bAnd .u8 (wu8 ((e5 : Int).fdiv (2 ^ (min (Int.toNat 6) 32)))) 63)) (bcons (bOr .u8 128 (bAnd .u8 (wu8 e5) 63)) ByteArray.empty))))).size]) (some (true, (Sum.inl (v6, (v7 ++ (bcons (bOr .u8 240 (wu8 ((e5 : Int).fdiv (2 ^ (min (Int.toNat 18) 32))))) (bcons (bOr .u8 128 (bAnd .u8 (wu8 ((e5 : Int).fdiv (2 ^ (min (Int.toNat 12) 32)))) 63)) (bcons (bOr .u8 128 (bAnd .u8 (wu8 ((e5 : Int).fdiv (2 ^ (min (Int.toNat 6) 32)))) 63)) (bcons (bOr .u8 128 (bAnd .u8 (wu8 e5) 63)) ByteArray.empty)))))), s))))))))) else (ask (addBOk v7.size v7 (bcons 239 (bcons 191 (bcons 189 ByteArray.empty))) 1) (ask (([(v7.size + (bcons 239 (bcons 191 (bcons 189 ByteArray.empty))).size)] : List Nat) = [(v7 ++ (bcons 239 (bcons 191 (bcons 189 ByteArray.empty)))).size]) (some (true, (Sum.inl (v6, (v7 ++ (bcons 239 (bcons 191 (bcons 189 ByteArray.empty))))), s)))))) else (ask (addBOk v7.size v7 (bcons 239 (bcons 191 (bcons 189 ByteArray.empty))) 1) (ask (([(v7.size + (bcons 239 (bcons 191 (bcons 189 ByteArray.empty))).size)] : List Nat) = [(v7 ++ (bcons 239 (bcons 191 (bcons 189 ByteArray.empty)))).size]) (some (true, (Sum.inl (v6, (v7 ++ (bcons 239 (bcons 191 (bcons 189 ByteArray.empty))))), s))))))) else (bif (decide ((wu32 e5) > 65535)) then (bif (decide ((wu32 e5) ≤ 1114111)) then (ask (byteOk (bOr .u8 240 (wu8 ((e5 : Int).fdiv (2 ^ (min (Int.toNat 18) 32)))))) (ask (byteOk (bOr .u8 128 (bAnd .u8 (wu8 ((e5 : Int).fdiv (2 ^ (min (Int.toNat 12) 32)))) 63))) (ask (byteOk (bOr .u8 128 (bAnd .u8 (wu8 ((e5 : Int).fdiv (2 ^ (min (Int.toNat 6) 32)))) 63))) (ask (byteOk (bOr .u8 128 (bAnd .u8 (wu8 e5) 63))) (ask (addBOk v7.size v7 (bcons (bOr .u8 240 (wu8 ((e5 : Int).fdiv (2 ^ (min (Int.toNat 18) 32))))) (bcons (bOr .u8 128 (bAnd .u8 (wu8 ((e5 : Int).fdiv (2 ^ (min (Int.toNat 12) 32)))) 63)) (bcons (bOr .u8 128 (bAnd .u8 (wu8 ((e5 : Int).fdiv (2 ^ (min (Int.toNat 6) 32)))) 63)) (bcons (bOr .u8 128 (bAnd .u8 (wu8 e5) 63)) ByteArray.empty)))) 1) (ask (([(v7.size + (bcons (bOr .u8 240 (wu8 ((e5 : Int).fdiv (2 ^ (min (Int.toNat 18) 32))))) (bcons (bOr .u8 128 (bAnd .u8 (wu8 ((e5 : Int).fdiv (2 ^ (min (Int.toNat 12) 32)))) 63)) (bcons (bOr .u8 128 (bAnd .u8 (wu8 ((e5 : Int).fdiv (2 ^ (min (Int.toNat 6) 32)))) 63)) (bcons (bOr .u8 128 (bAnd .u8 (wu8 e5) 63)) ByteArray.empty)))).size)] : List Nat) = [(v7 ++ (bcons (bOr .u8 240 (wu8 ((e5 : Int).fdiv (2 ^ (min (Int.toNat 18) 32))))) (bcons (bOr .u8 128 (bAnd .u8 (wu8 ((e5 : Int).fdiv (2 ^ (min (Int.toNat 12) 32)))) 63)) (bcons (bOr .u8 128 (bAnd .u8 (wu8 ((e5 : Int).fdiv (2 ^ (min (Int.toNat 6) 32)))) 63)) (bcons (bOr .u8 128 (bAnd .u8 (wu8 e5) 63)) ByteArray.empty))))).size]) (some (true, (Sum.inl (v6, (v7 ++ (bcons (bOr .u8 240 (wu8 ((e5 : Int).fdiv (2 ^ (min (Int.toNat 18) 32))))) (bcons (bOr .u8 128 (bAnd .u8 (wu8 ((e5 : Int).fdiv (2 ^ (min (Int.toNat 12) 32)))) 63)) (bcons (bOr .u8 128 (bAnd .u8 (wu8 ((e5 : Int).fdiv (2 ^ (min (Int.toNat 6) 32)))) 63)) (bcons (bOr .u8 128 (bAnd .u8 (wu8 e5) 63)) ByteArray.empty)))))), s))))))))) else (ask (addBOk v7.size v7 (bcons 239 (bcons 191 (bcons 189 ByteArray.empty))) 1) (ask (([(v7.size + (bcons 239 (bcons 191 (bcons 189 ByteArray.empty))).size)] : List Nat) = [(v7 ++ (bcons 239 (bcons 191 (bcons 189 ByteArray.empty)))).size]) (some (true, (Sum.inl (v6, (v7 ++ (bcons 239 (bcons 191 (bcons 189 ByteArray.empty))))), s)))))) else (ask (addBOk v7.size v7 (bcons 239 (bcons 191 (bcons 189 ByteArray.empty))) 1) (ask (([(v7.size + (bcons 239 (bcons 191 (bcons 189 ByteArray.empty))).size)] : List Nat) = [(v7 ++ (bcons 239 (bcons 191 (bcons 189 ByteArray.empty)))).size]) (some (true, (Sum.inl (v6, (v7 ++ (bcons 239 (bcons 191 (bcons 189 ByteArray.empty))))), s)))))))))))))
  | _, _, _ => none
def d48 (ds : List D) : Option (ByteArray) := match ds with
  | [.val (.string a0)] => some a0
  | _ => none
def r48 (v : AV) : Option (ByteArray) := match toPR v with
  | some (.one (.val (.string a1))) => some a1
  | _ => none
def n48 : ByteArray → Option (ByteArray) := fun a0 => (ask (addBOk 0 ByteArray.empty (bcons 34 ByteArray.empty) 1) (ask (([(ByteArray.empty.size + (bcons 34 ByteArray.empty).size)] : List Nat) = [(ByteArray.empty ++ (bcons 34 ByteArray.empty)).size]) ((n83 (W48_0 ()) a0 (Sum.inl (a0, (ByteArray.empty ++ (bcons 34 ByteArray.empty))), ())).bind fun p11 => match p11.2.1 with | .inl z12 => (ask (addBOk (z12.2).size (z12.2) (bcons 34 ByteArray.empty) 1) (ask (((z12.2).size + (bcons 34 ByteArray.empty).size) = ((z12.2) ++ (bcons 34 ByteArray.empty)).size ∧ strOk ((z12.2) ++ (bcons 34 ByteArray.empty))) (some ((z12.2) ++ (bcons 34 ByteArray.empty))))) | .inr o13 => nomatch o13)))
def e48 : PureE := mkE d48 n48 (fun a1 => .one (.val (.string a1)))
noncomputable def g48 (gl : Nat → Option (List D)) {σ : Type} : Nat → Option (SegE σ)
  | 0 => some (l48_0.seg (cfgOf Tryd.prog (tabs gl) tS3) 48 0 (rangeG Tryd.f48 0) 83 itDec83 encL83 (fun i σ Y => n83 Y i) σ W48_0)
  | _ => none
theorem E48_0 {σ : Type} (Y : Yd σ) : ∀ p x a (s : σ), W48_0 p (l48_0.encX x) (.inl a, s) = evK (cfgOf Tryd.prog (tabs gl) tS3) (toldOf tS3) Y (inlN (cfgOf Tryd.prog (tabs gl) tS3) (toldOf tS3) Y) (g48 gl) 48 (.seq (rangeA Tryd.f48 0) (rangeB Tryd.f48 0)) (l48_0.encS p x a s) (fun ex st' => l48_0.next ex st') := by
  intro p x a s
  obtain ⟨e2, e3, e4, e5⟩ := x
  obtain ⟨v6, v7⟩ := a
  kernel_rfl
theorem D48_0 {σ : Type} : ∀ p xs q r, W48_0 (σ := σ) p xs q = some r → ∃ x a s, xs = l48_0.encX x ∧ q = (.inl a, s) := by
  intro p xs q r h
  unfold W48_0 at h
  split at h
  · rename_i e2 e3 e4 e5 v6 v7 s
    exact ⟨(e2, e3, e4, e5), (v6, v7), _, rfl, rfl⟩
  · cases h
theorem Q48_0 {σ : Type} (hl : LibFits gl) (Y : Yd σ) (_ : Bool) : SegOk (cfgOf Tryd.prog (tabs gl) tS3) (evFn (cfgOf Tryd.prog (tabs gl) tS3) 9) 48 false Y (l48_0.seg (cfgOf Tryd.prog (tabs gl) tS3) 48 0 (rangeG Tryd.f48 0) 83 itDec83 encL83 (fun i σ Y => n83 Y i) σ W48_0) (.block 0 (.rangeFunc (rangeG Tryd.f48 0) (rangeP Tryd.f48 0) (rangeA Tryd.f48 0) (rangeB Tryd.f48 0))) :=
  told_range (okS3 hl) k48_0 (by kernel_rfl) (by kernel_rfl) (by kernel_rfl) (segs_no (by kernel_rfl)) D48_0 (E48_0 Y) (J83 hl) S83
theorem N48 : ∀ a, n48 a = bodyK (cfgOf Tryd.prog (tabs gl) tS3) (toldOf tS3) noY (inlN (cfgOf Tryd.prog (tabs gl) tS3) (toldOf tS3) noY) (g48 gl) 48 Tryd.f48 (((fun a0 => [.val (.string a0)] : (ByteArray) → List D) a).map .d) [] [] () (fun v _ _ _ => r48 v) := by
  intro a0
  kernel_rfl
noncomputable def t48 : Tab := (48, e48) :: tS3
theorem ok48 (hl : LibFits gl) : TabOk Tryd.prog gl t48 :=
  told_fn (okS3 hl) mixed oddOk Tryd.func48 (by kernel_rfl) (by kernel_rfl) (by kernel_rfl) (fun p hp e he => by
    have hq : segsOf (σ := Unit) (g48 gl (σ := Unit)) (bodyOf Tryd.f48) = [(0, .rangeFunc (rangeG Tryd.f48 0) (rangeP Tryd.f48 0) (rangeA Tryd.f48 0) (rangeB Tryd.f48 0))] := by kernel_rfl
    rw [hq] at hp
    simp only [List.mem_cons, List.not_mem_nil, or_false] at hp
    subst hp
    cases he
    exact Q48_0 hl _ true)
    (args := fun a0 => [.val (.string a0)]) (res := r48)
    (fun ds a h => by
      unfold d48 at h
      split at h
      · cases h; rfl
      · cases h)
    (fun v r h => by
      unfold r48 at h
      split at h
      · rename_i hv; cases h; exact hv
      · cases h)
    N48
def d76 (ds : List D) : Option (ByteArray) := match ds with
  | [.val (.string a0)] => some a0
  | _ => none
def r76 (v : AV) : Option (Int × Bool) := match toPR v with
  | some (.many [.val (.int .u8 a1), .val (.bool a2)]) => some (a1, a2)
  | _ => none
def n76 : ByteArray → Option (Int × Bool) := fun a0 => (bif (decide ((a0.size : Int) < 2)) then (some (0, false)) else (ask (cutOk (0 : Int) 2 a0.size) ((n102 ((a0.extract (Int.toNat 0) (Int.toNat 2)), 16, 8)).bind fun y3 => (bif y3.2 then (some ((wu8 y3.1), false)) else (some ((wu8 y3.1), true))))))
def e76 : PureE := mkE d76 n76 (fun (a1, a2) => .many [.val (.int .u8 a1), .val (.bool a2)])
def g76 {σ : Type} : Nat → Option (SegE σ)
  | _ => none
theorem N76 : ∀ a, n76 a = bodyK (cfgOf Tryd.prog (tabs gl) tS3) (toldOf tS3) noY (inlN (cfgOf Tryd.prog (tabs gl) tS3) (toldOf tS3) noY) g76 76 Tryd.f76 (((fun a0 => [.val (.string a0)] : (ByteArray) → List D) a).map .d) [] [] () (fun v _ _ _ => r76 v) := by
  intro a0
  kernel_rfl
noncomputable def t76 : Tab := (76, e76) :: tS3
theorem ok76 (hl : LibFits gl) : TabOk Tryd.prog gl t76 :=
  told_fn (okS3 hl) mixed oddOk Tryd.func76 (by kernel_rfl) (by kernel_rfl) (by kernel_rfl) (segs_no (by kernel_rfl))
    (args := fun a0 => [.val (.string a0)]) (res := r76)
    (fun ds a h => by
      unfold d76 at h
      split at h
      · cases h; rfl
      · cases h)
    (fun v r h => by
      unfold r76 at h
      split at h
      · rename_i hv; cases h; exact hv
      · cases h)
    N76
noncomputable def tS4 : Tab := (36, e36) :: (35, e35) :: (52, e52) :: (40, e40) :: (33, e33) :: (28, e28) :: (48, e48) :: (76, e76) :: tS3
theorem okS4 (hl : LibFits gl) : TabOk Tryd.prog gl tS4 :=
  TabOk.cons (TabOk.cons (TabOk.cons (TabOk.cons (TabOk.cons (TabOk.cons (TabOk.cons (TabOk.cons (okS3 hl) ((ok76 hl).fair (76, e76) (List.mem_cons_self (l := tS3))) ((ok76 hl).spec (76, e76) (List.mem_cons_self (l := tS3)))) ((ok48 hl).fair (48, e48) (List.mem_cons_self (l := tS3))) ((ok48 hl).spec (48, e48) (List.mem_cons_self (l := tS3)))) ((ok28 hl).fair (28, e28) (List.mem_cons_self (l := tS3))) ((ok28 hl).spec (28, e28) (List.mem_cons_self (l := tS3)))) ((ok33 hl).fair (33, e33) (List.mem_cons_self (l := tS3))) ((ok33 hl).spec (33, e33) (List.mem_cons_self (l := tS3)))) ((ok40 hl).fair (40, e40) (List.mem_cons_self (l := tS3))) ((ok40 hl).spec (40, e40) (List.mem_cons_self (l := tS3)))) ((ok52 hl).fair (52, e52) (List.mem_cons_self (l := tS3))) ((ok52 hl).spec (52, e52) (List.mem_cons_self (l := tS3)))) ((ok35 hl).fair (35, e35) (List.mem_cons_self (l := tS3))) ((ok35 hl).spec (35, e35) (List.mem_cons_self (l := tS3)))) ((ok36 hl).fair (36, e36) (List.mem_cons_self (l := tS3))) ((ok36 hl).spec (36, e36) (List.mem_cons_self (l := tS3)))
def d50 (ds : List D) : Option (ByteArray × Int) := match ds with
  | [.val (.string a0), .val (.int .i64 a1)] => some (a0, a1)
  | _ => none
def r50 (v : AV) : Option (ByteArray × Int) := match toPR v with
  | some (.many [.val (.string a2), .val (.int .i64 a3)]) => some (a2, a3)
  | _ => none
def n50 : ByteArray × Int → Option (ByteArray × Int) := fun (a0, a1) => (bif (bif (decide (a1 < 0)) then true else (decide (a1 > 4096))) then (some ((⟨#[]⟩ : ByteArray), 23)) else ((n52 a0).bind fun y4 => ((n82 ((⟨#[32]⟩ : ByteArray), (if 0 > (w64 (a1 - y4)) then 0 else (w64 (a1 - y4))))).bind fun y5 => (ask (catOk a0 y5) (some ((a0 ++ y5), 0))))))
def e50 : PureE := mkE d50 n50 (fun (a2, a3) => .many [.val (.string a2), .val (.int .i64 a3)])
def g50 {σ : Type} : Nat → Option (SegE σ)
  | _ => none
theorem N50 : ∀ a, n50 a = bodyK (cfgOf Tryd.prog (tabs gl) tS4) (toldOf tS4) noY (inlN (cfgOf Tryd.prog (tabs gl) tS4) (toldOf tS4) noY) g50 50 Tryd.f50 (((fun (a0, a1) => [.val (.string a0), .val (.int .i64 a1)] : (ByteArray × Int) → List D) a).map .d) [] [] () (fun v _ _ _ => r50 v) := by
  intro a
  obtain ⟨a0, a1⟩ := a
  kernel_rfl
noncomputable def t50 : Tab := (50, e50) :: tS4
theorem ok50 (hl : LibFits gl) : TabOk Tryd.prog gl t50 :=
  told_fn (okS4 hl) mixed oddOk Tryd.func50 (by kernel_rfl) (by kernel_rfl) (by kernel_rfl) (segs_no (by kernel_rfl))
    (args := fun (a0, a1) => [.val (.string a0), .val (.int .i64 a1)]) (res := r50)
    (fun ds a h => by
      unfold d50 at h
      split at h
      · cases h; rfl
      · cases h)
    (fun v r h => by
      unfold r50 at h
      split at h
      · rename_i hv; cases h; exact hv
      · cases h)
    N50
noncomputable def tS5 : Tab := (50, e50) :: tS4
theorem okS5 (hl : LibFits gl) : TabOk Tryd.prog gl tS5 :=
  TabOk.cons (okS4 hl) ((ok50 hl).fair (50, e50) (List.mem_cons_self (l := tS4))) ((ok50 hl).spec (50, e50) (List.mem_cons_self (l := tS4)))
abbrev A46_0 := ByteArray × ByteArray × ByteArray × Int
inductive O46_0 where
  | x0 (o11 : ByteArray) (o12 : Int) (q13 : Nat)
  | x1 (o17 : ByteArray) (o18 : ByteArray)
def l46_0 : LoopS A46_0 O46_0 where
  n := 91
  ks := [0, 4, 5, 6]
  kso := [0, 2, 3, 5]
  m := 0
  mt := 1
  decV := fun vs bs ts => match vs, bs, ts with
    | [.d (.val (.string v5)), .d (.val (.string v6)), .obs 0 v7, .d (.val (.int .i64 v8))], [], [_] => some (v5, v6, v7, v8)
    | _, _, _ => none
  encV := fun (v5, v6, v7, v8) => [.d (.val (.string v5)), .d (.val (.string v6)), .obs 0 v7, .d (.val (.int .i64 v8))]
  encB := fun (v5, v6, v7, v8) => []
  tk := fun (v5, v6, v7, v8) => [v7.size]
  decO := fun ex vs bs ts => match ex, vs, bs, ts with
    | .ret, [.undef, .d (.val (.string o11)), .d (.val (.int .i64 o12)), .undef], [], [q13] => some (.x0 o11 o12 q13)
    | .normal, [.d (.val (.string o17)), .undef, .undef, .obs 0 o18], [], [_] => some (.x1 o17 o18)
    | _, _, _, _ => none
  exO := fun x => match x with
    | .x0 o11 o12 q13 => .ret
    | .x1 o17 o18 => .normal
  outV := fun x => match x with
    | .x0 o11 o12 q13 => [.undef, .d (.val (.string o11)), .d (.val (.int .i64 o12)), .undef]
    | .x1 o17 o18 => [.d (.val (.string o17)), .undef, .undef, .obs 0 o18]
  outB := fun x => match x with
    | .x0 o11 o12 q13 => []
    | .x1 o17 o18 => []
  tkO := fun x => match x with
    | .x0 o11 o12 q13 => [q13]
    | .x1 o17 o18 => [o18.size]
  elim := fun x k => match x with
    | .x0 o11 o12 q13 => k .ret [.undef, .d (.val (.string o11)), .d (.val (.int .i64 o12)), .undef] [] [q13]
    | .x1 o17 o18 => k .normal [.d (.val (.string o17)), .undef, .undef, .obs 0 o18] [] [o18.size]
theorem k46_0 : l46_0.Ok where
  ok1 := by kernel_rfl
  ok2 := by kernel_rfl
  dec := by
    intro vs bs ts a h
    simp only [l46_0] at h ⊢
    split at h
    · cases h; exact ⟨rfl, rfl⟩
    · cases h
  out := by
    intro ex vs bs ts o h
    simp only [l46_0] at h ⊢
    split at h
    · cases h; exact ⟨rfl, rfl, rfl⟩
    · cases h; exact ⟨rfl, rfl, rfl⟩
    · cases h
  len := fun _ => ⟨rfl, rfl⟩
  elim := fun β o k => by cases o <;> rfl
def L46_0 {σ : Type} : Nat → A46_0 → σ → Option (O46_0 × σ)
  | 0, _, _ => none
  | n+1, (v5, v6, v7, v8), s => (bif (decide (v8 < (v6.size : Int))) then ((sidx v6 v8).bind fun c9 => (bif ((c9.toNat : Int) != 92) then ((sidx v6 v8).bind fun c10 => (ask (byteOk (c10.toNat : Int)) (ask (addBOk v7.size v7 (bcons (c10.toNat : Int) ByteArray.empty) 1) (ask (([(v7.size + (bcons (c10.toNat : Int) ByteArray.empty).size)] : List Nat) = [(v7 ++ (bcons (c10.toNat : Int) ByteArray.empty)).size]) (L46_0 n (v5, v6, (v7 ++ (bcons (c10.toNat : Int) ByteArray.empty)), (w64 (v8 + 1))) s))))) else (bif (decide ((w64 (v8 + 1)) ≥ (v6.size : Int))) then (ask (([v7.size] : List Nat) = [v7.size]) (some (O46_0.x0 (⟨#[]⟩ : ByteArray) 24 v7.size, s))) else ((sidx v6 (w64 (v8 + 1))).bind fun c14 => (bif ((c14.toNat : Int) == 110) then (ask (addBOk v7.size v7 (bcons 10 ByteArray.empty) 1) (ask (([(v7.size + (bcons 10 ByteArray.empty).size)] : List Nat) = [(v7 ++ (bcons 10 ByteArray.empty)).size]) (L46_0 n (v5, v6, (v7 ++ (bcons 10 ByteArray.empty)), (w64 ((w64 (v8 + 1)) + 1))) s))) else (bif ((c14.toNat : Int) == 120) then (ask (cutOk (w64 ((w64 (v8 + 1)) + 1)) (v6.size : Int) v6.size) ((n76 (v6.extract (Int.toNat (w64 ((w64 (v8 + 1)) + 1))) (Int.toNat (v6.size : Int)))).bind fun y15 => (bif (!y15.2) then (ask (([v7.size] : List Nat) = [v7.size]) (some (O46_0.x0 (⟨#[]⟩ : ByteArray) 24 v7.size, s))) else (ask (byteOk y15.1) (ask (addBOk v7.size v7 (bcons y15.1 ByteArray.empty) 1) (ask (([(v7.size + (bcons y15.1 ByteArray.empty).size)] : List Nat) = [(v7 ++ (bcons y15.1 ByteArray.empty)).size]) (L46_0 n (v5, v6, (v7 ++ (bcons y15.1 ByteArray.empty)), (w64 ((w64 ((w64 (v8 + 1)) + 2)) + 1))) s))))))) else ((sidx v6 (w64 (v8 + 1))).bind fun c16 => (ask (byteOk (c16.toNat : Int)) (ask (addBOk v7.size v7 (bcons (c16.toNat : Int) ByteArray.empty) 1) (ask (([(v7.size + (bcons (c16.toNat : Int) ByteArray.empty).size)] : List Nat) = [(v7 ++ (bcons (c16.toNat : Int) ByteArray.empty)).size]) (L46_0 n (v5, v6, (v7 ++ (bcons (c16.toNat : Int) ByteArray.empty)), (w64 ((w64 (v8 + 1)) + 1))) s))))))))))) else (ask (([v7.size] : List Nat) = [v7.size]) (some (O46_0.x1 v5 v7, s))))
def d46 (ds : List D) : Option (ByteArray) := match ds with
  | [.val (.string a0)] => some a0
  | _ => none
def r46 (v : AV) : Option (ByteArray × Int) := match toPR v with
  | some (.many [.val (.string a1), .val (.int .i64 a2)]) => some (a1, a2)
  | _ => none
def n46 : ByteArray → Option (ByteArray × Int) := fun a0 => (bif (decide ((a0.size : Int) < 2)) then (some ((⟨#[]⟩ : ByteArray), 24)) else ((sidx a0 0).bind fun c3 => (bif ((c3.toNat : Int) != 34) then (some ((⟨#[]⟩ : ByteArray), 24)) else ((sidx a0 (w64 ((a0.size : Int) - 1))).bind fun c4 => (bif ((c4.toNat : Int) != 34) then (some ((⟨#[]⟩ : ByteArray), 24)) else (ask (cutOk 1 (w64 ((a0.size : Int) - 1)) a0.size) (ask (([0] : List Nat) = [ByteArray.empty.size]) ((L46_0 1000000000000 (a0, (a0.extract (Int.toNat 1) (Int.toNat (w64 ((a0.size : Int) - 1)))), ByteArray.empty, 0) ()).bind fun p19 => match p19.1 with | .x0 z20 z21 z22 => (some (z20, z21)) | .x1 z23 z24 => ((n48 z24).bind fun y25 => (bif (!(sEq y25 z23)) then (some ((⟨#[]⟩ : ByteArray), 24)) else (some (z24, 0))))))))))))
def e46 : PureE := mkE d46 n46 (fun (a1, a2) => .many [.val (.string a1), .val (.int .i64 a2)])
def g46 {σ : Type} : Nat → Option (SegE σ)
  | 0 => some (l46_0.seg σ (L46_0 1000000000000))
  | _ => none
theorem E46_0 {σ : Type} (Y : Yd σ) : ∀ n a (s : σ), L46_0 (n + 1) a s = evK (cfgOf Tryd.prog (tabs gl) tS5) (toldOf tS5) Y (inlN (cfgOf Tryd.prog (tabs gl) tS5) (toldOf tS5) Y) g46 46 (loopAt Tryd.f46 0) ((l46_0.toT σ).enc a s) (fun ex st' => l46_0.next (cfgOf Tryd.prog (tabs gl) tS5) 46 0 (L46_0 n) ex st') := by
  intro n ⟨v5, v6, v7, v8⟩ s
  kernel_rfl
theorem Q46_0 {σ : Type} (hl : LibFits gl) (Y : Yd σ) (rnd : Bool) : SegOk (cfgOf Tryd.prog (tabs gl) tS5) (evFn (cfgOf Tryd.prog (tabs gl) tS5) 9) 46 rnd Y (l46_0.seg σ (L46_0 1000000000000)) (.block 0 (.loop (loopAt Tryd.f46 0))) :=
  told_loop (okS5 hl) k46_0 (by kernel_rfl) (by kernel_rfl) (fun _ _ => rfl) (segs_no (by kernel_rfl)) (E46_0 Y) (hr := by kernel_rfl)
theorem N46 : ∀ a, n46 a = bodyK (cfgOf Tryd.prog (tabs gl) tS5) (toldOf tS5) noY (inlN (cfgOf Tryd.prog (tabs gl) tS5) (toldOf tS5) noY) g46 46 Tryd.f46 (((fun a0 => [.val (.string a0)] : (ByteArray) → List D) a).map .d) [] [] () (fun v _ _ _ => r46 v) := by
  intro a0
  kernel_rfl
noncomputable def t46 : Tab := (46, e46) :: tS5
theorem ok46 (hl : LibFits gl) : TabOk Tryd.prog gl t46 :=
  told_fn (okS5 hl) mixed oddOk Tryd.func46 (by kernel_rfl) (by kernel_rfl) (by kernel_rfl) (fun p hp e he => by
    have hq : segsOf (σ := Unit) (g46 (σ := Unit)) (bodyOf Tryd.f46) = [(0, .loop (loopAt Tryd.f46 0))] := by kernel_rfl
    rw [hq] at hp
    simp only [List.mem_cons, List.not_mem_nil, or_false] at hp
    subst hp
    cases he
    exact Q46_0 hl _ _)
    (args := fun a0 => [.val (.string a0)]) (res := r46)
    (fun ds a h => by
      unfold d46 at h
      split at h
      · cases h; rfl
      · cases h)
    (fun v r h => by
      unfold r46 at h
      split at h
      · rename_i hv; cases h; exact hv
      · cases h)
    N46
noncomputable def tS6 : Tab := (46, e46) :: tS5
theorem okS6 (hl : LibFits gl) : TabOk Tryd.prog gl tS6 :=
  TabOk.cons (okS5 hl) ((ok46 hl).fair (46, e46) (List.mem_cons_self (l := tS5))) ((ok46 hl).spec (46, e46) (List.mem_cons_self (l := tS5)))
def d32 (ds : List D) : Option (Unit) := match ds with
  | [] => some ()
  | _ => none
def r32 (v : AV) : Option (Bool) := match toPR v with
  | some (.one (.val (.bool a0))) => some a0
  | _ => none
def n32 : Unit → Option (Bool) := fun () => ((n28 (⟨#[97, 206, 178, 255]⟩ : ByteArray)).bind fun y1 => ((n33 (⟨#[97, 10, 10, 98]⟩ : ByteArray)).bind fun y2 => ((n35 ((⟨#[32, 32, 105, 110, 118, 32, 112, 49, 32, 35, 120]⟩ : ByteArray), 7)).bind fun y3 => ((n42 (⟨#[45, 49, 50]⟩ : ByteArray)).bind fun y4 => ((n48 (⟨#[97, 10, 34, 206, 178]⟩ : ByteArray)).bind fun y5 => ((n46 y5).bind fun y6 => ((n50 ((⟨#[206, 178]⟩ : ByteArray), 3)).bind fun y7 => (bif (((y1.1.length : Nat) : Int) == 3) then ((lidx y1.2 1).bind fun d8 => ask (d8.cells.length = 1) ((cellAt 0 d8).bind fun x9 => (asInt .i32 x9).bind fun x10 => (bif (x10 == 946) then ((lidx y1.2 2).bind fun d11 => ask (d11.cells.length = 1) ((cellAt 0 d11).bind fun x12 => (asInt .i32 x12).bind fun x13 => (bif (x13 == (-1)) then ((lidx y1.1 2).bind fun d14 => ask (d14.cells.length = 3) ((cellAt 0 d14).bind fun x15 => (asInt .i64 x15).bind fun x16 => (bif (bif (x16 == 3) then (((y2.1.length : Nat) : Int) == 3) else false) then ((lidx y2.1 2).bind fun d17 => ask (d17.cells.length = 1) ((cellAt 0 d17).bind fun x18 => (asInt .i64 x18).bind fun x19 => (bif (x19 == 3) then ((lidx y2.2 2).bind fun d20 => ask (d20.cells.length = 1) ((cellAt 0 d20).bind fun x21 => (asStr x21).bind fun x22 => (bif (bif (sEq x22 (⟨#[98]⟩ : ByteArray)) then (((y3.length : Nat) : Int) == 2) else false) then ((lidx y3 0).bind fun d23 => ask (d23.cells.length = 4) ((cellAt 0 d23).bind fun x24 => (asStr x24).bind fun x25 => ((cellAt 1 d23).bind fun x26 => (asInt .i64 x26).bind fun x27 => ((cellAt 2 d23).bind fun x28 => (asInt .i64 x28).bind fun x29 => ((cellAt 3 d23).bind fun x30 => (asInt .i64 x30).bind fun x31 => (bif (bif ((sEq x25 (⟨#[105, 110, 118]⟩ : ByteArray)) && (((x27 == 2) && ((x29 == 7) && ((x31 == 3) && true))) && true)) then (y4.1 == (-12)) else false) then ((n39 y4.2).bind fun y32 => (bif (bif (y32 == 0) then (sEq y6.1 (⟨#[97, 10, 34, 206, 178]⟩ : ByteArray)) else false) then ((n39 y6.2).bind fun y33 => (bif (bif (y33 == 0) then (sEq y7.1 (⟨#[206, 178, 32, 32]⟩ : ByteArray)) else false) then ((n39 y7.2).bind fun y34 => (bif (y34 == 0) then ((n40 (⟨#[206, 187, 49]⟩ : ByteArray)).bind fun y35 => (bif (y35 == 0) then ((n40 (⟨#[49, 97]⟩ : ByteArray)).bind fun y36 => ((n39 y36).bind fun y37 => (bif (y37 == 21) then ((n52 (⟨#[97, 206, 178, 10, 99]⟩ : ByteArray)).bind fun y38 => (bif (y38 == 4) then ((n44 0).bind fun y39 => (some (sEq y39 (⟨#[48]⟩ : ByteArray)))) else (some false))) else (some false)))) else (some false))) else (some false))) else (some false))) else (some false))) else (some false))))))) else (some false)))) else (some false)))) else (some false)))) else (some false)))) else (some false)))) else (some false)))))))))
def e32 : PureE := mkE d32 n32 (fun a0 => .one (.val (.bool a0)))
def g32 {σ : Type} : Nat → Option (SegE σ)
  | _ => none
theorem N32 : ∀ a, n32 a = bodyK (cfgOf Tryd.prog (tabs gl) tS6) (toldOf tS6) noY (inlN (cfgOf Tryd.prog (tabs gl) tS6) (toldOf tS6) noY) g32 32 Tryd.f32 (((fun () => [] : (Unit) → List D) a).map .d) [] [] () (fun v _ _ _ => r32 v) := by
  intro a
  kernel_rfl
noncomputable def t32 : Tab := (32, e32) :: tS6
theorem ok32 (hl : LibFits gl) : TabOk Tryd.prog gl t32 :=
  told_fn (okS6 hl) mixed oddOk Tryd.func32 (by kernel_rfl) (by kernel_rfl) (by kernel_rfl) (segs_no (by kernel_rfl))
    (args := fun () => []) (res := r32)
    (fun ds a h => by
      unfold d32 at h
      split at h
      · cases h; rfl
      · cases h)
    (fun v r h => by
      unfold r32 at h
      split at h
      · rename_i hv; cases h; exact hv
      · cases h)
    N32
noncomputable def tS7 : Tab := (32, e32) :: tS6
theorem okS7 (hl : LibFits gl) : TabOk Tryd.prog gl tS7 :=
  TabOk.cons (okS6 hl) ((ok32 hl).fair (32, e32) (List.mem_cons_self (l := tS6))) ((ok32 hl).spec (32, e32) (List.mem_cons_self (l := tS6)))
abbrev AU35_0 := Int × Int × ByteArray × List D × Int × Int × Int × Int × ByteArray × Nat × Nat
inductive OU35_0 where
  | x0 (o15 : List D) (o16 : ByteArray) (o17 : List D) (o18 : Int) (o19 : Int) (o20 : Int) (o21 : Int) (o22 : ByteArray) (o23 : Nat) (q24 : Nat)
  | x1 (o25 : ByteArray) (o26 : List D) (o27 : Int) (o28 : Int) (o29 : Int) (o30 : Int) (o31 : ByteArray) (o32 : Nat) (q33 : Nat)
def lU35_0 : LoopS AU35_0 OU35_0 where
  n := 48
  ks := [1, 2, 5, 6, 7, 8, 9, 14]
  kso := [2, 4, 5, 8]
  m := 5
  mt := 2
  decV := fun vs bs ts => match vs, bs, ts with
    | [.d (.val (.int .i64 v3)), .ptr 0 0, .ptr 1 0, .ptr 2 0, .ptr 3 0, .func (.func 68) [] [.ptr 3 0, .ptr 1 0, .ptr 0 0, .ptr 2 0], .d (.val (.int .i64 v4)), .iter 4], [.cells none [.d (.val (.string v5))], .cells (some 64) [.osl 1 v6], .cells (some 25) [.d (.val (.int .i64 v7)), .d (.val (.int .i64 v8)), .d (.val (.int .i64 v9))], .cells (some 3) [.d (.val (.int .i64 v10))], .iter v11 v12], [k13, _] => some (v3, v4, v5, v6, v7, v8, v9, v10, v11, v12, k13)
    | _, _, _ => none
  encV := fun (v3, v4, v5, v6, v7, v8, v9, v10, v11, v12, k13) => [.d (.val (.int .i64 v3)), .ptr 0 0, .ptr 1 0, .ptr 2 0, .ptr 3 0, .func (.func 68) [] [.ptr 3 0, .ptr 1 0, .ptr 0 0, .ptr 2 0], .d (.val (.int .i64 v4)), .iter 4]
  encB := fun (v3, v4, v5, v6, v7, v8, v9, v10, v11, v12, k13) => [.cells none [.d (.val (.string v5))], .cells (some 64) [.osl 1 v6], .cells (some 25) [.d (.val (.int .i64 v7)), .d (.val (.int .i64 v8)), .d (.val (.int .i64 v9))], .cells (some 3) [.d (.val (.int .i64 v10))], .iter v11 v12]
  tk := fun (v3, v4, v5, v6, v7, v8, v9, v10, v11, v12, k13) => [k13, v6.length]
  decO := fun ex vs bs ts => match ex, vs, bs, ts with
    | .ret, [.undef, .osl 1 o15, .ptr 1 0, .undef], [.cells none [.d (.val (.string o16))], .cells (some 64) [.osl 1 o17], .cells (some 25) [.d (.val (.int .i64 o18)), .d (.val (.int .i64 o19)), .d (.val (.int .i64 o20))], .cells (some 3) [.d (.val (.int .i64 o21))], .iter o22 o23], [q24, _] => some (.x0 o15 o16 o17 o18 o19 o20 o21 o22 o23 q24)
    | .normal, [.ptr 0 0, .undef, .ptr 1 0, .func (.func 68) [] [.ptr 3 0, .ptr 1 0, .ptr 0 0, .ptr 2 0]], [.cells none [.d (.val (.string o25))], .cells (some 64) [.osl 1 o26], .cells (some 25) [.d (.val (.int .i64 o27)), .d (.val (.int .i64 o28)), .d (.val (.int .i64 o29))], .cells (some 3) [.d (.val (.int .i64 o30))], .iter o31 o32], [q33, _] => some (.x1 o25 o26 o27 o28 o29 o30 o31 o32 q33)
    | _, _, _, _ => none
  exO := fun x => match x with
    | .x0 o15 o16 o17 o18 o19 o20 o21 o22 o23 q24 => .ret
    | .x1 o25 o26 o27 o28 o29 o30 o31 o32 q33 => .normal
  outV := fun x => match x with
    | .x0 o15 o16 o17 o18 o19 o20 o21 o22 o23 q24 => [.undef, .osl 1 o15, .ptr 1 0, .undef]
    | .x1 o25 o26 o27 o28 o29 o30 o31 o32 q33 => [.ptr 0 0, .undef, .ptr 1 0, .func (.func 68) [] [.ptr 3 0, .ptr 1 0, .ptr 0 0, .ptr 2 0]]
  outB := fun x => match x with
    | .x0 o15 o16 o17 o18 o19 o20 o21 o22 o23 q24 => [.cells none [.d (.val (.string o16))], .cells (some 64) [.osl 1 o17], .cells (some 25) [.d (.val (.int .i64 o18)), .d (.val (.int .i64 o19)), .d (.val (.int .i64 o20))], .cells (some 3) [.d (.val (.int .i64 o21))], .iter o22 o23]
    | .x1 o25 o26 o27 o28 o29 o30 o31 o32 q33 => [.cells none [.d (.val (.string o25))], .cells (some 64) [.osl 1 o26], .cells (some 25) [.d (.val (.int .i64 o27)), .d (.val (.int .i64 o28)), .d (.val (.int .i64 o29))], .cells (some 3) [.d (.val (.int .i64 o30))], .iter o31 o32]
  tkO := fun x => match x with
    | .x0 o15 o16 o17 o18 o19 o20 o21 o22 o23 q24 => [q24, o15.length]
    | .x1 o25 o26 o27 o28 o29 o30 o31 o32 q33 => [q33, o26.length]
  elim := fun x k => match x with
    | .x0 o15 o16 o17 o18 o19 o20 o21 o22 o23 q24 => k .ret [.undef, .osl 1 o15, .ptr 1 0, .undef] [.cells none [.d (.val (.string o16))], .cells (some 64) [.osl 1 o17], .cells (some 25) [.d (.val (.int .i64 o18)), .d (.val (.int .i64 o19)), .d (.val (.int .i64 o20))], .cells (some 3) [.d (.val (.int .i64 o21))], .iter o22 o23] [q24, o15.length]
    | .x1 o25 o26 o27 o28 o29 o30 o31 o32 q33 => k .normal [.ptr 0 0, .undef, .ptr 1 0, .func (.func 68) [] [.ptr 3 0, .ptr 1 0, .ptr 0 0, .ptr 2 0]] [.cells none [.d (.val (.string o25))], .cells (some 64) [.osl 1 o26], .cells (some 25) [.d (.val (.int .i64 o27)), .d (.val (.int .i64 o28)), .d (.val (.int .i64 o29))], .cells (some 3) [.d (.val (.int .i64 o30))], .iter o31 o32] [q33, o26.length]
theorem kU35_0 : lU35_0.Ok where
  ok1 := by kernel_rfl
  ok2 := by kernel_rfl
  dec := by
    intro vs bs ts a h
    simp only [lU35_0] at h ⊢
    split at h
    · cases h; exact ⟨rfl, rfl⟩
    · cases h
  out := by
    intro ex vs bs ts o h
    simp only [lU35_0] at h ⊢
    split at h
    · cases h; exact ⟨rfl, rfl, rfl⟩
    · cases h; exact ⟨rfl, rfl, rfl⟩
    · cases h
  len := fun _ => ⟨rfl, rfl⟩
  elim := fun β o k => by cases o <;> rfl
def LU35_0 {σ : Type} : Nat → AU35_0 → σ → Option (OU35_0 × σ)
  | 0, _, _ => none
  | n+1, (v3, v4, v5, v6, v7, v8, v9, v10, v11, v12, k13), s => (bif decide (v12 < v11.size) then ((n69 ((Utf8.decode v11 v12).1 : Int)).bind fun y14 => (bif y14 then (bif (decide (v10 ≥ 0)) then (ask (cutOk v10 (v12 : Int) v5.size) (ask (addOk v6.length v6 ([.agg [.val (.string (v5.extract (Int.toNat v10) (Int.toNat (v12 : Int)))), .val (.int .i64 v7), .val (.int .i64 v8), .val (.int .i64 v9)]] : List D) 4 40) (ask (([k13, (v6.length + ([.agg [.val (.string (v5.extract (Int.toNat v10) (Int.toNat (v12 : Int)))), .val (.int .i64 v7), .val (.int .i64 v8), .val (.int .i64 v9)]] : List D).length)] : List Nat) = [k13, (v6 ++ ([.agg [.val (.string (v5.extract (Int.toNat v10) (Int.toNat (v12 : Int)))), .val (.int .i64 v7), .val (.int .i64 v8), .val (.int .i64 v9)]] : List D)).length]) (LU35_0 n (v3, (w64 (v4 + 1)), v5, (v6 ++ ([.agg [.val (.string (v5.extract (Int.toNat v10) (Int.toNat (v12 : Int)))), .val (.int .i64 v7), .val (.int .i64 v8), .val (.int .i64 v9)]] : List D)), v7, v8, v9, (-1), v11, (v12 + (Utf8.decode v11 v12).2), k13) s)))) else (ask (([k13, v6.length] : List Nat) = [k13, v6.length]) (LU35_0 n (v3, (w64 (v4 + 1)), v5, v6, v7, v8, v9, (-1), v11, (v12 + (Utf8.decode v11 v12).2), k13) s))) else (bif (bif (decide (v10 < 0)) then (((Utf8.decode v11 v12).1 : Int) == 35) else false) then (ask (([k13, v6.length] : List Nat) = [k13, v6.length]) (some (OU35_0.x0 v6 v5 v6 v7 v8 v9 v10 v11 (v12 + (Utf8.decode v11 v12).2) k13, s))) else (bif (decide (v10 < 0)) then (ask (([k13, v6.length] : List Nat) = [k13, v6.length]) (LU35_0 n (v3, (w64 (v4 + 1)), v5, v6, (v12 : Int), v3, (w64 (v4 + 1)), (v12 : Int), v11, (v12 + (Utf8.decode v11 v12).2), k13) s)) else (ask (([k13, v6.length] : List Nat) = [k13, v6.length]) (LU35_0 n (v3, (w64 (v4 + 1)), v5, v6, v7, v8, v9, v10, v11, (v12 + (Utf8.decode v11 v12).2), k13) s)))))) else (ask (([k13, v6.length] : List Nat) = [k13, v6.length]) (some (OU35_0.x1 v5 v6 v7 v8 v9 v10 v11 v12 k13, s))))
def dU35 (ds : List D) : Option (ByteArray × Int) := match ds with
  | [.val (.string a0), .val (.int .i64 a1)] => some (a0, a1)
  | _ => none
def rU35 (v : AV) (tk : List Nat) : Option (List D) := match v with
  | .osl j r2 => (tk[j]?).bind fun n => ask (n = r2.length) (some r2)
  | .nsl => some []
  | _ => none
def wU35 : (List D) → List D := fun r2 => r2
def xU35 : (List D) → List D := fun r2 => []
def nU35 : ByteArray × Int → Option (List D) := fun (a0, a1) => (ask (([0, 0] : List Nat) = [0, ([] : List D).length]) ((LU35_0 1000000000000 (a1, 0, a0, ([] : List D), 0, 0, 0, (-1), a0, 0, 0) ()).bind fun p34 => match p34.1 with | .x0 z35 z36 z37 z38 z39 z40 z41 z42 z43 z44 => (ask (z35.length = z35.length) (some z35)) | .x1 z45 z46 z47 z48 z49 z50 z51 z52 z53 => (bif (decide (z50 ≥ 0)) then (ask (cutOk z50 (z45.size : Int) z45.size) (ask (addOk z46.length z46 ([.agg [.val (.string (z45.extract (Int.toNat z50) (Int.toNat (z45.size : Int)))), .val (.int .i64 z47), .val (.int .i64 z48), .val (.int .i64 z49)]] : List D) 4 40) (ask ((z46.length + ([.agg [.val (.string (z45.extract (Int.toNat z50) (Int.toNat (z45.size : Int)))), .val (.int .i64 z47), .val (.int .i64 z48), .val (.int .i64 z49)]] : List D).length) = (z46 ++ ([.agg [.val (.string (z45.extract (Int.toNat z50) (Int.toNat (z45.size : Int)))), .val (.int .i64 z47), .val (.int .i64 z48), .val (.int .i64 z49)]] : List D)).length) (some (z46 ++ ([.agg [.val (.string (z45.extract (Int.toNat z50) (Int.toNat (z45.size : Int)))), .val (.int .i64 z47), .val (.int .i64 z48), .val (.int .i64 z49)]] : List D)))))) else (ask (z46.length = z46.length) (some z46)))))
def gU35 {σ : Type} : Nat → Option (SegE σ)
  | 0 => some (lU35_0.seg σ (LU35_0 1000000000000))
  | _ => none
theorem EU35_0 {σ : Type} (Y : Yd σ) : ∀ n a (s : σ), LU35_0 (n + 1) a s = evK (cfgOf Tryd.prog (tabs gl) tS3) (toldOf tS3) Y (inlN (cfgOf Tryd.prog (tabs gl) tS3) (toldOf tS3) Y) gU35 35 (loopAt Tryd.f35 0) ((lU35_0.toT σ).enc a s) (fun ex st' => lU35_0.next (cfgOf Tryd.prog (tabs gl) tS3) 35 0 (LU35_0 n) ex st') := by
  intro n ⟨v3, v4, v5, v6, v7, v8, v9, v10, v11, v12, k13⟩ s
  kernel_rfl
theorem QU35_0 {σ : Type} (hl : LibFits gl) (Y : Yd σ) (rnd : Bool) : SegOk (cfgOf Tryd.prog (tabs gl) tS3) (evFn (cfgOf Tryd.prog (tabs gl) tS3) 9) 35 rnd Y (lU35_0.seg σ (LU35_0 1000000000000)) (.block 0 (.loop (loopAt Tryd.f35 0))) :=
  told_loop (okS3 hl) kU35_0 (by kernel_rfl) (by kernel_rfl) (fun _ _ => rfl) (segs_no (by kernel_rfl)) (EU35_0 Y) (hr := by kernel_rfl)
theorem NU35 : ∀ a, nU35 a = bodyK (cfgOf Tryd.prog (tabs gl) tS3) (toldOf tS3) noY (inlN (cfgOf Tryd.prog (tabs gl) tS3) (toldOf tS3) noY) gU35 35 Tryd.f35 (((fun (a0, a1) => [.val (.string a0), .val (.int .i64 a1)] : (ByteArray × Int) → List D) a).map .d) [] [] () (fun v _ tk _ => rU35 v tk) := by
  intro a
  obtain ⟨a0, a1⟩ := a
  kernel_rfl
theorem omU35 (hl : LibFits gl) : OddSound Tryd.prog gl (fun g => bif Nat.beq g 35 then some (thawN dU35 nU35 wU35 xU35 4) else (tabs gl).odd g) :=
  told_thawN (t := tabs gl) (okS3 hl) mixed oddOk Tryd.func35 (by kernel_rfl) (by kernel_rfl) (row := wU35) (rest := xU35) (args := fun (a0, a1) => [.val (.string a0), .val (.int .i64 a1)]) (res := rU35) (by kernel_rfl) (fun p hp e he => by
    have hq : segsOf (σ := Unit) (gU35 (σ := Unit)) (bodyOf Tryd.f35) = [(0, .loop (loopAt Tryd.f35 0))] := by kernel_rfl
    rw [hq] at hp
    simp only [List.mem_cons, List.not_mem_nil, or_false] at hp
    subst hp
    cases he
    exact QU35_0 hl _ _)
    (fun ds a h => by
      unfold dU35 at h
      split at h
      · cases h; rfl
      · cases h)
    (fun v tk o h => by
      unfold rU35 at h
      split at h
      · obtain ⟨n, h1, h2⟩ := bind_some h
        obtain ⟨h3, h4⟩ := ask_some h2
        cases h4
        exact ⟨.inl ⟨_, rfl, h1.trans (congrArg some h3)⟩, rfl⟩
      · cases h; exact ⟨.inr ⟨rfl, rfl⟩, rfl⟩
      · cases h)
    NU35
noncomputable def tabsS8 (gl : Nat → Option (List D)) : Tabs := { tabs gl with odd := fun g => bif Nat.beq g 35 then some (thawN dU35 nU35 wU35 xU35 4) else ((tabs gl).odd g) }
theorem oddOkS8 (hl : LibFits gl) : OddSound Tryd.prog gl (tabsS8 gl).odd := OddSound.join (omU35 hl) (oddOk)
noncomputable abbrev tS8 : Tab := tS7
theorem okS8 (hl : LibFits gl) : TabOk Tryd.prog gl tS8 := okS7 hl
end Ev
