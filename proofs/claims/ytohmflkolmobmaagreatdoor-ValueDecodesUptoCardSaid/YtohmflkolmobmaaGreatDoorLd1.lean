/- What functions of the program compute, as plain Lean functions, each with its proof by a proved reader; plain laws about them (Ld1). -/
import Derived.Test.YtohmflkolmobmaaGreatDoorLibClone
import Derived.Test.YtohmflkolmobmaaGreatDoorLibCe
import Derived.Test.YtohmflkolmobmaaGreatDoorLibCe
import Derived.Test.YtohmflkolmobmaaGreatDoorChecked
import Derived.KernelRfl
set_option maxRecDepth 100000
set_option linter.unusedVariables false
namespace Ev
open Go Go.Proofs
noncomputable section
variable {gl : Nat → Option (List D)}
def tabs (gl : Nat → Option (List D)) : Tabs := ⟨[(124, [(5, []), (2, []), (4, []), (3, [1]), (1, [0, 1]), (0, [0, 1])]),
  (112, [(12, [7]), (11, [1, 2, 7, 26, 27, 28]), (10, [7]), (9, [1, 2, 7, 26, 27, 28]), (8, [1, 2, 7, 9, 26, 27, 28]), (7, [1, 2, 7, 26, 27, 28]), (6, [1, 2, 7, 26, 27, 28]), (5, [1, 2, 3, 7]), (4, [7]), (3, [1, 2, 3, 7]), (2, [1, 2, 3]), (1, [1, 2, 3]), (0, [0, 1, 2])]),
  (153, [(1, [1, 2, 3, 4, 5]), (0, [0, 1, 2, 3, 4])]),
  (70, [(1, [0]), (0, [0])]),
  (204, [(1, [0, 1, 2, 3]), (0, [0, 1, 2, 3])]),
  (167, [(9, []), (4, []), (6, [0]), (8, [0]), (7, [0]), (5, [0]), (3, [0]), (2, [0]), (1, [0]), (0, [0])]),
  (177, [(5, []), (4, []), (3, [1]), (2, []), (1, [0, 1]), (0, [0, 1])]),
  (69, [(1, [0]), (0, [0])]),
  (187, [(1, [0]), (0, [])]),
  (15, [(1, [0]), (0, [0])]),
  (109, [(10, [1]), (6, [1, 2, 3, 7]), (9, [1]), (8, [1, 2, 3, 7]), (7, [1, 2, 3, 7]), (5, [1, 2, 3, 7]), (4, [1, 2, 3]), (3, []), (2, [1, 2, 3]), (1, [1, 2, 3]), (0, [0, 1, 2])]),
  (16, [(8, []), (5, [2, 3, 5]), (7, []), (6, [2, 3, 5]), (4, [2, 3, 5]), (3, [2, 3]), (2, []), (1, [2, 3]), (0, [0, 1])]),
  (106, [(1, [0]), (0, [0])]),
  (107, [(13, []), (4, [0, 1, 6, 7]), (12, [1, 6, 7]), (11, []), (10, [1, 6, 7, 8]), (9, [0, 1, 6, 7, 8]), (8, [0, 1, 6, 7, 8]), (7, []), (6, [0, 1, 6, 7, 8]), (5, [0, 1, 6, 7]), (3, [0, 1, 6, 7]), (2, [0, 1, 6]), (1, [0, 1]), (0, [0, 1])]),
  (108, [(3, [0]), (2, [0]), (1, [0]), (0, [0])]),
  (59, [(2, [1, 3]), (1, [1]), (0, [0])]),
  (66, [(18, []), (17, [3, 74, 75, 76]), (16, [9]), (15, [3, 9, 74, 75, 76]), (14, [3, 7, 8, 74, 75, 76]), (13, [3, 74, 75, 76]), (12, [3, 74, 75, 76]), (11, [2, 3]), (10, [2, 3, 63, 64, 65]), (9, [6]), (8, [2, 3, 6, 63, 64, 65]), (7, [2, 3, 63, 64, 65]), (6, [2, 3, 63, 64, 65]), (5, [2, 3]), (4, [2, 3]), (3, [2, 3]), (2, [2, 3]), (1, [2, 3]), (0, [0, 1])]),
  (176, [(22, [1, 4]), (4, [1, 4, 5]), (7, [0, 1, 4, 5]), (6, [0, 1, 4, 5, 6, 7]), (14, [0, 1, 4, 5]), (13, [0, 1, 4, 5, 6, 7]), (12, [0, 1, 4, 5, 6]), (11, [0, 1, 4, 5, 6, 7]), (10, [0, 1, 4, 5, 7]), (9, [0, 1, 4, 5, 6, 7]), (21, [0, 1, 4, 5]), (20, [0, 1, 4, 5, 6, 7]), (19, [0, 1, 4, 5, 6]), (18, [0, 1, 4, 5, 6, 7]), (17, [0, 1, 4, 5, 7]), (16, [0, 1, 4, 5, 6, 7]), (15, [0, 1, 4, 5, 6, 7]), (8, [0, 1, 4, 5, 6, 7]), (5, [0, 1, 4, 5, 6, 7]), (3, [0, 1, 4, 5, 6, 7]), (2, [0, 1, 4, 5]), (1, [0, 1, 4]), (0, [0, 1])]),
  (168, [(1, [0]), (0, [0])]),
  (165, [(7, []), (6, [0, 5, 6]), (5, []), (4, [0, 4, 5, 6]), (3, [0, 5, 6]), (2, [0, 5, 6]), (1, [0]), (0, [0])]),
  (144, [(17, []), (13, [2, 3, 5]), (16, [6]), (15, [2, 3, 5, 6]), (14, [2, 3, 5]), (12, [2, 3, 5]), (11, [2, 3]), (10, [2, 3]), (9, [2, 3]), (8, [2, 3]), (7, [2, 3]), (6, [2, 3]), (5, [2, 3]), (4, [2, 3]), (3, [2, 3]), (2, [2, 3]), (1, [2, 3]), (0, [0, 1])]),
  (145, [(15, []), (14, [5, 14, 15, 16]), (13, [5, 6]), (12, []), (11, [5, 6, 7]), (10, [5, 6, 7, 14, 15, 16]), (9, [5, 6, 7, 14, 15, 16]), (8, []), (7, [5, 6, 7, 14, 15, 16]), (6, [5, 14, 15, 16]), (5, [5, 14, 15, 16]), (4, [0, 5]), (3, [0]), (2, []), (1, [0]), (0, [0])]),
  (103, [(7, [4]), (6, [0, 4]), (5, [0]), (2, []), (4, []), (3, [0]), (1, [0]), (0, [0])]),
  (50, [(3, [0]), (2, []), (1, [0]), (0, [0])]),
  (51, [(37, [1, 8, 10]), (31, [0, 1, 2, 3, 8, 10, 11]), (36, [0, 2, 3, 8, 10, 11, 15]), (35, [0, 2, 3, 8, 10, 11, 14, 15]), (34, [8, 10]), (33, [0, 2, 3, 8, 10, 11, 14, 15]), (32, [0, 1, 2, 3, 8, 10, 11]), (30, [0, 1, 2, 3, 8, 10, 11]), (19, [1, 8, 10]), (18, [1, 8, 10, 11]), (24, [8, 10, 13]), (23, [8, 10, 12, 13]), (22, [0, 1, 8, 10]), (21, [0, 1, 8, 10, 11]), (29, [1, 8, 10, 11]), (28, [0, 1, 8, 10, 11]), (27, [8, 10]), (26, [0, 1, 8, 10, 11]), (25, [0, 1, 2, 3, 8, 10, 11, 80]), (20, [0, 1, 2, 3, 8, 10, 11, 80]), (17, [0, 1, 2, 3, 8, 10, 11, 80]), (16, [0, 1, 2, 3, 8, 10, 11]), (15, [8, 10]), (14, [0, 1, 2, 3, 8, 10, 11]), (13, [0, 1, 2, 3, 8, 10]), (12, [8, 10]), (11, [0, 1, 2, 3, 8, 10]), (10, [1, 8, 10]), (9, [0, 1, 8, 10]), (8, [8, 10]), (7, [0, 1, 8, 10]), (6, [0, 1, 2, 3, 8, 10]), (5, [0, 1, 2, 3, 8, 10]), (4, [0, 1, 2, 3, 8]), (3, [8]), (2, [0, 1, 2, 3, 8]), (1, [0, 1, 2, 3, 8]), (0, [0, 1, 2, 3])]),
  (143, [(7, [3]), (6, [0, 3, 4, 5]), (5, [0, 3, 4, 5]), (4, [0, 3, 4]), (3, [0, 3, 4]), (2, [0, 3]), (1, [0]), (0, [0])]),
  (126, [(10, []), (9, []), (8, [3]), (7, []), (6, [3, 5, 7]), (5, [3, 5, 7]), (4, [3, 7, 8]), (3, [3, 7]), (2, [0, 3]), (1, [0]), (0, [0])]),
  (88, [(4, [4, 6]), (3, [0, 4, 5, 6]), (2, [0, 4, 5, 6]), (1, [0]), (0, [0])]),
  (105, [(8, [7]), (7, [0, 4, 5, 7]), (6, [0, 4, 5]), (5, []), (4, [0, 4, 5]), (3, [6]), (2, [0, 4, 5, 6]), (1, [0]), (0, [0])]),
  (127, [(9, []), (6, [3, 4]), (8, []), (7, [3, 4]), (5, [3, 4]), (4, [3]), (3, []), (2, [3]), (1, [0]), (0, [0])]),
  (67, [(1, [0]), (0, [0])]),
  (104, [(5, [5, 6]), (4, [5, 6]), (3, [4, 5, 6]), (2, [4, 5]), (1, [0]), (0, [0])]),
  (68, [(1, [0]), (0, [0])]),
  (60, [(23, []), (22, [1, 95, 96, 97]), (21, []), (20, [1, 4, 5, 95, 96, 97]), (19, [1, 95, 96, 97]), (18, [1, 95, 96, 97]), (17, [1]), (16, []), (15, [1]), (5, [1, 3]), (7, [1, 3]), (9, [1, 3]), (11, [1]), (3, []), (14, [1, 16]), (13, [1, 16]), (12, [1, 16]), (10, [1, 16]), (8, [1, 3, 16]), (6, [1, 3, 16]), (4, [1, 3, 16]), (2, [1, 3]), (1, [1]), (0, [0])]),
  (110, [(21, []), (18, [1, 3]), (20, []), (19, [1, 3]), (17, [1, 3]), (16, [1]), (4, [1]), (6, [1]), (8, [1]), (10, [1]), (15, []), (14, [1]), (2, []), (13, [1, 5]), (12, [1, 5]), (11, [1, 5]), (9, [1, 5]), (7, [1, 5]), (5, [1, 5]), (3, [1, 5]), (1, [1]), (0, [0])]),
  (20, [(3, []), (2, []), (1, [1]), (0, [0])]),
  (52, [(1, [1]), (0, [0])]),
  (14, [(5, [2, 6, 7]), (4, [2]), (3, [2, 6, 7]), (2, [0, 2, 5]), (1, [0, 2]), (0, [0])]),
  (49, [(36, [6, 10]), (12, [6, 7, 9, 10]), (11, [0, 6, 7, 10]), (16, [6, 10, 11]), (15, [6, 7, 10, 11, 12]), (14, [0, 6, 7, 10]), (19, [6, 7, 9, 10]), (18, [0, 6, 7, 10]), (24, [6, 7, 9, 10]), (23, [0, 6, 7, 10]), (22, [0, 6, 7, 9, 10]), (21, [0, 6, 7, 10]), (35, [0, 1, 2, 6, 10, 116, 117]), (34, [0, 1, 2, 6, 10, 116, 117]), (33, [0, 1, 2, 6, 10, 116, 117]), (32, [0, 1, 2, 6, 10, 13]), (31, [0, 1, 2, 6, 10, 13]), (30, [0, 1, 2, 6, 10, 13]), (29, [0, 1, 2, 6, 7, 10, 13, 14]), (28, [0, 1, 2, 6, 7, 10]), (9, [6, 10]), (27, [0, 1, 2, 6, 7, 10, 42]), (26, [0, 1, 2, 6, 7, 10, 42]), (25, [0, 1, 2, 6, 7, 10, 42]), (20, [0, 1, 2, 6, 7, 10, 42]), (17, [0, 1, 2, 6, 7, 10, 42]), (13, [0, 1, 2, 6, 7, 10, 42]), (10, [0, 1, 2, 6, 7, 10, 42]), (8, [0, 1, 2, 6, 7, 10]), (7, [0, 1, 2, 6, 7, 8]), (6, [0, 1, 2, 6, 7, 8, 9]), (5, [0, 1, 2, 6, 7]), (4, [0, 1, 2, 6, 7]), (3, [0, 1, 2, 6, 7]), (2, [0, 1, 2, 6, 7]), (1, [0, 1, 2, 6]), (0, [0, 1, 2])]),
  (13, [(7, [0, 2, 3, 4, 5]), (6, [0, 2, 3, 4, 5]), (5, [0, 2, 3, 4, 5]), (4, [0, 2, 3, 4, 5, 6]), (3, [0, 2, 3, 4, 5]), (2, [0, 2, 3, 4]), (1, [0, 2, 3, 4]), (0, [0])]),
  (13, [(7, [0, 2, 3, 4, 5]), (6, [0, 2, 3, 4, 5]), (5, [0, 2, 3, 4, 5]), (4, [0, 2, 3, 4, 5, 6]), (3, [0, 2, 3, 4, 5]), (2, [0, 2, 3, 4]), (1, [0, 2, 3, 4]), (0, [0])]),
  (3, [(10, [4, 7]), (8, [3, 4, 7, 10]), (9, [3, 4, 7, 10]), (7, [3, 4, 7, 10]), (6, [3, 4, 7]), (5, []), (4, [0, 3, 4, 5, 6, 7, 8, 9]), (3, [0, 3, 4, 5, 6]), (2, [0, 3]), (1, [0]), (0, [0])])],
  [(124, [(0, [4])]),
  (112, [(0, [6, 7]), (1, [1, 2, 6, 7, 26, 27, 28])]),
  (153, []),
  (70, []),
  (204, []),
  (167, [(0, [2])]),
  (177, []),
  (69, []),
  (187, []),
  (15, []),
  (109, [(0, [1, 6]), (1, [1, 2, 3, 6, 7])]),
  (16, [(0, [4]), (1, [2, 3, 4, 5])]),
  (106, []),
  (107, [(0, [4, 5]), (1, [0, 1, 4, 5, 6, 7])]),
  (108, []),
  (59, []),
  (66, [(2, [4]), (3, [3, 4, 74, 75, 76]), (0, [2, 3, 4]), (1, [2, 3, 4, 63, 64, 65])]),
  (176, [(0, [1, 4])]),
  (168, []),
  (165, [(0, [2]), (1, [0, 2, 5, 6])]),
  (144, [(0, [4]), (1, [2, 3, 4, 5])]),
  (145, [(0, [2, 3, 4]), (1, [2, 3, 4, 5, 14, 15, 16])]),
  (103, [(0, [0, 2, 3])]),
  (50, []),
  (51, [(1, [1, 8, 9, 10]), (2, [0, 1, 2, 3, 8, 9, 10, 11]), (0, [0, 1, 2, 3, 8, 9, 10, 11])]),
  (143, [(0, [3]), (1, [0, 3, 4])]),
  (126, [(0, [2, 3]), (1, [2, 3, 7])]),
  (88, []),
  (105, []),
  (127, [(0, [2]), (1, [2, 3, 4])]),
  (67, []),
  (104, []),
  (68, []),
  (60, [(1, [2]), (2, [1, 2, 95, 96, 97]), (0, [1, 2])]),
  (110, [(1, [2]), (2, [1, 2, 3]), (0, [1, 2])]),
  (20, []),
  (52, []),
  (14, []),
  (49, [(0, [6, 10]), (1, [6, 10]), (2, [0, 1, 2, 6, 10, 116, 117])]),
  (13, []),
  (13, []),
  (3, [(0, [4, 7]), (1, [3, 4, 7, 10])])],
  [(51, [(16, [(1, 4, false), (2, 4, false)])]), (49, [(32, [(2, 4, false), (3, 4, false)])])],
  [(112, [(3, [5]), (9, [5])]), (153, [(1, [2])]), (70, [(1, [3])]), (167, [(1, [3]), (2, [3]), (5, [3]), (6, [3]), (7, [3])]), (69, [(1, [3])]), (109, [(2, [3])]), (16, [(1, [6, 13, 20, 27])]), (107, [(3, [3]), (6, [3]), (10, [3])]), (59, [(2, [4])]), (176, [(5, [3]), (8, [3]), (15, [3])]), (168, [(1, [11])]), (165, [(4, [5])]), (145, [(7, [3]), (11, [3])]), (51, [(2, [11]), (11, [4])]), (126, [(8, [3])]), (127, [(2, [4])]), (67, [(1, [4, 8])]), (68, [(1, [3, 7])]), (60, [(1, [4]), (5, [2]), (7, [2]), (11, [4, 9]), (15, [4, 9])]), (49, [(3, [5])]), (3, [(4, [5])])],
  [112, 106, 145, 103, 50, 51, 88, 105, 104, 49, 13], [102, 48], gl, oddC, [], fun _ => none, [(49, 34)], [13], []⟩
theorem oddOk : OddSound Tryz.prog gl (tabs gl).odd := oddC_sound
theorem methOk : MethSound Tryz.prog gl (tabs gl).meth := MethSound.none
noncomputable def tS0 : Tab := [(17, e17), (38, e38), (184, e184), (80, e80), (186, e186), (159, e159), (125, e125), (181, e181), (152, e152)]
theorem okS0 (hl : LibFits gl) : TabOk Tryz.prog gl tS0 := libAll hl
theorem mixed : Tryz.prog.follows .mixedOrders = true := Tryz.checked.mixed
def d124 (ds : List D) : Option (Bool × Bool) := match ds with
  | [.val (.bool a0), .val (.bool a1)] => some (a0, a1)
  | _ => none
def r124 (v : AV) : Option (Int) := match toPR v with
  | some (.one (.val (.int .i64 a2))) => some a2
  | _ => none
def n124 : Bool × Bool → Option (Int) := fun (a0, a1) => (bif a0 then (some (-1)) else (bif a1 then (some 1) else (some 0)))
def e124 : PureE := mkE d124 n124 (fun a2 => .one (.val (.int .i64 a2)))
def g124 {σ : Type} : Nat → Option (SegE σ)
  | _ => none
theorem N124 : ∀ a, n124 a = bodyK (cfgOf Tryz.prog (tabs gl) tS0) (toldOf tS0) noY (inlN (cfgOf Tryz.prog (tabs gl) tS0) (toldOf tS0) noY) g124 124 Tryz.f124 (((fun (a0, a1) => [.val (.bool a0), .val (.bool a1)] : (Bool × Bool) → List D) a).map .d) [] [] () (retK fun v _ _ _ => r124 v) := by
  intro a
  obtain ⟨a0, a1⟩ := a
  kernel_rfl
noncomputable def t124 : Tab := (124, e124) :: tS0
theorem ok124 (hl : LibFits gl) : TabOk Tryz.prog gl t124 :=
  told_fn (okS0 hl) mixed oddOk methOk Tryz.func124 (by kernel_rfl) (by kernel_rfl) (by kernel_rfl) (segs_no (by kernel_rfl))
    (args := fun (a0, a1) => [.val (.bool a0), .val (.bool a1)]) (res := r124)
    (fun ds a h => by
      unfold d124 at h
      split at h
      · cases h; rfl
      · cases h)
    (fun v r h => by
      unfold r124 at h
      split at h
      · rename_i hv; cases h; exact hv
      · cases h)
    N124
abbrev A112_0 := Int × Int × List D × Int × Int × Int × Int × Int × Int × ByteArray × List D
inductive O112_0 where
  | x0 (o32 : Int) (o33 : Int) (o34 : Int) (o35 : Int) (o36 : Int) (o37 : Int) (o38 : ByteArray) (o39 : List D)
  | x1 (o40 : Int) (o41 : Int) (o42 : Int) (o43 : Int) (o44 : Int) (o45 : ByteArray) (o46 : List D)
def l112_0 : LoopS A112_0 O112_0 where
  n := 50
  ks := [1, 2, 7, 26, 27, 28]
  kso := [6, 7]
  m := 2
  mt := 0
  decV := fun vs bs ts => match vs, bs, ts with
    | [.d (.val (.int .i64 v9)), .ptr 0 0, .d (.val (.int .i64 v10)), .d (.slice v11), .d (.val (.int .i64 v12)), .d (.val (.int .i64 v13))], [.cells (some 3) [.d (.val (.int .i64 v14))], .cells none [.d (.val (.int .i64 v15)), .d (.val (.int .i64 v16)), .d (.val (.int .i64 v17)), .d (.val (.string v18)), .d (.slice v19)]], [] => some (v9, v10, v11, v12, v13, v14, v15, v16, v17, v18, v19)
    | _, _, _ => none
  encV := fun (v9, v10, v11, v12, v13, v14, v15, v16, v17, v18, v19) => [.d (.val (.int .i64 v9)), .ptr 0 0, .d (.val (.int .i64 v10)), .d (.slice v11), .d (.val (.int .i64 v12)), .d (.val (.int .i64 v13))]
  encB := fun (v9, v10, v11, v12, v13, v14, v15, v16, v17, v18, v19) => [.cells (some 3) [.d (.val (.int .i64 v14))], .cells none [.d (.val (.int .i64 v15)), .d (.val (.int .i64 v16)), .d (.val (.int .i64 v17)), .d (.val (.string v18)), .d (.slice v19)]]
  tk := fun _ => []
  decO := fun ex vs bs ts => match ex, vs, bs, ts with
    | .ret, [.d (.val (.int .i64 o32)), .d (.val (.int .i64 o33))], [.cells (some 3) [.d (.val (.int .i64 o34))], .cells none [.d (.val (.int .i64 o35)), .d (.val (.int .i64 o36)), .d (.val (.int .i64 o37)), .d (.val (.string o38)), .d (.slice o39)]], [] => some (.x0 o32 o33 o34 o35 o36 o37 o38 o39)
    | .normal, [.undef, .d (.val (.int .i64 o40))], [.cells (some 3) [.d (.val (.int .i64 o41))], .cells none [.d (.val (.int .i64 o42)), .d (.val (.int .i64 o43)), .d (.val (.int .i64 o44)), .d (.val (.string o45)), .d (.slice o46)]], [] => some (.x1 o40 o41 o42 o43 o44 o45 o46)
    | _, _, _, _ => none
  exO := fun x => match x with
    | .x0 o32 o33 o34 o35 o36 o37 o38 o39 => .ret
    | .x1 o40 o41 o42 o43 o44 o45 o46 => .normal
  outV := fun x => match x with
    | .x0 o32 o33 o34 o35 o36 o37 o38 o39 => [.d (.val (.int .i64 o32)), .d (.val (.int .i64 o33))]
    | .x1 o40 o41 o42 o43 o44 o45 o46 => [.undef, .d (.val (.int .i64 o40))]
  outB := fun x => match x with
    | .x0 o32 o33 o34 o35 o36 o37 o38 o39 => [.cells (some 3) [.d (.val (.int .i64 o34))], .cells none [.d (.val (.int .i64 o35)), .d (.val (.int .i64 o36)), .d (.val (.int .i64 o37)), .d (.val (.string o38)), .d (.slice o39)]]
    | .x1 o40 o41 o42 o43 o44 o45 o46 => [.cells (some 3) [.d (.val (.int .i64 o41))], .cells none [.d (.val (.int .i64 o42)), .d (.val (.int .i64 o43)), .d (.val (.int .i64 o44)), .d (.val (.string o45)), .d (.slice o46)]]
  tkO := fun x => match x with
    | .x0 o32 o33 o34 o35 o36 o37 o38 o39 => []
    | .x1 o40 o41 o42 o43 o44 o45 o46 => []
  elim := fun x k => match x with
    | .x0 o32 o33 o34 o35 o36 o37 o38 o39 => k .ret [.d (.val (.int .i64 o32)), .d (.val (.int .i64 o33))] [.cells (some 3) [.d (.val (.int .i64 o34))], .cells none [.d (.val (.int .i64 o35)), .d (.val (.int .i64 o36)), .d (.val (.int .i64 o37)), .d (.val (.string o38)), .d (.slice o39)]] []
    | .x1 o40 o41 o42 o43 o44 o45 o46 => k .normal [.undef, .d (.val (.int .i64 o40))] [.cells (some 3) [.d (.val (.int .i64 o41))], .cells none [.d (.val (.int .i64 o42)), .d (.val (.int .i64 o43)), .d (.val (.int .i64 o44)), .d (.val (.string o45)), .d (.slice o46)]] []
theorem k112_0 : l112_0.Ok where
  ok1 := by kernel_rfl
  ok2 := by kernel_rfl
  dec := by
    intro vs bs ts a h
    simp only [l112_0] at h ⊢
    split at h
    · cases h; exact ⟨rfl, rfl⟩
    · cases h
  out := by
    intro ex vs bs ts o h
    simp only [l112_0] at h ⊢
    split at h
    · cases h; exact ⟨rfl, rfl, rfl⟩
    · cases h; exact ⟨rfl, rfl, rfl⟩
    · cases h
  len := fun _ => ⟨rfl, rfl⟩
  elim := fun β o k => by cases o <;> rfl
def L112_0 {σ : Type} (F : Int × Int × Int × Int × ByteArray × List D × Int → Option (Int × Int)) : Nat → A112_0 → σ → Option (O112_0 × σ)
  | 0, _, _ => none
  | n+1, (v9, v10, v11, v12, v13, v14, v15, v16, v17, v18, v19), s => (bif (decide (v13 < v12)) then ((lidx v11 v13).bind fun d20 => ask (d20.cells.length = 5) ((cellAt 0 d20).bind fun x21 => (asInt .i64 x21).bind fun x22 => ((cellAt 1 d20).bind fun x23 => (asInt .i64 x23).bind fun x24 => ((cellAt 2 d20).bind fun x25 => (asInt .i64 x25).bind fun x26 => ((cellAt 3 d20).bind fun x27 => (asStr x27).bind fun x28 => ((cellAt 4 d20).bind fun x29 => (asRow x29).bind fun x30 => ((F (v14, x22, x24, x26, x28, x30, (w64 (v9 + 1)))).bind fun y31 => (bif (bif (decide (y31.2 > 4096)) then true else (decide ((if y31.1 > v10 then y31.1 else v10) > 16))) then (some (O112_0.x0 (if y31.1 > v10 then y31.1 else v10) (if y31.1 > v10 then y31.1 else v10) y31.2 v15 v16 v17 v18 v19, s)) else (L112_0 F n (v9, (if y31.1 > v10 then y31.1 else v10), v11, v12, (w64 (v13 + 1)), y31.2, v15, v16, v17, v18, v19) s))))))))) else (some (O112_0.x1 v10 v14 v15 v16 v17 v18 v19, s)))
def dM112 (av : List AV) (bs : List Box) (ts : List Nat) : Option (Int × Int × Int × Int × ByteArray × List D × Int) := match av, bs, ts with
  | [.d (.agg [.val (.int .i64 a0), .val (.int .i64 a1), .val (.int .i64 a2), .val (.string a3), .slice a4]), .d (.val (.int .i64 a5)), .ptr 0 0], [.cells (some 3) [.d (.val (.int .i64 a6))]], [] => some (a6, a0, a1, a2, a3, a4, a5)
  | _, _, _ => none
def aM112 : (Int × Int × Int × Int × ByteArray × List D × Int) → List AV := fun (a6, a0, a1, a2, a3, a4, a5) => [.d (.agg [.val (.int .i64 a0), .val (.int .i64 a1), .val (.int .i64 a2), .val (.string a3), .slice a4]), .d (.val (.int .i64 a5)), .ptr 0 0]
def bM112 : (Int × Int × Int × Int × ByteArray × List D × Int) → List Box := fun (a6, a0, a1, a2, a3, a4, a5) => [.cells (some 3) [.d (.val (.int .i64 a6))]]
def tM112 : (Int × Int × Int × Int × ByteArray × List D × Int) → List Nat := fun (a6, a0, a1, a2, a3, a4, a5) => []
def vM112 : (Int × Int) → AV := fun (a7, p8) => .d (.val (.int .i64 a7))
def cM112 : (Int × Int) → List Box := fun (a7, p8) => [.cells (some 3) [.d (.val (.int .i64 p8))]]
def kM112 : (Int × Int) → List Nat := fun (a7, p8) => []
def rM112 (v : AV) (bs : List Box) (ts : List Nat) : Option (Int × Int) := match v, bs, ts with
  | .d (.val (.int .i64 a7)), [.cells (some 3) [.d (.val (.int .i64 p8))]], [] => some (a7, p8)
  | _, _, _ => none
def n112 : Nat → Int × Int × Int × Int × ByteArray × List D × Int → Option (Int × Int)
  | 0, _ => none
  | k + 1, (a6, a0, a1, a2, a3, a4, a5) => (bif (bif (decide ((w64 (a6 + 1)) > 4096)) then true else (decide (a5 > 16))) then (some (a5, (w64 (a6 + 1)))) else ((L112_0 (n112 k) 1000000000000 (a5, a5, a4, ((a4.length : Nat) : Int), 0, (w64 (a6 + 1)), a0, a1, a2, a3, a4) ()).bind fun p47 => match p47.1 with | .x0 z48 z49 z50 z51 z52 z53 z54 z55 => (some (z48, z50)) | .x1 z56 z57 z58 z59 z60 z61 z62 => (some (z56, z57))))
def g112 (k : Nat) {σ : Type} : Nat → Option (SegE σ)
  | 0 => some (l112_0.seg σ (L112_0 (n112 k) 1000000000000))
  | _ => none
noncomputable def tabsR112 (gl : Nat → Option (List D)) (k : Nat) : Tabs := oddAt (tabs gl) 112 (methE 112 dM112 (n112 k) (fun _ => vM112) (fun _ => cM112) (fun _ => kM112))
theorem E112_0 {σ : Type} (k : Nat) (Y : Yd σ) : ∀ n a (s : σ), L112_0 (n112 k) (n + 1) a s = evK (cfgOf Tryz.prog (tabsR112 gl k) tS0) (toldOf tS0) Y (inlN (cfgOf Tryz.prog (tabsR112 gl k) tS0) (toldOf tS0) Y) (g112 k) 112 (loopAt Tryz.f112 0) ((l112_0.toT σ).enc a s) (fun ex st' => l112_0.next (cfgOf Tryz.prog (tabsR112 gl k) tS0) 112 0 (L112_0 (n112 k) n) ex st') := by
  intro n ⟨v9, v10, v11, v12, v13, v14, v15, v16, v17, v18, v19⟩ s
  kernel_rfl
theorem Q112_0 {σ : Type} (hl : LibFits gl) (k : Nat) (Y : Yd σ) (rnd : Bool) : SegOk (cfgOf Tryz.prog (tabsR112 gl k) tS0) (evFn (cfgOf Tryz.prog (tabsR112 gl k) tS0) 9) 112 rnd Y (l112_0.seg σ (L112_0 (n112 k) 1000000000000)) (.block 0 (.loop (loopAt Tryz.f112 0))) :=
  told_loop (okS0 hl) k112_0 (by kernel_rfl) (by kernel_rfl) (fun _ _ => rfl) (segs_no (by kernel_rfl)) (E112_0 k Y) (hr := by kernel_rfl)
theorem N112 : ∀ k a, n112 (k + 1) a = bodyK (cfgOf Tryz.prog (tabsR112 gl k) tS0) (toldOf tS0) noY (inlN (cfgOf Tryz.prog (tabsR112 gl k) tS0) (toldOf tS0) noY) (g112 k) 112 Tryz.f112 (aM112 a) (bM112 a) (tM112 a) () (retK fun v b tk _ => rM112 v b tk) := by
  intro k a
  obtain ⟨a6, a0, a1, a2, a3, a4, a5⟩ := a
  kernel_rfl
theorem om112 (hl : LibFits gl) (k : Nat) : OddSound Tryz.prog gl (fun g => bif Nat.beq g 112 then some (methE 112 dM112 (n112 k) (fun _ => vM112) (fun _ => cM112) (fun _ => kM112)) else (tabs gl).odd g) :=
  told_methRec (t := tabs gl) (okS0 hl) mixed oddOk methOk Tryz.func112 (by kernel_rfl) (by kernel_rfl) (nat := n112) (argsOf := aM112) (boxOf := bM112) (tokOf := tM112) (res := fun _ => rM112) (seg := fun k => (g112 k)) (by kernel_rfl) (fun k => (fun p hp e he => by
    have hq : segsOf (σ := Unit) (g112 k (σ := Unit)) (bodyOf Tryz.f112) = [(0, .loop (loopAt Tryz.f112 0))] := by kernel_rfl
    rw [hq] at hp
    simp only [List.mem_cons, List.not_mem_nil, or_false] at hp
    subst hp
    cases he
    exact Q112_0 hl k _ _))
    (fun av bs ts a h => by
      unfold dM112 at h
      split at h
      · cases h; exact ⟨rfl, rfl, rfl⟩
      · cases h)
    (fun _ v b tk o h => by
      unfold rM112 at h
      split at h
      · cases h; exact ⟨rfl, rfl, rfl⟩
      · cases h)
    (fun _ => rfl) N112 k
def d153 (ds : List D) : Option (Int × Int × Int × ByteArray × List D × Bool × Bool × Bool × Bool) := match ds with
  | [.agg [.val (.int .i64 a0), .val (.int .i64 a1), .val (.int .i64 a2), .val (.string a3), .slice a4], .val (.bool a5), .val (.bool a6), .val (.bool a7), .val (.bool a8)] => some (a0, a1, a2, a3, a4, a5, a6, a7, a8)
  | _ => none
def r153 (v : AV) : Option (Bool) := match toPR v with
  | some (.one (.val (.bool a9))) => some a9
  | _ => none
def n153 : Int × Int × Int × ByteArray × List D × Bool × Bool × Bool × Bool → Option (Bool) := fun (a0, a1, a2, a3, a4, a5, a6, a7, a8) => (bif (bif a5 then true else (a1 == 0)) then (bif a6 then (bif a7 then (bif a8 then (some true) else (some (((a4.length : Nat) : Int) == 0))) else (bif (sEq a3 (⟨#[]⟩ : ByteArray)) then (bif a8 then (some true) else (some (((a4.length : Nat) : Int) == 0))) else (some false))) else (bif (a2 == 0) then (bif a7 then (bif a8 then (some true) else (some (((a4.length : Nat) : Int) == 0))) else (bif (sEq a3 (⟨#[]⟩ : ByteArray)) then (bif a8 then (some true) else (some (((a4.length : Nat) : Int) == 0))) else (some false))) else (some false))) else (some false))
def e153 : PureE := mkE d153 n153 (fun a9 => .one (.val (.bool a9)))
def g153 {σ : Type} : Nat → Option (SegE σ)
  | _ => none
theorem N153 : ∀ a, n153 a = bodyK (cfgOf Tryz.prog (tabs gl) tS0) (toldOf tS0) noY (inlN (cfgOf Tryz.prog (tabs gl) tS0) (toldOf tS0) noY) g153 153 Tryz.f153 (((fun (a0, a1, a2, a3, a4, a5, a6, a7, a8) => [.agg [.val (.int .i64 a0), .val (.int .i64 a1), .val (.int .i64 a2), .val (.string a3), .slice a4], .val (.bool a5), .val (.bool a6), .val (.bool a7), .val (.bool a8)] : (Int × Int × Int × ByteArray × List D × Bool × Bool × Bool × Bool) → List D) a).map .d) [] [] () (retK fun v _ _ _ => r153 v) := by
  intro a
  obtain ⟨a0, a1, a2, a3, a4, a5, a6, a7, a8⟩ := a
  kernel_rfl
noncomputable def t153 : Tab := (153, e153) :: tS0
theorem ok153 (hl : LibFits gl) : TabOk Tryz.prog gl t153 :=
  told_fn (okS0 hl) mixed oddOk methOk Tryz.func153 (by kernel_rfl) (by kernel_rfl) (by kernel_rfl) (segs_no (by kernel_rfl))
    (args := fun (a0, a1, a2, a3, a4, a5, a6, a7, a8) => [.agg [.val (.int .i64 a0), .val (.int .i64 a1), .val (.int .i64 a2), .val (.string a3), .slice a4], .val (.bool a5), .val (.bool a6), .val (.bool a7), .val (.bool a8)]) (res := r153)
    (fun ds a h => by
      unfold d153 at h
      split at h
      · cases h; rfl
      · cases h)
    (fun v r h => by
      unfold r153 at h
      split at h
      · rename_i hv; cases h; exact hv
      · cases h)
    N153
def d70 (ds : List D) : Option (Int) := match ds with
  | [.val (.int .i64 a0)] => some a0
  | _ => none
def r70 (v : AV) : Option (Bool) := match toPR v with
  | some (.one (.val (.bool a1))) => some a1
  | _ => none
def n70 : Int → Option (Bool) := fun a0 => (some (bif (decide (a0 ≥ (-1048576))) then (decide (a0 ≤ 1048576)) else false))
def e70 : PureE := mkE d70 n70 (fun a1 => .one (.val (.bool a1)))
def g70 {σ : Type} : Nat → Option (SegE σ)
  | _ => none
theorem N70 : ∀ a, n70 a = bodyK (cfgOf Tryz.prog (tabs gl) tS0) (toldOf tS0) noY (inlN (cfgOf Tryz.prog (tabs gl) tS0) (toldOf tS0) noY) g70 70 Tryz.f70 (((fun a0 => [.val (.int .i64 a0)] : (Int) → List D) a).map .d) [] [] () (retK fun v _ _ _ => r70 v) := by
  intro a0
  kernel_rfl
noncomputable def t70 : Tab := (70, e70) :: tS0
theorem ok70 (hl : LibFits gl) : TabOk Tryz.prog gl t70 :=
  told_fn (okS0 hl) mixed oddOk methOk Tryz.func70 (by kernel_rfl) (by kernel_rfl) (by kernel_rfl) (segs_no (by kernel_rfl))
    (args := fun a0 => [.val (.int .i64 a0)]) (res := r70)
    (fun ds a h => by
      unfold d70 at h
      split at h
      · cases h; rfl
      · cases h)
    (fun v r h => by
      unfold r70 at h
      split at h
      · rename_i hv; cases h; exact hv
      · cases h)
    N70
def d204 (ds : List D) : Option (ByteArray × Int × Int × Int) := match ds with
  | [.val (.string a0), .val (.int .i64 a1), .val (.int .u8 a2), .val (.int .u8 a3)] => some (a0, a1, a2, a3)
  | _ => none
def r204 (v : AV) : Option (Bool) := match toPR v with
  | some (.one (.val (.bool a4))) => some a4
  | _ => none
def n204 : ByteArray × Int × Int × Int → Option (Bool) := fun (a0, a1, a2, a3) => (bif (decide (a1 < (a0.size : Int))) then ((sidx a0 a1).bind fun c5 => (bif (decide ((c5.toNat : Int) ≥ a2)) then ((sidx a0 a1).bind fun c6 => (some (decide ((c6.toNat : Int) ≤ a3)))) else (some false))) else (some false))
def e204 : PureE := mkE d204 n204 (fun a4 => .one (.val (.bool a4)))
def g204 {σ : Type} : Nat → Option (SegE σ)
  | _ => none
theorem N204 : ∀ a, n204 a = bodyK (cfgOf Tryz.prog (tabs gl) tS0) (toldOf tS0) noY (inlN (cfgOf Tryz.prog (tabs gl) tS0) (toldOf tS0) noY) g204 204 Tryz.f204 (((fun (a0, a1, a2, a3) => [.val (.string a0), .val (.int .i64 a1), .val (.int .u8 a2), .val (.int .u8 a3)] : (ByteArray × Int × Int × Int) → List D) a).map .d) [] [] () (retK fun v _ _ _ => r204 v) := by
  intro a
  obtain ⟨a0, a1, a2, a3⟩ := a
  kernel_rfl
noncomputable def t204 : Tab := (204, e204) :: tS0
theorem ok204 (hl : LibFits gl) : TabOk Tryz.prog gl t204 :=
  told_fn (okS0 hl) mixed oddOk methOk Tryz.func204 (by kernel_rfl) (by kernel_rfl) (by kernel_rfl) (segs_no (by kernel_rfl))
    (args := fun (a0, a1, a2, a3) => [.val (.string a0), .val (.int .i64 a1), .val (.int .u8 a2), .val (.int .u8 a3)]) (res := r204)
    (fun ds a h => by
      unfold d204 at h
      split at h
      · cases h; rfl
      · cases h)
    (fun v r h => by
      unfold r204 at h
      split at h
      · rename_i hv; cases h; exact hv
      · cases h)
    N204
def d167 (ds : List D) : Option (Int) := match ds with
  | [.val (.int .i64 a0)] => some a0
  | _ => none
def r167 (v : AV) : Option (Bool) := match toPR v with
  | some (.one (.val (.bool a1))) => some a1
  | _ => none
def n167 : Int → Option (Bool) := fun a0 => (bif (bif (decide (a0 ≥ 97)) then (decide (a0 ≤ 122)) else false) then (some true) else (bif (bif (decide (a0 ≥ 65)) then (decide (a0 ≤ 90)) else false) then (some true) else (bif (a0 == 95) then (some true) else (bif (bif (decide (a0 ≥ 192)) then (decide (a0 ≤ 591)) else false) then (some (bif (a0 != 215) then (a0 != 247) else false)) else (bif (bif (decide (a0 ≥ 913)) then (decide (a0 ≤ 969)) else false) then (some (a0 != 930)) else (some false))))))
def e167 : PureE := mkE d167 n167 (fun a1 => .one (.val (.bool a1)))
def g167 {σ : Type} : Nat → Option (SegE σ)
  | _ => none
theorem N167 : ∀ a, n167 a = bodyK (cfgOf Tryz.prog (tabs gl) tS0) (toldOf tS0) noY (inlN (cfgOf Tryz.prog (tabs gl) tS0) (toldOf tS0) noY) g167 167 Tryz.f167 (((fun a0 => [.val (.int .i64 a0)] : (Int) → List D) a).map .d) [] [] () (retK fun v _ _ _ => r167 v) := by
  intro a0
  kernel_rfl
noncomputable def t167 : Tab := (167, e167) :: tS0
theorem ok167 (hl : LibFits gl) : TabOk Tryz.prog gl t167 :=
  told_fn (okS0 hl) mixed oddOk methOk Tryz.func167 (by kernel_rfl) (by kernel_rfl) (by kernel_rfl) (segs_no (by kernel_rfl))
    (args := fun a0 => [.val (.int .i64 a0)]) (res := r167)
    (fun ds a h => by
      unfold d167 at h
      split at h
      · cases h; rfl
      · cases h)
    (fun v r h => by
      unfold r167 at h
      split at h
      · rename_i hv; cases h; exact hv
      · cases h)
    N167
def d177 (ds : List D) : Option (Bool × Bool) := match ds with
  | [.val (.bool a0), .val (.bool a1)] => some (a0, a1)
  | _ => none
def r177 (v : AV) : Option (Int) := match toPR v with
  | some (.one (.val (.int .i64 a2))) => some a2
  | _ => none
def n177 : Bool × Bool → Option (Int) := fun (a0, a1) => (bif a0 then (some (-1)) else (bif a1 then (some 1) else (some 0)))
def e177 : PureE := mkE d177 n177 (fun a2 => .one (.val (.int .i64 a2)))
def g177 {σ : Type} : Nat → Option (SegE σ)
  | _ => none
theorem N177 : ∀ a, n177 a = bodyK (cfgOf Tryz.prog (tabs gl) tS0) (toldOf tS0) noY (inlN (cfgOf Tryz.prog (tabs gl) tS0) (toldOf tS0) noY) g177 177 Tryz.f177 (((fun (a0, a1) => [.val (.bool a0), .val (.bool a1)] : (Bool × Bool) → List D) a).map .d) [] [] () (retK fun v _ _ _ => r177 v) := by
  intro a
  obtain ⟨a0, a1⟩ := a
  kernel_rfl
noncomputable def t177 : Tab := (177, e177) :: tS0
theorem ok177 (hl : LibFits gl) : TabOk Tryz.prog gl t177 :=
  told_fn (okS0 hl) mixed oddOk methOk Tryz.func177 (by kernel_rfl) (by kernel_rfl) (by kernel_rfl) (segs_no (by kernel_rfl))
    (args := fun (a0, a1) => [.val (.bool a0), .val (.bool a1)]) (res := r177)
    (fun ds a h => by
      unfold d177 at h
      split at h
      · cases h; rfl
      · cases h)
    (fun v r h => by
      unfold r177 at h
      split at h
      · rename_i hv; cases h; exact hv
      · cases h)
    N177
def d69 (ds : List D) : Option (Int) := match ds with
  | [.val (.int .i64 a0)] => some a0
  | _ => none
def r69 (v : AV) : Option (Bool) := match toPR v with
  | some (.one (.val (.bool a1))) => some a1
  | _ => none
def n69 : Int → Option (Bool) := fun a0 => (some (bif (decide (a0 ≥ (-1048576))) then (decide (a0 ≤ 1048576)) else false))
def e69 : PureE := mkE d69 n69 (fun a1 => .one (.val (.bool a1)))
def g69 {σ : Type} : Nat → Option (SegE σ)
  | _ => none
theorem N69 : ∀ a, n69 a = bodyK (cfgOf Tryz.prog (tabs gl) tS0) (toldOf tS0) noY (inlN (cfgOf Tryz.prog (tabs gl) tS0) (toldOf tS0) noY) g69 69 Tryz.f69 (((fun a0 => [.val (.int .i64 a0)] : (Int) → List D) a).map .d) [] [] () (retK fun v _ _ _ => r69 v) := by
  intro a0
  kernel_rfl
noncomputable def t69 : Tab := (69, e69) :: tS0
theorem ok69 (hl : LibFits gl) : TabOk Tryz.prog gl t69 :=
  told_fn (okS0 hl) mixed oddOk methOk Tryz.func69 (by kernel_rfl) (by kernel_rfl) (by kernel_rfl) (segs_no (by kernel_rfl))
    (args := fun a0 => [.val (.int .i64 a0)]) (res := r69)
    (fun ds a h => by
      unfold d69 at h
      split at h
      · cases h; rfl
      · cases h)
    (fun v r h => by
      unfold r69 at h
      split at h
      · rename_i hv; cases h; exact hv
      · cases h)
    N69
def d187 (ds : List D) : Option (Unit) := match ds with
  | [] => some ()
  | _ => none
def r187 (v : AV) : Option (Int × Int × Int × Int × Int × Int × Int × Int × Int × Int × Int × Int × Int × Int × Int × Int) := match toPR v with
  | some (.one (.agg [.val (.int .i32 a0), .val (.int .i32 a1), .val (.int .i32 a2), .val (.int .i32 a3), .val (.int .i32 a4), .val (.int .i32 a5), .val (.int .i32 a6), .val (.int .i32 a7), .val (.int .i32 a8), .val (.int .i32 a9), .val (.int .i32 a10), .val (.int .i32 a11), .val (.int .i32 a12), .val (.int .i32 a13), .val (.int .i32 a14), .val (.int .i32 a15)])) => some (a0, a1, a2, a3, a4, a5, a6, a7, a8, a9, a10, a11, a12, a13, a14, a15)
  | _ => none
def n187 : Unit → Option (Int × Int × Int × Int × Int × Int × Int × Int × Int × Int × Int × Int × Int × Int × Int × Int) := fun () => (some (97, 122, 65, 90, 95, 95, 192, 214, 216, 246, 248, 591, 913, 929, 931, 969))
def e187 : PureE := mkE d187 n187 (fun (a0, a1, a2, a3, a4, a5, a6, a7, a8, a9, a10, a11, a12, a13, a14, a15) => .one (.agg [.val (.int .i32 a0), .val (.int .i32 a1), .val (.int .i32 a2), .val (.int .i32 a3), .val (.int .i32 a4), .val (.int .i32 a5), .val (.int .i32 a6), .val (.int .i32 a7), .val (.int .i32 a8), .val (.int .i32 a9), .val (.int .i32 a10), .val (.int .i32 a11), .val (.int .i32 a12), .val (.int .i32 a13), .val (.int .i32 a14), .val (.int .i32 a15)]))
def g187 {σ : Type} : Nat → Option (SegE σ)
  | _ => none
theorem N187 : ∀ a, n187 a = bodyK (cfgOf Tryz.prog (tabs gl) tS0) (toldOf tS0) noY (inlN (cfgOf Tryz.prog (tabs gl) tS0) (toldOf tS0) noY) g187 187 Tryz.f187 (((fun () => [] : (Unit) → List D) a).map .d) [] [] () (retK fun v _ _ _ => r187 v) := by
  intro a
  kernel_rfl
noncomputable def t187 : Tab := (187, e187) :: tS0
theorem ok187 (hl : LibFits gl) : TabOk Tryz.prog gl t187 :=
  told_fn (okS0 hl) mixed oddOk methOk Tryz.func187 (by kernel_rfl) (by kernel_rfl) (by kernel_rfl) (segs_no (by kernel_rfl))
    (args := fun () => []) (res := r187)
    (fun ds a h => by
      unfold d187 at h
      split at h
      · cases h; rfl
      · cases h)
    (fun v r h => by
      unfold r187 at h
      split at h
      · rename_i hv; cases h; exact hv
      · cases h)
    N187
def d15 (ds : List D) : Option (Int) := match ds with
  | [.val (.int .i64 a0)] => some a0
  | _ => none
def r15 (v : AV) : Option (Int) := match toPR v with
  | some (.one (.val (.int .i64 a1))) => some a1
  | _ => none
def n15 : Int → Option (Int) := fun a0 => (some a0)
def e15 : PureE := mkE d15 n15 (fun a1 => .one (.val (.int .i64 a1)))
def g15 {σ : Type} : Nat → Option (SegE σ)
  | _ => none
theorem N15 : ∀ a, n15 a = bodyK (cfgOf Tryz.prog (tabs gl) tS0) (toldOf tS0) noY (inlN (cfgOf Tryz.prog (tabs gl) tS0) (toldOf tS0) noY) g15 15 Tryz.f15 (((fun a0 => [.val (.int .i64 a0)] : (Int) → List D) a).map .d) [] [] () (retK fun v _ _ _ => r15 v) := by
  intro a0
  kernel_rfl
noncomputable def t15 : Tab := (15, e15) :: tS0
theorem ok15 (hl : LibFits gl) : TabOk Tryz.prog gl t15 :=
  told_fn (okS0 hl) mixed oddOk methOk Tryz.func15 (by kernel_rfl) (by kernel_rfl) (by kernel_rfl) (segs_no (by kernel_rfl))
    (args := fun a0 => [.val (.int .i64 a0)]) (res := r15)
    (fun ds a h => by
      unfold d15 at h
      split at h
      · cases h; rfl
      · cases h)
    (fun v r h => by
      unfold r15 at h
      split at h
      · rename_i hv; cases h; exact hv
      · cases h)
    N15
abbrev A109_0 := Int × Int × Int × Int × Int × Int × ByteArray × List D
inductive O109_0 where
  | x0 (o28 : Int) (o29 : Int) (o30 : Int) (o31 : Int) (o32 : Int) (o33 : ByteArray) (o34 : List D)
  | x1 (o35 : Int) (o36 : Int) (o37 : Int) (o38 : Int) (o39 : ByteArray) (o40 : List D)
def l109_0 : LoopS A109_0 O109_0 where
  n := 36
  ks := [1, 2, 3, 7]
  kso := [1, 6]
  m := 1
  mt := 0
  decV := fun vs bs ts => match vs, bs, ts with
    | [.d (.val (.int .i64 v8)), .d (.val (.int .i64 v9)), .ptr 0 0, .d (.val (.int .i64 v10))], [.cells none [.d (.val (.int .i64 v11)), .d (.val (.int .i64 v12)), .d (.val (.int .i64 v13)), .d (.val (.string v14)), .d (.slice v15)]], [] => some (v8, v9, v10, v11, v12, v13, v14, v15)
    | _, _, _ => none
  encV := fun (v8, v9, v10, v11, v12, v13, v14, v15) => [.d (.val (.int .i64 v8)), .d (.val (.int .i64 v9)), .ptr 0 0, .d (.val (.int .i64 v10))]
  encB := fun (v8, v9, v10, v11, v12, v13, v14, v15) => [.cells none [.d (.val (.int .i64 v11)), .d (.val (.int .i64 v12)), .d (.val (.int .i64 v13)), .d (.val (.string v14)), .d (.slice v15)]]
  tk := fun _ => []
  decO := fun ex vs bs ts => match ex, vs, bs, ts with
    | .ret, [.d (.val (.int .i64 o28)), .d (.val (.int .i64 o29))], [.cells none [.d (.val (.int .i64 o30)), .d (.val (.int .i64 o31)), .d (.val (.int .i64 o32)), .d (.val (.string o33)), .d (.slice o34)]], [] => some (.x0 o28 o29 o30 o31 o32 o33 o34)
    | .normal, [.d (.val (.int .i64 o35)), .undef], [.cells none [.d (.val (.int .i64 o36)), .d (.val (.int .i64 o37)), .d (.val (.int .i64 o38)), .d (.val (.string o39)), .d (.slice o40)]], [] => some (.x1 o35 o36 o37 o38 o39 o40)
    | _, _, _, _ => none
  exO := fun x => match x with
    | .x0 o28 o29 o30 o31 o32 o33 o34 => .ret
    | .x1 o35 o36 o37 o38 o39 o40 => .normal
  outV := fun x => match x with
    | .x0 o28 o29 o30 o31 o32 o33 o34 => [.d (.val (.int .i64 o28)), .d (.val (.int .i64 o29))]
    | .x1 o35 o36 o37 o38 o39 o40 => [.d (.val (.int .i64 o35)), .undef]
  outB := fun x => match x with
    | .x0 o28 o29 o30 o31 o32 o33 o34 => [.cells none [.d (.val (.int .i64 o30)), .d (.val (.int .i64 o31)), .d (.val (.int .i64 o32)), .d (.val (.string o33)), .d (.slice o34)]]
    | .x1 o35 o36 o37 o38 o39 o40 => [.cells none [.d (.val (.int .i64 o36)), .d (.val (.int .i64 o37)), .d (.val (.int .i64 o38)), .d (.val (.string o39)), .d (.slice o40)]]
  tkO := fun x => match x with
    | .x0 o28 o29 o30 o31 o32 o33 o34 => []
    | .x1 o35 o36 o37 o38 o39 o40 => []
  elim := fun x k => match x with
    | .x0 o28 o29 o30 o31 o32 o33 o34 => k .ret [.d (.val (.int .i64 o28)), .d (.val (.int .i64 o29))] [.cells none [.d (.val (.int .i64 o30)), .d (.val (.int .i64 o31)), .d (.val (.int .i64 o32)), .d (.val (.string o33)), .d (.slice o34)]] []
    | .x1 o35 o36 o37 o38 o39 o40 => k .normal [.d (.val (.int .i64 o35)), .undef] [.cells none [.d (.val (.int .i64 o36)), .d (.val (.int .i64 o37)), .d (.val (.int .i64 o38)), .d (.val (.string o39)), .d (.slice o40)]] []
theorem k109_0 : l109_0.Ok where
  ok1 := by kernel_rfl
  ok2 := by kernel_rfl
  dec := by
    intro vs bs ts a h
    simp only [l109_0] at h ⊢
    split at h
    · cases h; exact ⟨rfl, rfl⟩
    · cases h
  out := by
    intro ex vs bs ts o h
    simp only [l109_0] at h ⊢
    split at h
    · cases h; exact ⟨rfl, rfl, rfl⟩
    · cases h; exact ⟨rfl, rfl, rfl⟩
    · cases h
  len := fun _ => ⟨rfl, rfl⟩
  elim := fun β o k => by cases o <;> rfl
def L109_0 {σ : Type} (F : Int × Int × Int × ByteArray × List D × Int × Int → Option (Int)) : Nat → A109_0 → σ → Option (O109_0 × σ)
  | 0, _, _ => none
  | n+1, (v8, v9, v10, v11, v12, v13, v14, v15), s => (bif (decide (v10 < ((v15.length : Nat) : Int))) then ((lidx v15 v10).bind fun d16 => ask (d16.cells.length = 5) ((cellAt 0 d16).bind fun x17 => (asInt .i64 x17).bind fun x18 => ((cellAt 1 d16).bind fun x19 => (asInt .i64 x19).bind fun x20 => ((cellAt 2 d16).bind fun x21 => (asInt .i64 x21).bind fun x22 => ((cellAt 3 d16).bind fun x23 => (asStr x23).bind fun x24 => ((cellAt 4 d16).bind fun x25 => (asRow x25).bind fun x26 => ((F (x18, x20, x22, x24, x26, v8, (w64 (v9 + 1)))).bind fun y27 => (bif (decide (y27 > 4096)) then (some (O109_0.x0 y27 y27 v11 v12 v13 v14 v15, s)) else (L109_0 F n (y27, v9, (w64 (v10 + 1)), v11, v12, v13, v14, v15) s))))))))) else (some (O109_0.x1 v8 v11 v12 v13 v14 v15, s)))
def d109 (ds : List D) : Option (Int × Int × Int × ByteArray × List D × Int × Int) := match ds with
  | [.agg [.val (.int .i64 a0), .val (.int .i64 a1), .val (.int .i64 a2), .val (.string a3), .slice a4], .val (.int .i64 a5), .val (.int .i64 a6)] => some (a0, a1, a2, a3, a4, a5, a6)
  | _ => none
def r109 (v : AV) : Option (Int) := match toPR v with
  | some (.one (.val (.int .i64 a7))) => some a7
  | _ => none
def n109 : Nat → Int × Int × Int × ByteArray × List D × Int × Int → Option (Int)
  | 0, _ => none
  | k + 1, (a0, a1, a2, a3, a4, a5, a6) => (bif (bif (decide ((w64 (a5 + 1)) > 4096)) then true else (decide (a6 > 16))) then (some 4097) else ((L109_0 (n109 k) 1000000000000 ((w64 (a5 + 1)), a6, 0, a0, a1, a2, a3, a4) ()).bind fun p41 => match p41.1 with | .x0 z42 z43 z44 z45 z46 z47 z48 => (some z43) | .x1 z49 z50 z51 z52 z53 z54 => (some z49)))
def e109 : PureE := mkE d109 (n109 64) (fun a7 => .one (.val (.int .i64 a7)))
def g109 (k : Nat) {σ : Type} : Nat → Option (SegE σ)
  | 0 => some (l109_0.seg σ (L109_0 (n109 k) 1000000000000))
  | _ => none
theorem E109_0 {σ : Type} (k : Nat) (Y : Yd σ) : ∀ n a (s : σ), L109_0 (n109 k) (n + 1) a s = evK (cfgOf Tryz.prog (tabs gl) (((109, mkE d109 (n109 k) (fun a7 => .one (.val (.int .i64 a7)))) :: tS0) : Tab)) (toldOf (((109, mkE d109 (n109 k) (fun a7 => .one (.val (.int .i64 a7)))) :: tS0) : Tab)) Y (inlN (cfgOf Tryz.prog (tabs gl) (((109, mkE d109 (n109 k) (fun a7 => .one (.val (.int .i64 a7)))) :: tS0) : Tab)) (toldOf (((109, mkE d109 (n109 k) (fun a7 => .one (.val (.int .i64 a7)))) :: tS0) : Tab)) Y) (g109 k) 109 (loopAt Tryz.f109 0) ((l109_0.toT σ).enc a s) (fun ex st' => l109_0.next (cfgOf Tryz.prog (tabs gl) (((109, mkE d109 (n109 k) (fun a7 => .one (.val (.int .i64 a7)))) :: tS0) : Tab)) 109 0 (L109_0 (n109 k) n) ex st') := by
  intro n ⟨v8, v9, v10, v11, v12, v13, v14, v15⟩ s
  kernel_rfl
theorem Q109_0 {σ : Type} (hl : LibFits gl) (k : Nat) (hk : TabOk Tryz.prog gl (((109, mkE d109 (n109 k) (fun a7 => .one (.val (.int .i64 a7)))) :: tS0) : Tab)) (Y : Yd σ) (rnd : Bool) : SegOk (cfgOf Tryz.prog (tabs gl) (((109, mkE d109 (n109 k) (fun a7 => .one (.val (.int .i64 a7)))) :: tS0) : Tab)) (evFn (cfgOf Tryz.prog (tabs gl) (((109, mkE d109 (n109 k) (fun a7 => .one (.val (.int .i64 a7)))) :: tS0) : Tab)) 9) 109 rnd Y (l109_0.seg σ (L109_0 (n109 k) 1000000000000)) (.block 0 (.loop (loopAt Tryz.f109 0))) :=
  told_loop hk k109_0 (by kernel_rfl) (by kernel_rfl) (fun _ _ => rfl) (segs_no (by kernel_rfl)) (E109_0 k Y) (hr := by kernel_rfl)
theorem N109 : ∀ k a, n109 (k + 1) a = bodyK (cfgOf Tryz.prog (tabs gl) (((109, mkE d109 (n109 k) (fun a7 => .one (.val (.int .i64 a7)))) :: tS0) : Tab)) (toldOf (((109, mkE d109 (n109 k) (fun a7 => .one (.val (.int .i64 a7)))) :: tS0) : Tab)) noY (inlN (cfgOf Tryz.prog (tabs gl) (((109, mkE d109 (n109 k) (fun a7 => .one (.val (.int .i64 a7)))) :: tS0) : Tab)) (toldOf (((109, mkE d109 (n109 k) (fun a7 => .one (.val (.int .i64 a7)))) :: tS0) : Tab)) noY) (g109 k) 109 Tryz.f109 (((fun (a0, a1, a2, a3, a4, a5, a6) => [.agg [.val (.int .i64 a0), .val (.int .i64 a1), .val (.int .i64 a2), .val (.string a3), .slice a4], .val (.int .i64 a5), .val (.int .i64 a6)] : (Int × Int × Int × ByteArray × List D × Int × Int) → List D) a).map .d) [] [] () (retK fun v _ _ _ => r109 v) := by
  intro k a
  obtain ⟨a0, a1, a2, a3, a4, a5, a6⟩ := a
  kernel_rfl
noncomputable def t109 : Tab := (109, e109) :: tS0
theorem ok109 (hl : LibFits gl) : TabOk Tryz.prog gl t109 :=
  told_rec (t := tabs gl) (okS0 hl) mixed oddOk methOk Tryz.func109 (by kernel_rfl) (nat := n109) (seg := fun k => g109 k) (by kernel_rfl) (fun k hk => (fun p hp e he => by
    have hq : segsOf (σ := Unit) (g109 k (σ := Unit)) (bodyOf Tryz.f109) = [(0, .loop (loopAt Tryz.f109 0))] := by kernel_rfl
    rw [hq] at hp
    simp only [List.mem_cons, List.not_mem_nil, or_false] at hp
    subst hp
    cases he
    exact Q109_0 hl k hk _ _))
    (args := fun (a0, a1, a2, a3, a4, a5, a6) => [.agg [.val (.int .i64 a0), .val (.int .i64 a1), .val (.int .i64 a2), .val (.string a3), .slice a4], .val (.int .i64 a5), .val (.int .i64 a6)]) (res := r109)
    (fun ds a h => by
      unfold d109 at h
      split at h
      · cases h; rfl
      · cases h)
    (fun v r h => by
      unfold r109 at h
      split at h
      · rename_i hv; cases h; exact hv
      · cases h)
    (fun _ => rfl) N109 64
abbrev A16_0 := Int × Int × Int × Int × ByteArray × List D × Int × Int × Int × ByteArray × List D
inductive O16_0 where
  | x0 (o45 : Bool) (o46 : Int) (o47 : Int) (o48 : Int) (o49 : ByteArray) (o50 : List D) (o51 : Int) (o52 : Int) (o53 : Int) (o54 : ByteArray) (o55 : List D)
  | x1 (o56 : Int) (o57 : Int) (o58 : Int) (o59 : ByteArray) (o60 : List D) (o61 : Int) (o62 : Int) (o63 : Int) (o64 : ByteArray) (o65 : List D)
def l16_0 : LoopS A16_0 O16_0 where
  n := 60
  ks := [2, 3, 5]
  kso := [4]
  m := 2
  mt := 0
  decV := fun vs bs ts => match vs, bs, ts with
    | [.ptr 0 0, .ptr 1 0, .d (.val (.int .i64 v11))], [.cells none [.d (.val (.int .i64 v12)), .d (.val (.int .i64 v13)), .d (.val (.int .i64 v14)), .d (.val (.string v15)), .d (.slice v16)], .cells none [.d (.val (.int .i64 v17)), .d (.val (.int .i64 v18)), .d (.val (.int .i64 v19)), .d (.val (.string v20)), .d (.slice v21)]], [] => some (v11, v12, v13, v14, v15, v16, v17, v18, v19, v20, v21)
    | _, _, _ => none
  encV := fun (v11, v12, v13, v14, v15, v16, v17, v18, v19, v20, v21) => [.ptr 0 0, .ptr 1 0, .d (.val (.int .i64 v11))]
  encB := fun (v11, v12, v13, v14, v15, v16, v17, v18, v19, v20, v21) => [.cells none [.d (.val (.int .i64 v12)), .d (.val (.int .i64 v13)), .d (.val (.int .i64 v14)), .d (.val (.string v15)), .d (.slice v16)], .cells none [.d (.val (.int .i64 v17)), .d (.val (.int .i64 v18)), .d (.val (.int .i64 v19)), .d (.val (.string v20)), .d (.slice v21)]]
  tk := fun _ => []
  decO := fun ex vs bs ts => match ex, vs, bs, ts with
    | .ret, [.d (.val (.bool o45))], [.cells none [.d (.val (.int .i64 o46)), .d (.val (.int .i64 o47)), .d (.val (.int .i64 o48)), .d (.val (.string o49)), .d (.slice o50)], .cells none [.d (.val (.int .i64 o51)), .d (.val (.int .i64 o52)), .d (.val (.int .i64 o53)), .d (.val (.string o54)), .d (.slice o55)]], [] => some (.x0 o45 o46 o47 o48 o49 o50 o51 o52 o53 o54 o55)
    | .normal, [.undef], [.cells none [.d (.val (.int .i64 o56)), .d (.val (.int .i64 o57)), .d (.val (.int .i64 o58)), .d (.val (.string o59)), .d (.slice o60)], .cells none [.d (.val (.int .i64 o61)), .d (.val (.int .i64 o62)), .d (.val (.int .i64 o63)), .d (.val (.string o64)), .d (.slice o65)]], [] => some (.x1 o56 o57 o58 o59 o60 o61 o62 o63 o64 o65)
    | _, _, _, _ => none
  exO := fun x => match x with
    | .x0 o45 o46 o47 o48 o49 o50 o51 o52 o53 o54 o55 => .ret
    | .x1 o56 o57 o58 o59 o60 o61 o62 o63 o64 o65 => .normal
  outV := fun x => match x with
    | .x0 o45 o46 o47 o48 o49 o50 o51 o52 o53 o54 o55 => [.d (.val (.bool o45))]
    | .x1 o56 o57 o58 o59 o60 o61 o62 o63 o64 o65 => [.undef]
  outB := fun x => match x with
    | .x0 o45 o46 o47 o48 o49 o50 o51 o52 o53 o54 o55 => [.cells none [.d (.val (.int .i64 o46)), .d (.val (.int .i64 o47)), .d (.val (.int .i64 o48)), .d (.val (.string o49)), .d (.slice o50)], .cells none [.d (.val (.int .i64 o51)), .d (.val (.int .i64 o52)), .d (.val (.int .i64 o53)), .d (.val (.string o54)), .d (.slice o55)]]
    | .x1 o56 o57 o58 o59 o60 o61 o62 o63 o64 o65 => [.cells none [.d (.val (.int .i64 o56)), .d (.val (.int .i64 o57)), .d (.val (.int .i64 o58)), .d (.val (.string o59)), .d (.slice o60)], .cells none [.d (.val (.int .i64 o61)), .d (.val (.int .i64 o62)), .d (.val (.int .i64 o63)), .d (.val (.string o64)), .d (.slice o65)]]
  tkO := fun x => match x with
    | .x0 o45 o46 o47 o48 o49 o50 o51 o52 o53 o54 o55 => []
    | .x1 o56 o57 o58 o59 o60 o61 o62 o63 o64 o65 => []
  elim := fun x k => match x with
    | .x0 o45 o46 o47 o48 o49 o50 o51 o52 o53 o54 o55 => k .ret [.d (.val (.bool o45))] [.cells none [.d (.val (.int .i64 o46)), .d (.val (.int .i64 o47)), .d (.val (.int .i64 o48)), .d (.val (.string o49)), .d (.slice o50)], .cells none [.d (.val (.int .i64 o51)), .d (.val (.int .i64 o52)), .d (.val (.int .i64 o53)), .d (.val (.string o54)), .d (.slice o55)]] []
    | .x1 o56 o57 o58 o59 o60 o61 o62 o63 o64 o65 => k .normal [.undef] [.cells none [.d (.val (.int .i64 o56)), .d (.val (.int .i64 o57)), .d (.val (.int .i64 o58)), .d (.val (.string o59)), .d (.slice o60)], .cells none [.d (.val (.int .i64 o61)), .d (.val (.int .i64 o62)), .d (.val (.int .i64 o63)), .d (.val (.string o64)), .d (.slice o65)]] []
theorem k16_0 : l16_0.Ok where
  ok1 := by kernel_rfl
  ok2 := by kernel_rfl
  dec := by
    intro vs bs ts a h
    simp only [l16_0] at h ⊢
    split at h
    · cases h; exact ⟨rfl, rfl⟩
    · cases h
  out := by
    intro ex vs bs ts o h
    simp only [l16_0] at h ⊢
    split at h
    · cases h; exact ⟨rfl, rfl, rfl⟩
    · cases h; exact ⟨rfl, rfl, rfl⟩
    · cases h
  len := fun _ => ⟨rfl, rfl⟩
  elim := fun β o k => by cases o <;> rfl
def L16_0 {σ : Type} (F : Int × Int × Int × ByteArray × List D × Int × Int × Int × ByteArray × List D → Option (Bool)) : Nat → A16_0 → σ → Option (O16_0 × σ)
  | 0, _, _ => none
  | n+1, (v11, v12, v13, v14, v15, v16, v17, v18, v19, v20, v21), s => (bif (decide (v11 < ((v16.length : Nat) : Int))) then ((lidx v16 v11).bind fun d22 => ask (d22.cells.length = 5) ((cellAt 0 d22).bind fun x23 => (asInt .i64 x23).bind fun x24 => ((cellAt 1 d22).bind fun x25 => (asInt .i64 x25).bind fun x26 => ((cellAt 2 d22).bind fun x27 => (asInt .i64 x27).bind fun x28 => ((cellAt 3 d22).bind fun x29 => (asStr x29).bind fun x30 => ((cellAt 4 d22).bind fun x31 => (asRow x31).bind fun x32 => ((lidx v21 v11).bind fun d33 => ask (d33.cells.length = 5) ((cellAt 0 d33).bind fun x34 => (asInt .i64 x34).bind fun x35 => ((cellAt 1 d33).bind fun x36 => (asInt .i64 x36).bind fun x37 => ((cellAt 2 d33).bind fun x38 => (asInt .i64 x38).bind fun x39 => ((cellAt 3 d33).bind fun x40 => (asStr x40).bind fun x41 => ((cellAt 4 d33).bind fun x42 => (asRow x42).bind fun x43 => ((F (x24, x26, x28, x30, x32, x35, x37, x39, x41, x43)).bind fun y44 => (bif (!y44) then (some (O16_0.x0 false v12 v13 v14 v15 v16 v17 v18 v19 v20 v21, s)) else (L16_0 F n ((w64 (v11 + 1)), v12, v13, v14, v15, v16, v17, v18, v19, v20, v21) s))))))))))))))) else (some (O16_0.x1 v12 v13 v14 v15 v16 v17 v18 v19 v20 v21, s)))
def d16 (ds : List D) : Option (Int × Int × Int × ByteArray × List D × Int × Int × Int × ByteArray × List D) := match ds with
  | [.agg [.val (.int .i64 a0), .val (.int .i64 a1), .val (.int .i64 a2), .val (.string a3), .slice a4], .agg [.val (.int .i64 a5), .val (.int .i64 a6), .val (.int .i64 a7), .val (.string a8), .slice a9]] => some (a0, a1, a2, a3, a4, a5, a6, a7, a8, a9)
  | _ => none
def r16 (v : AV) : Option (Bool) := match toPR v with
  | some (.one (.val (.bool a10))) => some a10
  | _ => none
def n16 : Nat → Int × Int × Int × ByteArray × List D × Int × Int × Int × ByteArray × List D → Option (Bool)
  | 0, _ => none
  | k + 1, (a0, a1, a2, a3, a4, a5, a6, a7, a8, a9) => (bif (bif (bif (bif (bif (a0 != a5) then true else (a1 != a6)) then true else (a2 != a7)) then true else (!(sEq a3 a8))) then true else (((a4.length : Nat) : Int) != ((a9.length : Nat) : Int))) then (some false) else ((L16_0 (n16 k) 1000000000000 (0, a0, a1, a2, a3, a4, a5, a6, a7, a8, a9) ()).bind fun p66 => match p66.1 with | .x0 z67 z68 z69 z70 z71 z72 z73 z74 z75 z76 z77 => (some z67) | .x1 z78 z79 z80 z81 z82 z83 z84 z85 z86 z87 => (some true)))
def e16 : PureE := mkE d16 (n16 64) (fun a10 => .one (.val (.bool a10)))
def g16 (k : Nat) {σ : Type} : Nat → Option (SegE σ)
  | 0 => some (l16_0.seg σ (L16_0 (n16 k) 1000000000000))
  | _ => none
theorem E16_0 {σ : Type} (k : Nat) (Y : Yd σ) : ∀ n a (s : σ), L16_0 (n16 k) (n + 1) a s = evK (cfgOf Tryz.prog (tabs gl) (((16, mkE d16 (n16 k) (fun a10 => .one (.val (.bool a10)))) :: tS0) : Tab)) (toldOf (((16, mkE d16 (n16 k) (fun a10 => .one (.val (.bool a10)))) :: tS0) : Tab)) Y (inlN (cfgOf Tryz.prog (tabs gl) (((16, mkE d16 (n16 k) (fun a10 => .one (.val (.bool a10)))) :: tS0) : Tab)) (toldOf (((16, mkE d16 (n16 k) (fun a10 => .one (.val (.bool a10)))) :: tS0) : Tab)) Y) (g16 k) 16 (loopAt Tryz.f16 0) ((l16_0.toT σ).enc a s) (fun ex st' => l16_0.next (cfgOf Tryz.prog (tabs gl) (((16, mkE d16 (n16 k) (fun a10 => .one (.val (.bool a10)))) :: tS0) : Tab)) 16 0 (L16_0 (n16 k) n) ex st') := by
  intro n ⟨v11, v12, v13, v14, v15, v16, v17, v18, v19, v20, v21⟩ s
  kernel_rfl
theorem Q16_0 {σ : Type} (hl : LibFits gl) (k : Nat) (hk : TabOk Tryz.prog gl (((16, mkE d16 (n16 k) (fun a10 => .one (.val (.bool a10)))) :: tS0) : Tab)) (Y : Yd σ) (rnd : Bool) : SegOk (cfgOf Tryz.prog (tabs gl) (((16, mkE d16 (n16 k) (fun a10 => .one (.val (.bool a10)))) :: tS0) : Tab)) (evFn (cfgOf Tryz.prog (tabs gl) (((16, mkE d16 (n16 k) (fun a10 => .one (.val (.bool a10)))) :: tS0) : Tab)) 9) 16 rnd Y (l16_0.seg σ (L16_0 (n16 k) 1000000000000)) (.block 0 (.loop (loopAt Tryz.f16 0))) :=
  told_loop hk k16_0 (by kernel_rfl) (by kernel_rfl) (fun _ _ => rfl) (segs_no (by kernel_rfl)) (E16_0 k Y) (hr := by kernel_rfl)
theorem N16 : ∀ k a, n16 (k + 1) a = bodyK (cfgOf Tryz.prog (tabs gl) (((16, mkE d16 (n16 k) (fun a10 => .one (.val (.bool a10)))) :: tS0) : Tab)) (toldOf (((16, mkE d16 (n16 k) (fun a10 => .one (.val (.bool a10)))) :: tS0) : Tab)) noY (inlN (cfgOf Tryz.prog (tabs gl) (((16, mkE d16 (n16 k) (fun a10 => .one (.val (.bool a10)))) :: tS0) : Tab)) (toldOf (((16, mkE d16 (n16 k) (fun a10 => .one (.val (.bool a10)))) :: tS0) : Tab)) noY) (g16 k) 16 Tryz.f16 (((fun (a0, a1, a2, a3, a4, a5, a6, a7, a8, a9) => [.agg [.val (.int .i64 a0), .val (.int .i64 a1), .val (.int .i64 a2), .val (.string a3), .slice a4], .agg [.val (.int .i64 a5), .val (.int .i64 a6), .val (.int .i64 a7), .val (.string a8), .slice a9]] : (Int × Int × Int × ByteArray × List D × Int × Int × Int × ByteArray × List D) → List D) a).map .d) [] [] () (retK fun v _ _ _ => r16 v) := by
  intro k a
  obtain ⟨a0, a1, a2, a3, a4, a5, a6, a7, a8, a9⟩ := a
  kernel_rfl
noncomputable def t16 : Tab := (16, e16) :: tS0
theorem ok16 (hl : LibFits gl) : TabOk Tryz.prog gl t16 :=
  told_rec (t := tabs gl) (okS0 hl) mixed oddOk methOk Tryz.func16 (by kernel_rfl) (nat := n16) (seg := fun k => g16 k) (by kernel_rfl) (fun k hk => (fun p hp e he => by
    have hq : segsOf (σ := Unit) (g16 k (σ := Unit)) (bodyOf Tryz.f16) = [(0, .loop (loopAt Tryz.f16 0))] := by kernel_rfl
    rw [hq] at hp
    simp only [List.mem_cons, List.not_mem_nil, or_false] at hp
    subst hp
    cases he
    exact Q16_0 hl k hk _ _))
    (args := fun (a0, a1, a2, a3, a4, a5, a6, a7, a8, a9) => [.agg [.val (.int .i64 a0), .val (.int .i64 a1), .val (.int .i64 a2), .val (.string a3), .slice a4], .agg [.val (.int .i64 a5), .val (.int .i64 a6), .val (.int .i64 a7), .val (.string a8), .slice a9]]) (res := r16)
    (fun ds a h => by
      unfold d16 at h
      split at h
      · cases h; rfl
      · cases h)
    (fun v r h => by
      unfold r16 at h
      split at h
      · rename_i hv; cases h; exact hv
      · cases h)
    (fun _ => rfl) N16 64
def dM106 (av : List AV) (bs : List Box) (ts : List Nat) : Option (ByteArray × Bool) := match av, bs, ts with
  | [.ptr 0 0], [.cells none [.d (.bytes a0), .d (.val (.bool a1))]], [] => some (a0, a1)
  | _, _, _ => none
def aM106 : (ByteArray × Bool) → List AV := fun (a0, a1) => [.ptr 0 0]
def bM106 : (ByteArray × Bool) → List Box := fun (a0, a1) => [.cells none [.d (.bytes a0), .d (.val (.bool a1))]]
def tM106 : (ByteArray × Bool) → List Nat := fun (a0, a1) => []
def vM106 : (Bool × ByteArray × Bool) → AV := fun (o2, p3, p4) => .d (.val (.bool o2))
def cM106 : (Bool × ByteArray × Bool) → List Box := fun (o2, p3, p4) => [.cells none [.d (.bytes p3), .d (.val (.bool p4))]]
def kM106 : (Bool × ByteArray × Bool) → List Nat := fun (o2, p3, p4) => []
def rM106 (v : AV) (bs : List Box) (ts : List Nat) : Option (Bool × ByteArray × Bool) := match v, bs, ts with
  | .d (.val (.bool o2)), [.cells none [.d (.bytes p3), .d (.val (.bool p4))]], [] => some (o2, p3, p4)
  | _, _, _ => none
def n106 : ByteArray × Bool → Option (Bool × ByteArray × Bool) := fun (a0, a1) => (some (a1, a0, a1))
theorem hM106 : ∀ a o, n106 a = some o → cM106 o = bM106 a ∧ kM106 o = tM106 a := by
  intro a
  obtain ⟨a0, a1⟩ := a
  refine (?_ : Qt (n106 _) _)
  unfold n106
  dsimp only
  repeat' (first | exact qt_some ⟨rfl, rfl⟩ | exact qt_none | refine qt_bif ?_ ?_ | refine qt_ask ?_ | (refine qt_bind ?_; intro v; try dsimp only) | split)
def g106 {σ : Type} : Nat → Option (SegE σ)
  | _ => none
theorem N106 : ∀ a, n106 a = bodyK (cfgOf Tryz.prog (tabs gl) tS0) (toldOf tS0) noY (inlN (cfgOf Tryz.prog (tabs gl) tS0) (toldOf tS0) noY) g106 106 Tryz.f106 (aM106 a) (bM106 a) (tM106 a) () (retK fun v b tk _ => rM106 v b tk) := by
  intro a
  obtain ⟨a0, a1⟩ := a
  kernel_rfl
theorem om106 (hl : LibFits gl) : OddSound Tryz.prog gl (fun g => bif Nat.beq g 106 then some (methR 106 dM106 n106 vM106 cM106 kM106) else (tabs gl).odd g) :=
  told_methR (t := tabs gl) (okS0 hl) mixed oddOk methOk Tryz.func106 (by kernel_rfl) (by kernel_rfl) (argsOf := aM106) (boxOf := bM106) (tokOf := tM106) (res := rM106) hM106 (by kernel_rfl) (segs_no (by kernel_rfl))
    (fun av bs ts a h => by
      unfold dM106 at h
      split at h
      · cases h; exact ⟨rfl, rfl, rfl⟩
      · cases h)
    (fun v b tk o h => by
      unfold rM106 at h
      split at h
      · cases h; exact ⟨rfl, rfl, rfl⟩
      · cases h)
    N106
abbrev A107_0 := ByteArray × Int × Int × Int
inductive O107_0 where
  | x0 (o9 : Int) (o10 : Int)
  | x1 
def l107_0 : LoopS A107_0 O107_0 where
  n := 55
  ks := [0, 1, 6, 7]
  kso := [4, 5]
  m := 0
  mt := 0
  decV := fun vs bs ts => match vs, bs, ts with
    | [.d (.bytes v4), .d (.val (.int .i64 v5)), .d (.val (.int .u64 v6)), .d (.val (.int .i64 v7))], [], [] => some (v4, v5, v6, v7)
    | _, _, _ => none
  encV := fun (v4, v5, v6, v7) => [.d (.bytes v4), .d (.val (.int .i64 v5)), .d (.val (.int .u64 v6)), .d (.val (.int .i64 v7))]
  encB := fun (v4, v5, v6, v7) => []
  tk := fun _ => []
  decO := fun ex vs bs ts => match ex, vs, bs, ts with
    | .ret, [.d (.val (.int .u64 o9)), .d (.val (.int .i64 o10))], [], [] => some (.x0 o9 o10)
    | .normal, [.undef, .undef], [], [] => some (.x1 )
    | _, _, _, _ => none
  exO := fun x => match x with
    | .x0 o9 o10 => .ret
    | .x1  => .normal
  outV := fun x => match x with
    | .x0 o9 o10 => [.d (.val (.int .u64 o9)), .d (.val (.int .i64 o10))]
    | .x1  => [.undef, .undef]
  outB := fun x => match x with
    | .x0 o9 o10 => []
    | .x1  => []
  tkO := fun x => match x with
    | .x0 o9 o10 => []
    | .x1  => []
  elim := fun x k => match x with
    | .x0 o9 o10 => k .ret [.d (.val (.int .u64 o9)), .d (.val (.int .i64 o10))] [] []
    | .x1  => k .normal [.undef, .undef] [] []
theorem k107_0 : l107_0.Ok where
  ok1 := by kernel_rfl
  ok2 := by kernel_rfl
  dec := by
    intro vs bs ts a h
    simp only [l107_0] at h ⊢
    split at h
    · cases h; exact ⟨rfl, rfl⟩
    · cases h
  out := by
    intro ex vs bs ts o h
    simp only [l107_0] at h ⊢
    split at h
    · cases h; exact ⟨rfl, rfl, rfl⟩
    · cases h; exact ⟨rfl, rfl, rfl⟩
    · cases h
  len := fun _ => ⟨rfl, rfl⟩
  elim := fun β o k => by cases o <;> rfl
def L107_0 {σ : Type} : Nat → A107_0 → σ → Option (O107_0 × σ)
  | 0, _, _ => none
  | n+1, (v4, v5, v6, v7), s => (bif (bif (decide (v7 < 10)) then (decide ((w64 (v5 + v7)) < ((v4.size : Nat) : Int))) else false) then ((sidx v4 (w64 (v5 + v7))).bind fun c8 => (bif (bif (v7 == 9) then (decide ((wu64 (c8.toNat : Int)) > 1)) else false) then (some (O107_0.x0 0 (-1), s)) else (ask (0 ≤ (wu64 (w64 (7 * v7)))) (bif (decide ((wu64 (c8.toNat : Int)) < 128)) then (bif (bif (decide (v7 > 0)) then ((wu64 (c8.toNat : Int)) == 0) else false) then (some (O107_0.x0 0 (-1), s)) else (some (O107_0.x0 (bOr .u64 v6 (wu64 ((bAnd .u64 (wu64 (c8.toNat : Int)) 127) * 2 ^ (min (Int.toNat (wu64 (w64 (7 * v7)))) 64)))) (w64 ((w64 (v5 + v7)) + 1)), s))) else (L107_0 n (v4, v5, (bOr .u64 v6 (wu64 ((bAnd .u64 (wu64 (c8.toNat : Int)) 127) * 2 ^ (min (Int.toNat (wu64 (w64 (7 * v7)))) 64)))), (w64 (v7 + 1))) s))))) else (some (O107_0.x1 , s)))
def d107 (ds : List D) : Option (ByteArray × Int) := match ds with
  | [.bytes a0, .val (.int .i64 a1)] => some (a0, a1)
  | _ => none
def r107 (v : AV) : Option (Int × Int) := match toPR v with
  | some (.many [.val (.int .u64 a2), .val (.int .i64 a3)]) => some (a2, a3)
  | _ => none
def n107 : ByteArray × Int → Option (Int × Int) := fun (a0, a1) => ((L107_0 1000000000000 (a0, a1, 0, 0) ()).bind fun p11 => match p11.1 with | .x0 z12 z13 => (some (z12, z13)) | .x1  => (some (0, (-1))))
def e107 : PureE := mkE d107 n107 (fun (a2, a3) => .many [.val (.int .u64 a2), .val (.int .i64 a3)])
def g107 {σ : Type} : Nat → Option (SegE σ)
  | 0 => some (l107_0.seg σ (L107_0 1000000000000))
  | _ => none
theorem E107_0 {σ : Type} (Y : Yd σ) : ∀ n a (s : σ), L107_0 (n + 1) a s = evK (cfgOf Tryz.prog (tabs gl) tS0) (toldOf tS0) Y (inlN (cfgOf Tryz.prog (tabs gl) tS0) (toldOf tS0) Y) g107 107 (loopAt Tryz.f107 0) ((l107_0.toT σ).enc a s) (fun ex st' => l107_0.next (cfgOf Tryz.prog (tabs gl) tS0) 107 0 (L107_0 n) ex st') := by
  intro n ⟨v4, v5, v6, v7⟩ s
  kernel_rfl
theorem Q107_0 {σ : Type} (hl : LibFits gl) (Y : Yd σ) (rnd : Bool) : SegOk (cfgOf Tryz.prog (tabs gl) tS0) (evFn (cfgOf Tryz.prog (tabs gl) tS0) 9) 107 rnd Y (l107_0.seg σ (L107_0 1000000000000)) (.block 0 (.loop (loopAt Tryz.f107 0))) :=
  told_loop (okS0 hl) k107_0 (by kernel_rfl) (by kernel_rfl) (fun _ _ => rfl) (segs_no (by kernel_rfl)) (E107_0 Y) (hr := by kernel_rfl)
theorem N107 : ∀ a, n107 a = bodyK (cfgOf Tryz.prog (tabs gl) tS0) (toldOf tS0) noY (inlN (cfgOf Tryz.prog (tabs gl) tS0) (toldOf tS0) noY) g107 107 Tryz.f107 (((fun (a0, a1) => [.bytes a0, .val (.int .i64 a1)] : (ByteArray × Int) → List D) a).map .d) [] [] () (retK fun v _ _ _ => r107 v) := by
  intro a
  obtain ⟨a0, a1⟩ := a
  kernel_rfl
noncomputable def t107 : Tab := (107, e107) :: tS0
theorem ok107 (hl : LibFits gl) : TabOk Tryz.prog gl t107 :=
  told_fn (okS0 hl) mixed oddOk methOk Tryz.func107 (by kernel_rfl) (by kernel_rfl) (by kernel_rfl) (fun p hp e he => by
    have hq : segsOf (σ := Unit) (g107 (σ := Unit)) (bodyOf Tryz.f107) = [(0, .loop (loopAt Tryz.f107 0))] := by kernel_rfl
    rw [hq] at hp
    simp only [List.mem_cons, List.not_mem_nil, or_false] at hp
    subst hp
    cases he
    exact Q107_0 hl _ _)
    (args := fun (a0, a1) => [.bytes a0, .val (.int .i64 a1)]) (res := r107)
    (fun ds a h => by
      unfold d107 at h
      split at h
      · cases h; rfl
      · cases h)
    (fun v r h => by
      unfold r107 at h
      split at h
      · rename_i hv; cases h; exact hv
      · cases h)
    N107
def d108 (ds : List D) : Option (Int) := match ds with
  | [.val (.int .u64 a0)] => some a0
  | _ => none
def r108 (v : AV) : Option (Int) := match toPR v with
  | some (.one (.val (.int .i64 a1))) => some a1
  | _ => none
def n108 : Int → Option (Int) := fun a0 => (bif (((a0 : Int).tmod 2) == 1) then (some (w64 ((w64 (0 - (w64 (wu64 ((a0 : Int).tdiv 2))))) - 1))) else (some (w64 (wu64 ((a0 : Int).tdiv 2)))))
def e108 : PureE := mkE d108 n108 (fun a1 => .one (.val (.int .i64 a1)))
def g108 {σ : Type} : Nat → Option (SegE σ)
  | _ => none
theorem N108 : ∀ a, n108 a = bodyK (cfgOf Tryz.prog (tabs gl) tS0) (toldOf tS0) noY (inlN (cfgOf Tryz.prog (tabs gl) tS0) (toldOf tS0) noY) g108 108 Tryz.f108 (((fun a0 => [.val (.int .u64 a0)] : (Int) → List D) a).map .d) [] [] () (retK fun v _ _ _ => r108 v) := by
  intro a0
  kernel_rfl
noncomputable def t108 : Tab := (108, e108) :: tS0
theorem ok108 (hl : LibFits gl) : TabOk Tryz.prog gl t108 :=
  told_fn (okS0 hl) mixed oddOk methOk Tryz.func108 (by kernel_rfl) (by kernel_rfl) (by kernel_rfl) (segs_no (by kernel_rfl))
    (args := fun a0 => [.val (.int .u64 a0)]) (res := r108)
    (fun ds a h => by
      unfold d108 at h
      split at h
      · cases h; rfl
      · cases h)
    (fun v r h => by
      unfold r108 at h
      split at h
      · rename_i hv; cases h; exact hv
      · cases h)
    N108
noncomputable def tabsS1 (gl : Nat → Option (List D)) : Tabs := { tabs gl with odd := fun g => bif Nat.beq g 112 then some (methE 112 dM112 (n112 64) (fun _ => vM112) (fun _ => cM112) (fun _ => kM112)) else (bif Nat.beq g 106 then some (methR 106 dM106 n106 vM106 cM106 kM106) else ((tabs gl).odd g)) }
theorem oddOkS1 (hl : LibFits gl) : OddSound Tryz.prog gl (tabsS1 gl).odd := OddSound.join (om112 hl 64) (OddSound.join (om106 hl) (oddOk))
theorem methOkS1 (hl : LibFits gl) : MethSound Tryz.prog gl (tabsS1 gl).meth := methOk
noncomputable def tS1 : Tab := (124, e124) :: (153, e153) :: (70, e70) :: (204, e204) :: (167, e167) :: (177, e177) :: (69, e69) :: (187, e187) :: (15, e15) :: (109, e109) :: (16, e16) :: (107, e107) :: (108, e108) :: tS0
theorem okS1 (hl : LibFits gl) : TabOk Tryz.prog gl tS1 :=
  TabOk.cons (TabOk.cons (TabOk.cons (TabOk.cons (TabOk.cons (TabOk.cons (TabOk.cons (TabOk.cons (TabOk.cons (TabOk.cons (TabOk.cons (TabOk.cons (TabOk.cons (okS0 hl) ((ok108 hl).fair (108, e108) (List.mem_cons_self (l := tS0))) ((ok108 hl).spec (108, e108) (List.mem_cons_self (l := tS0)))) ((ok107 hl).fair (107, e107) (List.mem_cons_self (l := tS0))) ((ok107 hl).spec (107, e107) (List.mem_cons_self (l := tS0)))) ((ok16 hl).fair (16, e16) (List.mem_cons_self (l := tS0))) ((ok16 hl).spec (16, e16) (List.mem_cons_self (l := tS0)))) ((ok109 hl).fair (109, e109) (List.mem_cons_self (l := tS0))) ((ok109 hl).spec (109, e109) (List.mem_cons_self (l := tS0)))) ((ok15 hl).fair (15, e15) (List.mem_cons_self (l := tS0))) ((ok15 hl).spec (15, e15) (List.mem_cons_self (l := tS0)))) ((ok187 hl).fair (187, e187) (List.mem_cons_self (l := tS0))) ((ok187 hl).spec (187, e187) (List.mem_cons_self (l := tS0)))) ((ok69 hl).fair (69, e69) (List.mem_cons_self (l := tS0))) ((ok69 hl).spec (69, e69) (List.mem_cons_self (l := tS0)))) ((ok177 hl).fair (177, e177) (List.mem_cons_self (l := tS0))) ((ok177 hl).spec (177, e177) (List.mem_cons_self (l := tS0)))) ((ok167 hl).fair (167, e167) (List.mem_cons_self (l := tS0))) ((ok167 hl).spec (167, e167) (List.mem_cons_self (l := tS0)))) ((ok204 hl).fair (204, e204) (List.mem_cons_self (l := tS0))) ((ok204 hl).spec (204, e204) (List.mem_cons_self (l := tS0)))) ((ok70 hl).fair (70, e70) (List.mem_cons_self (l := tS0))) ((ok70 hl).spec (70, e70) (List.mem_cons_self (l := tS0)))) ((ok153 hl).fair (153, e153) (List.mem_cons_self (l := tS0))) ((ok153 hl).spec (153, e153) (List.mem_cons_self (l := tS0)))) ((ok124 hl).fair (124, e124) (List.mem_cons_self (l := tS0))) ((ok124 hl).spec (124, e124) (List.mem_cons_self (l := tS0)))
def d59 (ds : List D) : Option (Int × Int × Int × ByteArray × List D) := match ds with
  | [.agg [.val (.int .i64 a0), .val (.int .i64 a1), .val (.int .i64 a2), .val (.string a3), .slice a4]] => some (a0, a1, a2, a3, a4)
  | _ => none
def r59 (v : AV) : Option (Bool) := match toPR v with
  | some (.one (.val (.bool a5))) => some a5
  | _ => none
def n59 : Int × Int × Int × ByteArray × List D → Option (Bool) := fun (a0, a1, a2, a3, a4) => ((n112 64 (0, a0, a1, a2, a3, a4, 1)).bind fun y6 => (some (bif (decide (y6.1 ≤ 16)) then (decide (y6.2 ≤ 4096)) else false)))
def e59 : PureE := mkE d59 n59 (fun a5 => .one (.val (.bool a5)))
def g59 {σ : Type} : Nat → Option (SegE σ)
  | _ => none
theorem N59 : ∀ a, n59 a = bodyK (cfgOf Tryz.prog (tabsS1 gl) tS1) (toldOf tS1) noY (inlN (cfgOf Tryz.prog (tabsS1 gl) tS1) (toldOf tS1) noY) g59 59 Tryz.f59 (((fun (a0, a1, a2, a3, a4) => [.agg [.val (.int .i64 a0), .val (.int .i64 a1), .val (.int .i64 a2), .val (.string a3), .slice a4]] : (Int × Int × Int × ByteArray × List D) → List D) a).map .d) [] [] () (retK fun v _ _ _ => r59 v) := by
  intro a
  obtain ⟨a0, a1, a2, a3, a4⟩ := a
  kernel_rfl
noncomputable def t59 : Tab := (59, e59) :: tS1
theorem ok59 (hl : LibFits gl) : TabOk Tryz.prog gl t59 :=
  told_fn (okS1 hl) mixed (oddOkS1 hl) (methOkS1 hl) Tryz.func59 (by kernel_rfl) (by kernel_rfl) (by kernel_rfl) (segs_no (by kernel_rfl))
    (args := fun (a0, a1, a2, a3, a4) => [.agg [.val (.int .i64 a0), .val (.int .i64 a1), .val (.int .i64 a2), .val (.string a3), .slice a4]]) (res := r59)
    (fun ds a h => by
      unfold d59 at h
      split at h
      · cases h; rfl
      · cases h)
    (fun v r h => by
      unfold r59 at h
      split at h
      · rename_i hv; cases h; exact hv
      · cases h)
    N59
abbrev A66_0 := List D × Int × Int × Int × Int × Int × ByteArray × List D × Int × Int × Int × ByteArray × List D
inductive O66_0 where
  | x0 (o32 : Int) (o33 : Int) (o34 : Int) (o35 : Int) (o36 : ByteArray) (o37 : List D) (o38 : Int) (o39 : Int) (o40 : Int) (o41 : ByteArray) (o42 : List D) (q43 : Nat)
  | x1 (o44 : Int) (o45 : Int) (o46 : Int) (o47 : ByteArray) (o48 : List D) (o49 : Int) (o50 : Int) (o51 : Int) (o52 : ByteArray) (o53 : List D) (q54 : Nat)
def l66_0 : LoopS A66_0 O66_0 where
  n := 92
  ks := [2, 3, 63, 64, 65]
  kso := [2, 3, 4]
  m := 2
  mt := 1
  decV := fun vs bs ts => match vs, bs, ts with
    | [.ptr 0 0, .ptr 1 0, .osl 0 v16, .d (.val (.int .i64 v17)), .d (.val (.int .i64 v18))], [.cells none [.d (.val (.int .i64 v19)), .d (.val (.int .i64 v20)), .d (.val (.int .i64 v21)), .d (.val (.string v22)), .d (.slice v23)], .cells none [.d (.val (.int .i64 v24)), .d (.val (.int .i64 v25)), .d (.val (.int .i64 v26)), .d (.val (.string v27)), .d (.slice v28)]], [_] => some (v16, v17, v18, v19, v20, v21, v22, v23, v24, v25, v26, v27, v28)
    | _, _, _ => none
  encV := fun (v16, v17, v18, v19, v20, v21, v22, v23, v24, v25, v26, v27, v28) => [.ptr 0 0, .ptr 1 0, .osl 0 v16, .d (.val (.int .i64 v17)), .d (.val (.int .i64 v18))]
  encB := fun (v16, v17, v18, v19, v20, v21, v22, v23, v24, v25, v26, v27, v28) => [.cells none [.d (.val (.int .i64 v19)), .d (.val (.int .i64 v20)), .d (.val (.int .i64 v21)), .d (.val (.string v22)), .d (.slice v23)], .cells none [.d (.val (.int .i64 v24)), .d (.val (.int .i64 v25)), .d (.val (.int .i64 v26)), .d (.val (.string v27)), .d (.slice v28)]]
  tk := fun (v16, v17, v18, v19, v20, v21, v22, v23, v24, v25, v26, v27, v28) => [v16.length]
  decO := fun ex vs bs ts => match ex, vs, bs, ts with
    | .ret, [.undef, .undef, .d (.val (.int .i64 o32))], [.cells none [.d (.val (.int .i64 o33)), .d (.val (.int .i64 o34)), .d (.val (.int .i64 o35)), .d (.val (.string o36)), .d (.slice o37)], .cells none [.d (.val (.int .i64 o38)), .d (.val (.int .i64 o39)), .d (.val (.int .i64 o40)), .d (.val (.string o41)), .d (.slice o42)]], [q43] => some (.x0 o32 o33 o34 o35 o36 o37 o38 o39 o40 o41 o42 q43)
    | .normal, [.ptr 0 0, .ptr 1 0, .undef], [.cells none [.d (.val (.int .i64 o44)), .d (.val (.int .i64 o45)), .d (.val (.int .i64 o46)), .d (.val (.string o47)), .d (.slice o48)], .cells none [.d (.val (.int .i64 o49)), .d (.val (.int .i64 o50)), .d (.val (.int .i64 o51)), .d (.val (.string o52)), .d (.slice o53)]], [q54] => some (.x1 o44 o45 o46 o47 o48 o49 o50 o51 o52 o53 q54)
    | _, _, _, _ => none
  exO := fun x => match x with
    | .x0 o32 o33 o34 o35 o36 o37 o38 o39 o40 o41 o42 q43 => .ret
    | .x1 o44 o45 o46 o47 o48 o49 o50 o51 o52 o53 q54 => .normal
  outV := fun x => match x with
    | .x0 o32 o33 o34 o35 o36 o37 o38 o39 o40 o41 o42 q43 => [.undef, .undef, .d (.val (.int .i64 o32))]
    | .x1 o44 o45 o46 o47 o48 o49 o50 o51 o52 o53 q54 => [.ptr 0 0, .ptr 1 0, .undef]
  outB := fun x => match x with
    | .x0 o32 o33 o34 o35 o36 o37 o38 o39 o40 o41 o42 q43 => [.cells none [.d (.val (.int .i64 o33)), .d (.val (.int .i64 o34)), .d (.val (.int .i64 o35)), .d (.val (.string o36)), .d (.slice o37)], .cells none [.d (.val (.int .i64 o38)), .d (.val (.int .i64 o39)), .d (.val (.int .i64 o40)), .d (.val (.string o41)), .d (.slice o42)]]
    | .x1 o44 o45 o46 o47 o48 o49 o50 o51 o52 o53 q54 => [.cells none [.d (.val (.int .i64 o44)), .d (.val (.int .i64 o45)), .d (.val (.int .i64 o46)), .d (.val (.string o47)), .d (.slice o48)], .cells none [.d (.val (.int .i64 o49)), .d (.val (.int .i64 o50)), .d (.val (.int .i64 o51)), .d (.val (.string o52)), .d (.slice o53)]]
  tkO := fun x => match x with
    | .x0 o32 o33 o34 o35 o36 o37 o38 o39 o40 o41 o42 q43 => [q43]
    | .x1 o44 o45 o46 o47 o48 o49 o50 o51 o52 o53 q54 => [q54]
  elim := fun x k => match x with
    | .x0 o32 o33 o34 o35 o36 o37 o38 o39 o40 o41 o42 q43 => k .ret [.undef, .undef, .d (.val (.int .i64 o32))] [.cells none [.d (.val (.int .i64 o33)), .d (.val (.int .i64 o34)), .d (.val (.int .i64 o35)), .d (.val (.string o36)), .d (.slice o37)], .cells none [.d (.val (.int .i64 o38)), .d (.val (.int .i64 o39)), .d (.val (.int .i64 o40)), .d (.val (.string o41)), .d (.slice o42)]] [q43]
    | .x1 o44 o45 o46 o47 o48 o49 o50 o51 o52 o53 q54 => k .normal [.ptr 0 0, .ptr 1 0, .undef] [.cells none [.d (.val (.int .i64 o44)), .d (.val (.int .i64 o45)), .d (.val (.int .i64 o46)), .d (.val (.string o47)), .d (.slice o48)], .cells none [.d (.val (.int .i64 o49)), .d (.val (.int .i64 o50)), .d (.val (.int .i64 o51)), .d (.val (.string o52)), .d (.slice o53)]] [q54]
theorem k66_0 : l66_0.Ok where
  ok1 := by kernel_rfl
  ok2 := by kernel_rfl
  dec := by
    intro vs bs ts a h
    simp only [l66_0] at h ⊢
    split at h
    · cases h; exact ⟨rfl, rfl⟩
    · cases h
  out := by
    intro ex vs bs ts o h
    simp only [l66_0] at h ⊢
    split at h
    · cases h; exact ⟨rfl, rfl, rfl⟩
    · cases h; exact ⟨rfl, rfl, rfl⟩
    · cases h
  len := fun _ => ⟨rfl, rfl⟩
  elim := fun β o k => by cases o <;> rfl
def L66_0 {σ : Type} (F : Int × Int × Int × ByteArray × List D × Int × Int × Int × ByteArray × List D → Option (Int)) : Nat → A66_0 → σ → Option (O66_0 × σ)
  | 0, _, _ => none
  | n+1, (v16, v17, v18, v19, v20, v21, v22, v23, v24, v25, v26, v27, v28), s => (bif (decide (v18 < v17)) then ((lidx v16 v18).bind fun d29 => ask (d29.cells.length = 1) ((cellAt 0 d29).bind fun x30 => (asInt .i64 x30).bind fun x31 => (bif (x31 != 0) then (ask (([v16.length] : List Nat) = [v16.length]) (some (O66_0.x0 x31 v19 v20 v21 v22 v23 v24 v25 v26 v27 v28 v16.length, s))) else (ask (([v16.length] : List Nat) = [v16.length]) (L66_0 F n (v16, v17, (w64 (v18 + 1)), v19, v20, v21, v22, v23, v24, v25, v26, v27, v28) s))))) else (ask (([v16.length] : List Nat) = [v16.length]) (some (O66_0.x1 v19 v20 v21 v22 v23 v24 v25 v26 v27 v28 v16.length, s))))
abbrev A66_2 := List D × Int × Int × Int × Int × Int × ByteArray × List D × Int × Int × Int × ByteArray × List D × Nat
inductive O66_2 where
  | x0 (o116 : Int) (o117 : Int) (o118 : Int) (o119 : Int) (o120 : ByteArray) (o121 : List D) (o122 : Int) (o123 : Int) (o124 : Int) (o125 : ByteArray) (o126 : List D) (q127 : Nat)
  | x1 (o128 : Int) (o129 : Int) (o130 : Int) (o131 : ByteArray) (o132 : List D) (o133 : Int) (o134 : Int) (o135 : Int) (o136 : ByteArray) (o137 : List D) (q138 : Nat)
def l66_2 : LoopS A66_2 O66_2 where
  n := 92
  ks := [3, 74, 75, 76]
  kso := [4]
  m := 2
  mt := 1
  decV := fun vs bs ts => match vs, bs, ts with
    | [.ptr 1 0, .d (.slice v79), .d (.val (.int .i64 v80)), .d (.val (.int .i64 v81))], [.cells none [.d (.val (.int .i64 v82)), .d (.val (.int .i64 v83)), .d (.val (.int .i64 v84)), .d (.val (.string v85)), .d (.slice v86)], .cells none [.d (.val (.int .i64 v87)), .d (.val (.int .i64 v88)), .d (.val (.int .i64 v89)), .d (.val (.string v90)), .d (.slice v91)]], [k92] => some (v79, v80, v81, v82, v83, v84, v85, v86, v87, v88, v89, v90, v91, k92)
    | _, _, _ => none
  encV := fun (v79, v80, v81, v82, v83, v84, v85, v86, v87, v88, v89, v90, v91, k92) => [.ptr 1 0, .d (.slice v79), .d (.val (.int .i64 v80)), .d (.val (.int .i64 v81))]
  encB := fun (v79, v80, v81, v82, v83, v84, v85, v86, v87, v88, v89, v90, v91, k92) => [.cells none [.d (.val (.int .i64 v82)), .d (.val (.int .i64 v83)), .d (.val (.int .i64 v84)), .d (.val (.string v85)), .d (.slice v86)], .cells none [.d (.val (.int .i64 v87)), .d (.val (.int .i64 v88)), .d (.val (.int .i64 v89)), .d (.val (.string v90)), .d (.slice v91)]]
  tk := fun (v79, v80, v81, v82, v83, v84, v85, v86, v87, v88, v89, v90, v91, k92) => [k92]
  decO := fun ex vs bs ts => match ex, vs, bs, ts with
    | .ret, [.d (.val (.int .i64 o116))], [.cells none [.d (.val (.int .i64 o117)), .d (.val (.int .i64 o118)), .d (.val (.int .i64 o119)), .d (.val (.string o120)), .d (.slice o121)], .cells none [.d (.val (.int .i64 o122)), .d (.val (.int .i64 o123)), .d (.val (.int .i64 o124)), .d (.val (.string o125)), .d (.slice o126)]], [q127] => some (.x0 o116 o117 o118 o119 o120 o121 o122 o123 o124 o125 o126 q127)
    | .normal, [.undef], [.cells none [.d (.val (.int .i64 o128)), .d (.val (.int .i64 o129)), .d (.val (.int .i64 o130)), .d (.val (.string o131)), .d (.slice o132)], .cells none [.d (.val (.int .i64 o133)), .d (.val (.int .i64 o134)), .d (.val (.int .i64 o135)), .d (.val (.string o136)), .d (.slice o137)]], [q138] => some (.x1 o128 o129 o130 o131 o132 o133 o134 o135 o136 o137 q138)
    | _, _, _, _ => none
  exO := fun x => match x with
    | .x0 o116 o117 o118 o119 o120 o121 o122 o123 o124 o125 o126 q127 => .ret
    | .x1 o128 o129 o130 o131 o132 o133 o134 o135 o136 o137 q138 => .normal
  outV := fun x => match x with
    | .x0 o116 o117 o118 o119 o120 o121 o122 o123 o124 o125 o126 q127 => [.d (.val (.int .i64 o116))]
    | .x1 o128 o129 o130 o131 o132 o133 o134 o135 o136 o137 q138 => [.undef]
  outB := fun x => match x with
    | .x0 o116 o117 o118 o119 o120 o121 o122 o123 o124 o125 o126 q127 => [.cells none [.d (.val (.int .i64 o117)), .d (.val (.int .i64 o118)), .d (.val (.int .i64 o119)), .d (.val (.string o120)), .d (.slice o121)], .cells none [.d (.val (.int .i64 o122)), .d (.val (.int .i64 o123)), .d (.val (.int .i64 o124)), .d (.val (.string o125)), .d (.slice o126)]]
    | .x1 o128 o129 o130 o131 o132 o133 o134 o135 o136 o137 q138 => [.cells none [.d (.val (.int .i64 o128)), .d (.val (.int .i64 o129)), .d (.val (.int .i64 o130)), .d (.val (.string o131)), .d (.slice o132)], .cells none [.d (.val (.int .i64 o133)), .d (.val (.int .i64 o134)), .d (.val (.int .i64 o135)), .d (.val (.string o136)), .d (.slice o137)]]
  tkO := fun x => match x with
    | .x0 o116 o117 o118 o119 o120 o121 o122 o123 o124 o125 o126 q127 => [q127]
    | .x1 o128 o129 o130 o131 o132 o133 o134 o135 o136 o137 q138 => [q138]
  elim := fun x k => match x with
    | .x0 o116 o117 o118 o119 o120 o121 o122 o123 o124 o125 o126 q127 => k .ret [.d (.val (.int .i64 o116))] [.cells none [.d (.val (.int .i64 o117)), .d (.val (.int .i64 o118)), .d (.val (.int .i64 o119)), .d (.val (.string o120)), .d (.slice o121)], .cells none [.d (.val (.int .i64 o122)), .d (.val (.int .i64 o123)), .d (.val (.int .i64 o124)), .d (.val (.string o125)), .d (.slice o126)]] [q127]
    | .x1 o128 o129 o130 o131 o132 o133 o134 o135 o136 o137 q138 => k .normal [.undef] [.cells none [.d (.val (.int .i64 o128)), .d (.val (.int .i64 o129)), .d (.val (.int .i64 o130)), .d (.val (.string o131)), .d (.slice o132)], .cells none [.d (.val (.int .i64 o133)), .d (.val (.int .i64 o134)), .d (.val (.int .i64 o135)), .d (.val (.string o136)), .d (.slice o137)]] [q138]
theorem k66_2 : l66_2.Ok where
  ok1 := by kernel_rfl
  ok2 := by kernel_rfl
  dec := by
    intro vs bs ts a h
    simp only [l66_2] at h ⊢
    split at h
    · cases h; exact ⟨rfl, rfl⟩
    · cases h
  out := by
    intro ex vs bs ts o h
    simp only [l66_2] at h ⊢
    split at h
    · cases h; exact ⟨rfl, rfl, rfl⟩
    · cases h; exact ⟨rfl, rfl, rfl⟩
    · cases h
  len := fun _ => ⟨rfl, rfl⟩
  elim := fun β o k => by cases o <;> rfl
def L66_2 {σ : Type} (F : Int × Int × Int × ByteArray × List D × Int × Int × Int × ByteArray × List D → Option (Int)) : Nat → A66_2 → σ → Option (O66_2 × σ)
  | 0, _, _ => none
  | n+1, (v79, v80, v81, v82, v83, v84, v85, v86, v87, v88, v89, v90, v91, k92), s => (bif (decide (v81 < v80)) then ((lidx v79 v81).bind fun d93 => ask (d93.cells.length = 5) ((cellAt 0 d93).bind fun x94 => (asInt .i64 x94).bind fun x95 => ((cellAt 1 d93).bind fun x96 => (asInt .i64 x96).bind fun x97 => ((cellAt 2 d93).bind fun x98 => (asInt .i64 x98).bind fun x99 => ((cellAt 3 d93).bind fun x100 => (asStr x100).bind fun x101 => ((cellAt 4 d93).bind fun x102 => (asRow x102).bind fun x103 => ((lidx v91 v81).bind fun d104 => ask (d104.cells.length = 5) ((cellAt 0 d104).bind fun x105 => (asInt .i64 x105).bind fun x106 => ((cellAt 1 d104).bind fun x107 => (asInt .i64 x107).bind fun x108 => ((cellAt 2 d104).bind fun x109 => (asInt .i64 x109).bind fun x110 => ((cellAt 3 d104).bind fun x111 => (asStr x111).bind fun x112 => ((cellAt 4 d104).bind fun x113 => (asRow x113).bind fun x114 => ((F (x95, x97, x99, x101, x103, x106, x108, x110, x112, x114)).bind fun y115 => (bif (y115 != 0) then (ask (([k92] : List Nat) = [k92]) (some (O66_2.x0 y115 v82 v83 v84 v85 v86 v87 v88 v89 v90 v91 k92, s))) else (ask (([k92] : List Nat) = [k92]) (L66_2 F n (v79, v80, (w64 (v81 + 1)), v82, v83, v84, v85, v86, v87, v88, v89, v90, v91, k92) s)))))))))))))))) else (ask (([k92] : List Nat) = [k92]) (some (O66_2.x1 v82 v83 v84 v85 v86 v87 v88 v89 v90 v91 k92, s))))
def d66 (ds : List D) : Option (Int × Int × Int × ByteArray × List D × Int × Int × Int × ByteArray × List D) := match ds with
  | [.agg [.val (.int .i64 a0), .val (.int .i64 a1), .val (.int .i64 a2), .val (.string a3), .slice a4], .agg [.val (.int .i64 a5), .val (.int .i64 a6), .val (.int .i64 a7), .val (.string a8), .slice a9]] => some (a0, a1, a2, a3, a4, a5, a6, a7, a8, a9)
  | _ => none
def r66 (v : AV) : Option (Int) := match toPR v with
  | some (.one (.val (.int .i64 a10))) => some a10
  | _ => none
def n66 : Nat → Int × Int × Int × ByteArray × List D × Int × Int × Int × ByteArray × List D → Option (Int)
  | 0, _ => none
  | k + 1, (a0, a1, a2, a3, a4, a5, a6, a7, a8, a9) => (bif (a0 != a5) then ((n124 ((decide (a0 < a5)), true)).bind fun y11 => (some y11)) else (bif (((a4.length : Nat) : Int) != ((a9.length : Nat) : Int)) then ((n124 ((decide (((a4.length : Nat) : Int) < ((a9.length : Nat) : Int))), true)).bind fun y12 => (some y12)) else ((n124 ((decide (a1 < a6)), (decide (a1 > a6)))).bind fun y13 => ((n124 ((decide (a2 < a7)), (decide (a2 > a7)))).bind fun y14 => ((n125 (a3, a8)).bind fun y15 => (ask (([3] : List Nat) = [([.val (.int .i64 y13), .val (.int .i64 y14), .val (.int .i64 y15)] : List D).length]) ((L66_0 (n66 k) 1000000000000 (([.val (.int .i64 y13), .val (.int .i64 y14), .val (.int .i64 y15)] : List D), ((([.val (.int .i64 y13), .val (.int .i64 y14), .val (.int .i64 y15)] : List D).length : Nat) : Int), 0, a0, a1, a2, a3, a4, a5, a6, a7, a8, a9) ()).bind fun p55 => match p55.1 with | .x0 z56 z57 z58 z59 z60 z61 z62 z63 z64 z65 z66 z67 => (some z56) | .x1 z68 z69 z70 z71 z72 z73 z74 z75 z76 z77 z78 => (ask (([z78] : List Nat) = [z78]) ((L66_2 (n66 k) 1000000000000 (z72, ((z72.length : Nat) : Int), 0, z68, z69, z70, z71, z72, z73, z74, z75, z76, z77, z78) p55.2).bind fun p139 => match p139.1 with | .x0 z140 z141 z142 z143 z144 z145 z146 z147 z148 z149 z150 z151 => (some z140) | .x1 z152 z153 z154 z155 z156 z157 z158 z159 z160 z161 z162 => (some 0))))))))))
def e66 : PureE := mkE d66 (n66 64) (fun a10 => .one (.val (.int .i64 a10)))
def g66 (k : Nat) {σ : Type} : Nat → Option (SegE σ)
  | 0 => some (l66_0.seg σ (L66_0 (n66 k) 1000000000000))
  | 2 => some (l66_2.seg σ (L66_2 (n66 k) 1000000000000))
  | _ => none
theorem E66_0 {σ : Type} (k : Nat) (Y : Yd σ) : ∀ n a (s : σ), L66_0 (n66 k) (n + 1) a s = evK (cfgOf Tryz.prog (tabsS1 gl) (((66, mkE d66 (n66 k) (fun a10 => .one (.val (.int .i64 a10)))) :: tS1) : Tab)) (toldOf (((66, mkE d66 (n66 k) (fun a10 => .one (.val (.int .i64 a10)))) :: tS1) : Tab)) Y (inlN (cfgOf Tryz.prog (tabsS1 gl) (((66, mkE d66 (n66 k) (fun a10 => .one (.val (.int .i64 a10)))) :: tS1) : Tab)) (toldOf (((66, mkE d66 (n66 k) (fun a10 => .one (.val (.int .i64 a10)))) :: tS1) : Tab)) Y) (g66 k) 66 (loopAt Tryz.f66 0) ((l66_0.toT σ).enc a s) (fun ex st' => l66_0.next (cfgOf Tryz.prog (tabsS1 gl) (((66, mkE d66 (n66 k) (fun a10 => .one (.val (.int .i64 a10)))) :: tS1) : Tab)) 66 0 (L66_0 (n66 k) n) ex st') := by
  intro n ⟨v16, v17, v18, v19, v20, v21, v22, v23, v24, v25, v26, v27, v28⟩ s
  kernel_rfl
theorem Q66_0 {σ : Type} (hl : LibFits gl) (k : Nat) (hk : TabOk Tryz.prog gl (((66, mkE d66 (n66 k) (fun a10 => .one (.val (.int .i64 a10)))) :: tS1) : Tab)) (Y : Yd σ) (rnd : Bool) : SegOk (cfgOf Tryz.prog (tabsS1 gl) (((66, mkE d66 (n66 k) (fun a10 => .one (.val (.int .i64 a10)))) :: tS1) : Tab)) (evFn (cfgOf Tryz.prog (tabsS1 gl) (((66, mkE d66 (n66 k) (fun a10 => .one (.val (.int .i64 a10)))) :: tS1) : Tab)) 9) 66 rnd Y (l66_0.seg σ (L66_0 (n66 k) 1000000000000)) (.block 0 (.loop (loopAt Tryz.f66 0))) :=
  told_loop hk k66_0 (by kernel_rfl) (by kernel_rfl) (fun _ _ => rfl) (segs_no (by kernel_rfl)) (E66_0 k Y) (hr := by kernel_rfl)
theorem E66_2 {σ : Type} (k : Nat) (Y : Yd σ) : ∀ n a (s : σ), L66_2 (n66 k) (n + 1) a s = evK (cfgOf Tryz.prog (tabsS1 gl) (((66, mkE d66 (n66 k) (fun a10 => .one (.val (.int .i64 a10)))) :: tS1) : Tab)) (toldOf (((66, mkE d66 (n66 k) (fun a10 => .one (.val (.int .i64 a10)))) :: tS1) : Tab)) Y (inlN (cfgOf Tryz.prog (tabsS1 gl) (((66, mkE d66 (n66 k) (fun a10 => .one (.val (.int .i64 a10)))) :: tS1) : Tab)) (toldOf (((66, mkE d66 (n66 k) (fun a10 => .one (.val (.int .i64 a10)))) :: tS1) : Tab)) Y) (g66 k) 66 (loopAt Tryz.f66 2) ((l66_2.toT σ).enc a s) (fun ex st' => l66_2.next (cfgOf Tryz.prog (tabsS1 gl) (((66, mkE d66 (n66 k) (fun a10 => .one (.val (.int .i64 a10)))) :: tS1) : Tab)) 66 2 (L66_2 (n66 k) n) ex st') := by
  intro n ⟨v79, v80, v81, v82, v83, v84, v85, v86, v87, v88, v89, v90, v91, k92⟩ s
  kernel_rfl
theorem Q66_2 {σ : Type} (hl : LibFits gl) (k : Nat) (hk : TabOk Tryz.prog gl (((66, mkE d66 (n66 k) (fun a10 => .one (.val (.int .i64 a10)))) :: tS1) : Tab)) (Y : Yd σ) (rnd : Bool) : SegOk (cfgOf Tryz.prog (tabsS1 gl) (((66, mkE d66 (n66 k) (fun a10 => .one (.val (.int .i64 a10)))) :: tS1) : Tab)) (evFn (cfgOf Tryz.prog (tabsS1 gl) (((66, mkE d66 (n66 k) (fun a10 => .one (.val (.int .i64 a10)))) :: tS1) : Tab)) 9) 66 rnd Y (l66_2.seg σ (L66_2 (n66 k) 1000000000000)) (.block 2 (.loop (loopAt Tryz.f66 2))) :=
  told_loop hk k66_2 (by kernel_rfl) (by kernel_rfl) (fun _ _ => rfl) (segs_no (by kernel_rfl)) (E66_2 k Y) (hr := by kernel_rfl)
theorem N66 : ∀ k a, n66 (k + 1) a = bodyK (cfgOf Tryz.prog (tabsS1 gl) (((66, mkE d66 (n66 k) (fun a10 => .one (.val (.int .i64 a10)))) :: tS1) : Tab)) (toldOf (((66, mkE d66 (n66 k) (fun a10 => .one (.val (.int .i64 a10)))) :: tS1) : Tab)) noY (inlN (cfgOf Tryz.prog (tabsS1 gl) (((66, mkE d66 (n66 k) (fun a10 => .one (.val (.int .i64 a10)))) :: tS1) : Tab)) (toldOf (((66, mkE d66 (n66 k) (fun a10 => .one (.val (.int .i64 a10)))) :: tS1) : Tab)) noY) (g66 k) 66 Tryz.f66 (((fun (a0, a1, a2, a3, a4, a5, a6, a7, a8, a9) => [.agg [.val (.int .i64 a0), .val (.int .i64 a1), .val (.int .i64 a2), .val (.string a3), .slice a4], .agg [.val (.int .i64 a5), .val (.int .i64 a6), .val (.int .i64 a7), .val (.string a8), .slice a9]] : (Int × Int × Int × ByteArray × List D × Int × Int × Int × ByteArray × List D) → List D) a).map .d) [] [] () (retK fun v _ _ _ => r66 v) := by
  intro k a
  obtain ⟨a0, a1, a2, a3, a4, a5, a6, a7, a8, a9⟩ := a
  kernel_rfl
noncomputable def t66 : Tab := (66, e66) :: tS1
theorem ok66 (hl : LibFits gl) : TabOk Tryz.prog gl t66 :=
  told_rec (t := tabsS1 gl) (okS1 hl) mixed (oddOkS1 hl) (methOkS1 hl) Tryz.func66 (by kernel_rfl) (nat := n66) (seg := fun k => g66 k) (by kernel_rfl) (fun k hk => (fun p hp e he => by
    have hq : segsOf (σ := Unit) (g66 k (σ := Unit)) (bodyOf Tryz.f66) = [(0, .loop (loopAt Tryz.f66 0)), (2, .loop (loopAt Tryz.f66 2))] := by kernel_rfl
    rw [hq] at hp
    simp only [List.mem_cons, List.not_mem_nil, or_false] at hp
    rcases hp with rfl | rfl
    · cases he; exact Q66_0 hl k hk _ _
    · cases he; exact Q66_2 hl k hk _ _
    ))
    (args := fun (a0, a1, a2, a3, a4, a5, a6, a7, a8, a9) => [.agg [.val (.int .i64 a0), .val (.int .i64 a1), .val (.int .i64 a2), .val (.string a3), .slice a4], .agg [.val (.int .i64 a5), .val (.int .i64 a6), .val (.int .i64 a7), .val (.string a8), .slice a9]]) (res := r66)
    (fun ds a h => by
      unfold d66 at h
      split at h
      · cases h; rfl
      · cases h)
    (fun v r h => by
      unfold r66 at h
      split at h
      · rename_i hv; cases h; exact hv
      · cases h)
    (fun _ => rfl) N66 64
def d176 (ds : List D) : Option (ByteArray × Int) := match ds with
  | [.val (.string a0), .val (.int .i64 a1)] => some (a0, a1)
  | _ => none
def r176 (v : AV) : Option (Int × Int × Int) := match toPR v with
  | some (.one (.agg [.val (.int .i64 a2), .val (.int .i64 a3), .val (.int .i64 a4)])) => some (a2, a3, a4)
  | _ => none
def n176 : ByteArray × Int → Option (Int × Int × Int) := fun (a0, a1) => ((sidx a0 a1).bind fun c5 => (bif (decide ((c5.toNat : Int) < 128)) then (some ((w64 (c5.toNat : Int)), a1, 1)) else (bif (bif (decide ((c5.toNat : Int) ≥ 194)) then (decide ((c5.toNat : Int) ≤ 223)) else false) then ((n204 (a0, (w64 (a1 + 1)), 128, 191)).bind fun y6 => (bif y6 then ((sidx a0 (w64 (a1 + 1))).bind fun c7 => (some ((bOr .i64 (w64 ((w64 (bAnd .u8 (c5.toNat : Int) 31)) * 2 ^ (min (Int.toNat 6) 64))) (w64 (bAnd .u8 (c7.toNat : Int) 63))), a1, 2))) else (some ((-1), a1, 1)))) else (bif (bif (decide ((c5.toNat : Int) ≥ 224)) then (decide ((c5.toNat : Int) ≤ 239)) else false) then (bif ((c5.toNat : Int) == 224) then (bif ((c5.toNat : Int) == 237) then ((n204 (a0, (w64 (a1 + 1)), 160, 159)).bind fun y8 => (bif y8 then ((n204 (a0, (w64 (a1 + 2)), 128, 191)).bind fun y9 => (bif y9 then ((sidx a0 (w64 (a1 + 1))).bind fun c10 => ((sidx a0 (w64 (a1 + 2))).bind fun c11 => (some ((bOr .i64 (bOr .i64 (w64 ((w64 (bAnd .u8 (c5.toNat : Int) 15)) * 2 ^ (min (Int.toNat 12) 64))) (w64 ((w64 (bAnd .u8 (c10.toNat : Int) 63)) * 2 ^ (min (Int.toNat 6) 64)))) (w64 (bAnd .u8 (c11.toNat : Int) 63))), a1, 3)))) else (some ((-1), a1, 1)))) else (some ((-1), a1, 1)))) else ((n204 (a0, (w64 (a1 + 1)), 160, 191)).bind fun y12 => (bif y12 then ((n204 (a0, (w64 (a1 + 2)), 128, 191)).bind fun y13 => (bif y13 then ((sidx a0 (w64 (a1 + 1))).bind fun c14 => ((sidx a0 (w64 (a1 + 2))).bind fun c15 => (some ((bOr .i64 (bOr .i64 (w64 ((w64 (bAnd .u8 (c5.toNat : Int) 15)) * 2 ^ (min (Int.toNat 12) 64))) (w64 ((w64 (bAnd .u8 (c14.toNat : Int) 63)) * 2 ^ (min (Int.toNat 6) 64)))) (w64 (bAnd .u8 (c15.toNat : Int) 63))), a1, 3)))) else (some ((-1), a1, 1)))) else (some ((-1), a1, 1))))) else (bif ((c5.toNat : Int) == 237) then ((n204 (a0, (w64 (a1 + 1)), 128, 159)).bind fun y16 => (bif y16 then ((n204 (a0, (w64 (a1 + 2)), 128, 191)).bind fun y17 => (bif y17 then ((sidx a0 (w64 (a1 + 1))).bind fun c18 => ((sidx a0 (w64 (a1 + 2))).bind fun c19 => (some ((bOr .i64 (bOr .i64 (w64 ((w64 (bAnd .u8 (c5.toNat : Int) 15)) * 2 ^ (min (Int.toNat 12) 64))) (w64 ((w64 (bAnd .u8 (c18.toNat : Int) 63)) * 2 ^ (min (Int.toNat 6) 64)))) (w64 (bAnd .u8 (c19.toNat : Int) 63))), a1, 3)))) else (some ((-1), a1, 1)))) else (some ((-1), a1, 1)))) else ((n204 (a0, (w64 (a1 + 1)), 128, 191)).bind fun y20 => (bif y20 then ((n204 (a0, (w64 (a1 + 2)), 128, 191)).bind fun y21 => (bif y21 then ((sidx a0 (w64 (a1 + 1))).bind fun c22 => ((sidx a0 (w64 (a1 + 2))).bind fun c23 => (some ((bOr .i64 (bOr .i64 (w64 ((w64 (bAnd .u8 (c5.toNat : Int) 15)) * 2 ^ (min (Int.toNat 12) 64))) (w64 ((w64 (bAnd .u8 (c22.toNat : Int) 63)) * 2 ^ (min (Int.toNat 6) 64)))) (w64 (bAnd .u8 (c23.toNat : Int) 63))), a1, 3)))) else (some ((-1), a1, 1)))) else (some ((-1), a1, 1)))))) else (bif (bif (decide ((c5.toNat : Int) ≥ 240)) then (decide ((c5.toNat : Int) ≤ 244)) else false) then (bif ((c5.toNat : Int) == 240) then (bif ((c5.toNat : Int) == 244) then ((n204 (a0, (w64 (a1 + 1)), 144, 143)).bind fun y24 => (bif y24 then ((n204 (a0, (w64 (a1 + 2)), 128, 191)).bind fun y25 => (bif y25 then ((n204 (a0, (w64 (a1 + 3)), 128, 191)).bind fun y26 => (bif y26 then ((sidx a0 (w64 (a1 + 1))).bind fun c27 => ((sidx a0 (w64 (a1 + 2))).bind fun c28 => ((sidx a0 (w64 (a1 + 3))).bind fun c29 => (some ((bOr .i64 (bOr .i64 (bOr .i64 (w64 ((w64 (bAnd .u8 (c5.toNat : Int) 7)) * 2 ^ (min (Int.toNat 18) 64))) (w64 ((w64 (bAnd .u8 (c27.toNat : Int) 63)) * 2 ^ (min (Int.toNat 12) 64)))) (w64 ((w64 (bAnd .u8 (c28.toNat : Int) 63)) * 2 ^ (min (Int.toNat 6) 64)))) (w64 (bAnd .u8 (c29.toNat : Int) 63))), a1, 4))))) else (some ((-1), a1, 1)))) else (some ((-1), a1, 1)))) else (some ((-1), a1, 1)))) else ((n204 (a0, (w64 (a1 + 1)), 144, 191)).bind fun y30 => (bif y30 then ((n204 (a0, (w64 (a1 + 2)), 128, 191)).bind fun y31 => (bif y31 then ((n204 (a0, (w64 (a1 + 3)), 128, 191)).bind fun y32 => (bif y32 then ((sidx a0 (w64 (a1 + 1))).bind fun c33 => ((sidx a0 (w64 (a1 + 2))).bind fun c34 => ((sidx a0 (w64 (a1 + 3))).bind fun c35 => (some ((bOr .i64 (bOr .i64 (bOr .i64 (w64 ((w64 (bAnd .u8 (c5.toNat : Int) 7)) * 2 ^ (min (Int.toNat 18) 64))) (w64 ((w64 (bAnd .u8 (c33.toNat : Int) 63)) * 2 ^ (min (Int.toNat 12) 64)))) (w64 ((w64 (bAnd .u8 (c34.toNat : Int) 63)) * 2 ^ (min (Int.toNat 6) 64)))) (w64 (bAnd .u8 (c35.toNat : Int) 63))), a1, 4))))) else (some ((-1), a1, 1)))) else (some ((-1), a1, 1)))) else (some ((-1), a1, 1))))) else (bif ((c5.toNat : Int) == 244) then ((n204 (a0, (w64 (a1 + 1)), 128, 143)).bind fun y36 => (bif y36 then ((n204 (a0, (w64 (a1 + 2)), 128, 191)).bind fun y37 => (bif y37 then ((n204 (a0, (w64 (a1 + 3)), 128, 191)).bind fun y38 => (bif y38 then ((sidx a0 (w64 (a1 + 1))).bind fun c39 => ((sidx a0 (w64 (a1 + 2))).bind fun c40 => ((sidx a0 (w64 (a1 + 3))).bind fun c41 => (some ((bOr .i64 (bOr .i64 (bOr .i64 (w64 ((w64 (bAnd .u8 (c5.toNat : Int) 7)) * 2 ^ (min (Int.toNat 18) 64))) (w64 ((w64 (bAnd .u8 (c39.toNat : Int) 63)) * 2 ^ (min (Int.toNat 12) 64)))) (w64 ((w64 (bAnd .u8 (c40.toNat : Int) 63)) * 2 ^ (min (Int.toNat 6) 64)))) (w64 (bAnd .u8 (c41.toNat : Int) 63))), a1, 4))))) else (some ((-1), a1, 1)))) else (some ((-1), a1, 1)))) else (some ((-1), a1, 1)))) else ((n204 (a0, (w64 (a1 + 1)), 128, 191)).bind fun y42 => (bif y42 then ((n204 (a0, (w64 (a1 + 2)), 128, 191)).bind fun y43 => (bif y43 then ((n204 (a0, (w64 (a1 + 3)), 128, 191)).bind fun y44 => (bif y44 then ((sidx a0 (w64 (a1 + 1))).bind fun c45 => ((sidx a0 (w64 (a1 + 2))).bind fun c46 => ((sidx a0 (w64 (a1 + 3))).bind fun c47 => (some ((bOr .i64 (bOr .i64 (bOr .i64 (w64 ((w64 (bAnd .u8 (c5.toNat : Int) 7)) * 2 ^ (min (Int.toNat 18) 64))) (w64 ((w64 (bAnd .u8 (c45.toNat : Int) 63)) * 2 ^ (min (Int.toNat 12) 64)))) (w64 ((w64 (bAnd .u8 (c46.toNat : Int) 63)) * 2 ^ (min (Int.toNat 6) 64)))) (w64 (bAnd .u8 (c47.toNat : Int) 63))), a1, 4))))) else (some ((-1), a1, 1)))) else (some ((-1), a1, 1)))) else (some ((-1), a1, 1)))))) else (some ((-1), a1, 1)))))))
def e176 : PureE := mkE d176 n176 (fun (a2, a3, a4) => .one (.agg [.val (.int .i64 a2), .val (.int .i64 a3), .val (.int .i64 a4)]))
def g176 {σ : Type} : Nat → Option (SegE σ)
  | _ => none
theorem N176 : ∀ a, n176 a = bodyK (cfgOf Tryz.prog (tabsS1 gl) tS1) (toldOf tS1) noY (inlN (cfgOf Tryz.prog (tabsS1 gl) tS1) (toldOf tS1) noY) g176 176 Tryz.f176 (((fun (a0, a1) => [.val (.string a0), .val (.int .i64 a1)] : (ByteArray × Int) → List D) a).map .d) [] [] () (retK fun v _ _ _ => r176 v) := by
  intro a
  obtain ⟨a0, a1⟩ := a
  kernel_rfl
noncomputable def t176 : Tab := (176, e176) :: tS1
theorem ok176 (hl : LibFits gl) : TabOk Tryz.prog gl t176 :=
  told_fn (okS1 hl) mixed (oddOkS1 hl) (methOkS1 hl) Tryz.func176 (by kernel_rfl) (by kernel_rfl) (by kernel_rfl) (segs_no (by kernel_rfl))
    (args := fun (a0, a1) => [.val (.string a0), .val (.int .i64 a1)]) (res := r176)
    (fun ds a h => by
      unfold d176 at h
      split at h
      · cases h; rfl
      · cases h)
    (fun v r h => by
      unfold r176 at h
      split at h
      · rename_i hv; cases h; exact hv
      · cases h)
    N176
def d168 (ds : List D) : Option (Int) := match ds with
  | [.val (.int .i64 a0)] => some a0
  | _ => none
def r168 (v : AV) : Option (Bool) := match toPR v with
  | some (.one (.val (.bool a1))) => some a1
  | _ => none
def n168 : Int → Option (Bool) := fun a0 => ((n167 a0).bind fun y2 => (bif y2 then (some true) else (bif (decide (a0 ≥ 48)) then (some (bif (decide (a0 ≤ 57)) then true else (a0 == 39))) else (some (a0 == 39)))))
def e168 : PureE := mkE d168 n168 (fun a1 => .one (.val (.bool a1)))
def g168 {σ : Type} : Nat → Option (SegE σ)
  | _ => none
theorem N168 : ∀ a, n168 a = bodyK (cfgOf Tryz.prog (tabsS1 gl) tS1) (toldOf tS1) noY (inlN (cfgOf Tryz.prog (tabsS1 gl) tS1) (toldOf tS1) noY) g168 168 Tryz.f168 (((fun a0 => [.val (.int .i64 a0)] : (Int) → List D) a).map .d) [] [] () (retK fun v _ _ _ => r168 v) := by
  intro a0
  kernel_rfl
noncomputable def t168 : Tab := (168, e168) :: tS1
theorem ok168 (hl : LibFits gl) : TabOk Tryz.prog gl t168 :=
  told_fn (okS1 hl) mixed (oddOkS1 hl) (methOkS1 hl) Tryz.func168 (by kernel_rfl) (by kernel_rfl) (by kernel_rfl) (segs_no (by kernel_rfl))
    (args := fun a0 => [.val (.int .i64 a0)]) (res := r168)
    (fun ds a h => by
      unfold d168 at h
      split at h
      · cases h; rfl
      · cases h)
    (fun v r h => by
      unfold r168 at h
      split at h
      · rename_i hv; cases h; exact hv
      · cases h)
    N168
def d165 (ds : List D) : Option (Int) := match ds with
  | [.val (.int .i32 a0)] => some a0
  | _ => none
def r165 (v : AV) : Option (Bool) := match toPR v with
  | some (.one (.val (.bool a1))) => some a1
  | _ => none
def n165 : Int → Option (Bool) := fun a0 => ((n187 ()).bind fun y2 => (bif (bif (decide (a0 ≥ y2.1)) then (decide (a0 ≤ y2.2.1)) else false) then (some true) else (bif (bif (decide (a0 ≥ y2.2.2.1)) then (decide (a0 ≤ y2.2.2.2.1)) else false) then (some true) else (bif (bif (decide (a0 ≥ y2.2.2.2.2.1)) then (decide (a0 ≤ y2.2.2.2.2.2.1)) else false) then (some true) else (bif (bif (decide (a0 ≥ y2.2.2.2.2.2.2.1)) then (decide (a0 ≤ y2.2.2.2.2.2.2.2.1)) else false) then (some true) else (bif (bif (decide (a0 ≥ y2.2.2.2.2.2.2.2.2.1)) then (decide (a0 ≤ y2.2.2.2.2.2.2.2.2.2.1)) else false) then (some true) else (bif (bif (decide (a0 ≥ y2.2.2.2.2.2.2.2.2.2.2.1)) then (decide (a0 ≤ y2.2.2.2.2.2.2.2.2.2.2.2.1)) else false) then (some true) else (bif (bif (decide (a0 ≥ y2.2.2.2.2.2.2.2.2.2.2.2.2.1)) then (decide (a0 ≤ y2.2.2.2.2.2.2.2.2.2.2.2.2.2.1)) else false) then (some true) else (bif (bif (decide (a0 ≥ y2.2.2.2.2.2.2.2.2.2.2.2.2.2.2.1)) then (decide (a0 ≤ y2.2.2.2.2.2.2.2.2.2.2.2.2.2.2.2)) else false) then (some true) else (some false))))))))))
def e165 : PureE := mkE d165 n165 (fun a1 => .one (.val (.bool a1)))
def g165 {σ : Type} : Nat → Option (SegE σ)
  | _ => none
theorem N165 : ∀ a, n165 a = bodyK (cfgOf Tryz.prog (tabsS1 gl) tS1) (toldOf tS1) noY (inlN (cfgOf Tryz.prog (tabsS1 gl) tS1) (toldOf tS1) noY) g165 165 Tryz.f165 (((fun a0 => [.val (.int .i32 a0)] : (Int) → List D) a).map .d) [] [] () (retK fun v _ _ _ => r165 v) := by
  intro a0
  kernel_rfl
noncomputable def t165 : Tab := (165, e165) :: tS1
theorem ok165 (hl : LibFits gl) : TabOk Tryz.prog gl t165 :=
  told_fn (okS1 hl) mixed (oddOkS1 hl) (methOkS1 hl) Tryz.func165 (by kernel_rfl) (by kernel_rfl) (by kernel_rfl) (segs_no (by kernel_rfl))
    (args := fun a0 => [.val (.int .i32 a0)]) (res := r165)
    (fun ds a h => by
      unfold d165 at h
      split at h
      · cases h; rfl
      · cases h)
    (fun v r h => by
      unfold r165 at h
      split at h
      · rename_i hv; cases h; exact hv
      · cases h)
    N165
abbrev A144_0 := Int × Int × Int × Int × ByteArray × List D × Int × Int × Int × ByteArray × List D
inductive O144_0 where
  | x0 (o50 : Int) (o51 : Int) (o52 : Int) (o53 : Int) (o54 : ByteArray) (o55 : List D) (o56 : Int) (o57 : Int) (o58 : Int) (o59 : ByteArray) (o60 : List D)
  | x1 (o61 : Int) (o62 : Int) (o63 : Int) (o64 : ByteArray) (o65 : List D) (o66 : Int) (o67 : Int) (o68 : Int) (o69 : ByteArray) (o70 : List D)
def l144_0 : LoopS A144_0 O144_0 where
  n := 114
  ks := [2, 3, 5]
  kso := [4]
  m := 2
  mt := 0
  decV := fun vs bs ts => match vs, bs, ts with
    | [.ptr 0 0, .ptr 1 0, .d (.val (.int .i64 v16))], [.cells none [.d (.val (.int .i64 v17)), .d (.val (.int .i64 v18)), .d (.val (.int .i64 v19)), .d (.val (.string v20)), .d (.slice v21)], .cells none [.d (.val (.int .i64 v22)), .d (.val (.int .i64 v23)), .d (.val (.int .i64 v24)), .d (.val (.string v25)), .d (.slice v26)]], [] => some (v16, v17, v18, v19, v20, v21, v22, v23, v24, v25, v26)
    | _, _, _ => none
  encV := fun (v16, v17, v18, v19, v20, v21, v22, v23, v24, v25, v26) => [.ptr 0 0, .ptr 1 0, .d (.val (.int .i64 v16))]
  encB := fun (v16, v17, v18, v19, v20, v21, v22, v23, v24, v25, v26) => [.cells none [.d (.val (.int .i64 v17)), .d (.val (.int .i64 v18)), .d (.val (.int .i64 v19)), .d (.val (.string v20)), .d (.slice v21)], .cells none [.d (.val (.int .i64 v22)), .d (.val (.int .i64 v23)), .d (.val (.int .i64 v24)), .d (.val (.string v25)), .d (.slice v26)]]
  tk := fun _ => []
  decO := fun ex vs bs ts => match ex, vs, bs, ts with
    | .ret, [.d (.val (.int .i64 o50))], [.cells none [.d (.val (.int .i64 o51)), .d (.val (.int .i64 o52)), .d (.val (.int .i64 o53)), .d (.val (.string o54)), .d (.slice o55)], .cells none [.d (.val (.int .i64 o56)), .d (.val (.int .i64 o57)), .d (.val (.int .i64 o58)), .d (.val (.string o59)), .d (.slice o60)]], [] => some (.x0 o50 o51 o52 o53 o54 o55 o56 o57 o58 o59 o60)
    | .normal, [.undef], [.cells none [.d (.val (.int .i64 o61)), .d (.val (.int .i64 o62)), .d (.val (.int .i64 o63)), .d (.val (.string o64)), .d (.slice o65)], .cells none [.d (.val (.int .i64 o66)), .d (.val (.int .i64 o67)), .d (.val (.int .i64 o68)), .d (.val (.string o69)), .d (.slice o70)]], [] => some (.x1 o61 o62 o63 o64 o65 o66 o67 o68 o69 o70)
    | _, _, _, _ => none
  exO := fun x => match x with
    | .x0 o50 o51 o52 o53 o54 o55 o56 o57 o58 o59 o60 => .ret
    | .x1 o61 o62 o63 o64 o65 o66 o67 o68 o69 o70 => .normal
  outV := fun x => match x with
    | .x0 o50 o51 o52 o53 o54 o55 o56 o57 o58 o59 o60 => [.d (.val (.int .i64 o50))]
    | .x1 o61 o62 o63 o64 o65 o66 o67 o68 o69 o70 => [.undef]
  outB := fun x => match x with
    | .x0 o50 o51 o52 o53 o54 o55 o56 o57 o58 o59 o60 => [.cells none [.d (.val (.int .i64 o51)), .d (.val (.int .i64 o52)), .d (.val (.int .i64 o53)), .d (.val (.string o54)), .d (.slice o55)], .cells none [.d (.val (.int .i64 o56)), .d (.val (.int .i64 o57)), .d (.val (.int .i64 o58)), .d (.val (.string o59)), .d (.slice o60)]]
    | .x1 o61 o62 o63 o64 o65 o66 o67 o68 o69 o70 => [.cells none [.d (.val (.int .i64 o61)), .d (.val (.int .i64 o62)), .d (.val (.int .i64 o63)), .d (.val (.string o64)), .d (.slice o65)], .cells none [.d (.val (.int .i64 o66)), .d (.val (.int .i64 o67)), .d (.val (.int .i64 o68)), .d (.val (.string o69)), .d (.slice o70)]]
  tkO := fun x => match x with
    | .x0 o50 o51 o52 o53 o54 o55 o56 o57 o58 o59 o60 => []
    | .x1 o61 o62 o63 o64 o65 o66 o67 o68 o69 o70 => []
  elim := fun x k => match x with
    | .x0 o50 o51 o52 o53 o54 o55 o56 o57 o58 o59 o60 => k .ret [.d (.val (.int .i64 o50))] [.cells none [.d (.val (.int .i64 o51)), .d (.val (.int .i64 o52)), .d (.val (.int .i64 o53)), .d (.val (.string o54)), .d (.slice o55)], .cells none [.d (.val (.int .i64 o56)), .d (.val (.int .i64 o57)), .d (.val (.int .i64 o58)), .d (.val (.string o59)), .d (.slice o60)]] []
    | .x1 o61 o62 o63 o64 o65 o66 o67 o68 o69 o70 => k .normal [.undef] [.cells none [.d (.val (.int .i64 o61)), .d (.val (.int .i64 o62)), .d (.val (.int .i64 o63)), .d (.val (.string o64)), .d (.slice o65)], .cells none [.d (.val (.int .i64 o66)), .d (.val (.int .i64 o67)), .d (.val (.int .i64 o68)), .d (.val (.string o69)), .d (.slice o70)]] []
theorem k144_0 : l144_0.Ok where
  ok1 := by kernel_rfl
  ok2 := by kernel_rfl
  dec := by
    intro vs bs ts a h
    simp only [l144_0] at h ⊢
    split at h
    · cases h; exact ⟨rfl, rfl⟩
    · cases h
  out := by
    intro ex vs bs ts o h
    simp only [l144_0] at h ⊢
    split at h
    · cases h; exact ⟨rfl, rfl, rfl⟩
    · cases h; exact ⟨rfl, rfl, rfl⟩
    · cases h
  len := fun _ => ⟨rfl, rfl⟩
  elim := fun β o k => by cases o <;> rfl
def L144_0 {σ : Type} (F : Int × Int × Int × ByteArray × List D × Int × Int × Int × ByteArray × List D → Option (Int)) : Nat → A144_0 → σ → Option (O144_0 × σ)
  | 0, _, _ => none
  | n+1, (v16, v17, v18, v19, v20, v21, v22, v23, v24, v25, v26), s => (bif (decide (v16 < ((v21.length : Nat) : Int))) then ((lidx v21 v16).bind fun d27 => ask (d27.cells.length = 5) ((cellAt 0 d27).bind fun x28 => (asInt .i64 x28).bind fun x29 => ((cellAt 1 d27).bind fun x30 => (asInt .i64 x30).bind fun x31 => ((cellAt 2 d27).bind fun x32 => (asInt .i64 x32).bind fun x33 => ((cellAt 3 d27).bind fun x34 => (asStr x34).bind fun x35 => ((cellAt 4 d27).bind fun x36 => (asRow x36).bind fun x37 => ((lidx v26 v16).bind fun d38 => ask (d38.cells.length = 5) ((cellAt 0 d38).bind fun x39 => (asInt .i64 x39).bind fun x40 => ((cellAt 1 d38).bind fun x41 => (asInt .i64 x41).bind fun x42 => ((cellAt 2 d38).bind fun x43 => (asInt .i64 x43).bind fun x44 => ((cellAt 3 d38).bind fun x45 => (asStr x45).bind fun x46 => ((cellAt 4 d38).bind fun x47 => (asRow x47).bind fun x48 => ((F (x29, x31, x33, x35, x37, x40, x42, x44, x46, x48)).bind fun y49 => (bif (y49 != 0) then (some (O144_0.x0 y49 v17 v18 v19 v20 v21 v22 v23 v24 v25 v26, s)) else (L144_0 F n ((w64 (v16 + 1)), v17, v18, v19, v20, v21, v22, v23, v24, v25, v26) s))))))))))))))) else (some (O144_0.x1 v17 v18 v19 v20 v21 v22 v23 v24 v25 v26, s)))
def d144 (ds : List D) : Option (Int × Int × Int × ByteArray × List D × Int × Int × Int × ByteArray × List D) := match ds with
  | [.agg [.val (.int .i64 a0), .val (.int .i64 a1), .val (.int .i64 a2), .val (.string a3), .slice a4], .agg [.val (.int .i64 a5), .val (.int .i64 a6), .val (.int .i64 a7), .val (.string a8), .slice a9]] => some (a0, a1, a2, a3, a4, a5, a6, a7, a8, a9)
  | _ => none
def r144 (v : AV) : Option (Int) := match toPR v with
  | some (.one (.val (.int .i64 a10))) => some a10
  | _ => none
def n144 : Nat → Int × Int × Int × ByteArray × List D × Int × Int × Int × ByteArray × List D → Option (Int)
  | 0, _ => none
  | k + 1, (a0, a1, a2, a3, a4, a5, a6, a7, a8, a9) => (bif (a0 != a5) then ((n177 ((decide (a0 < a5)), (decide (a0 > a5)))).bind fun y11 => (some y11)) else (bif (a1 != a6) then ((n177 ((decide (a1 < a6)), (decide (a1 > a6)))).bind fun y12 => (some y12)) else (bif (a2 != a7) then ((n177 ((decide (a2 < a7)), (decide (a2 > a7)))).bind fun y13 => (some y13)) else (bif (!(sEq a3 a8)) then ((n177 ((sLt a3 a8), (!(sLt a3 a8 || sEq a3 a8)))).bind fun y14 => (some y14)) else (bif (((a4.length : Nat) : Int) != ((a9.length : Nat) : Int)) then ((n177 ((decide (((a4.length : Nat) : Int) < ((a9.length : Nat) : Int))), (decide (((a4.length : Nat) : Int) > ((a9.length : Nat) : Int))))).bind fun y15 => (some y15)) else ((L144_0 (n144 k) 1000000000000 (0, a0, a1, a2, a3, a4, a5, a6, a7, a8, a9) ()).bind fun p71 => match p71.1 with | .x0 z72 z73 z74 z75 z76 z77 z78 z79 z80 z81 z82 => (some z72) | .x1 z83 z84 z85 z86 z87 z88 z89 z90 z91 z92 => (some 0)))))))
def e144 : PureE := mkE d144 (n144 64) (fun a10 => .one (.val (.int .i64 a10)))
def g144 (k : Nat) {σ : Type} : Nat → Option (SegE σ)
  | 0 => some (l144_0.seg σ (L144_0 (n144 k) 1000000000000))
  | _ => none
theorem E144_0 {σ : Type} (k : Nat) (Y : Yd σ) : ∀ n a (s : σ), L144_0 (n144 k) (n + 1) a s = evK (cfgOf Tryz.prog (tabsS1 gl) (((144, mkE d144 (n144 k) (fun a10 => .one (.val (.int .i64 a10)))) :: tS1) : Tab)) (toldOf (((144, mkE d144 (n144 k) (fun a10 => .one (.val (.int .i64 a10)))) :: tS1) : Tab)) Y (inlN (cfgOf Tryz.prog (tabsS1 gl) (((144, mkE d144 (n144 k) (fun a10 => .one (.val (.int .i64 a10)))) :: tS1) : Tab)) (toldOf (((144, mkE d144 (n144 k) (fun a10 => .one (.val (.int .i64 a10)))) :: tS1) : Tab)) Y) (g144 k) 144 (loopAt Tryz.f144 0) ((l144_0.toT σ).enc a s) (fun ex st' => l144_0.next (cfgOf Tryz.prog (tabsS1 gl) (((144, mkE d144 (n144 k) (fun a10 => .one (.val (.int .i64 a10)))) :: tS1) : Tab)) 144 0 (L144_0 (n144 k) n) ex st') := by
  intro n ⟨v16, v17, v18, v19, v20, v21, v22, v23, v24, v25, v26⟩ s
  kernel_rfl
theorem Q144_0 {σ : Type} (hl : LibFits gl) (k : Nat) (hk : TabOk Tryz.prog gl (((144, mkE d144 (n144 k) (fun a10 => .one (.val (.int .i64 a10)))) :: tS1) : Tab)) (Y : Yd σ) (rnd : Bool) : SegOk (cfgOf Tryz.prog (tabsS1 gl) (((144, mkE d144 (n144 k) (fun a10 => .one (.val (.int .i64 a10)))) :: tS1) : Tab)) (evFn (cfgOf Tryz.prog (tabsS1 gl) (((144, mkE d144 (n144 k) (fun a10 => .one (.val (.int .i64 a10)))) :: tS1) : Tab)) 9) 144 rnd Y (l144_0.seg σ (L144_0 (n144 k) 1000000000000)) (.block 0 (.loop (loopAt Tryz.f144 0))) :=
  told_loop hk k144_0 (by kernel_rfl) (by kernel_rfl) (fun _ _ => rfl) (segs_no (by kernel_rfl)) (E144_0 k Y) (hr := by kernel_rfl)
theorem N144 : ∀ k a, n144 (k + 1) a = bodyK (cfgOf Tryz.prog (tabsS1 gl) (((144, mkE d144 (n144 k) (fun a10 => .one (.val (.int .i64 a10)))) :: tS1) : Tab)) (toldOf (((144, mkE d144 (n144 k) (fun a10 => .one (.val (.int .i64 a10)))) :: tS1) : Tab)) noY (inlN (cfgOf Tryz.prog (tabsS1 gl) (((144, mkE d144 (n144 k) (fun a10 => .one (.val (.int .i64 a10)))) :: tS1) : Tab)) (toldOf (((144, mkE d144 (n144 k) (fun a10 => .one (.val (.int .i64 a10)))) :: tS1) : Tab)) noY) (g144 k) 144 Tryz.f144 (((fun (a0, a1, a2, a3, a4, a5, a6, a7, a8, a9) => [.agg [.val (.int .i64 a0), .val (.int .i64 a1), .val (.int .i64 a2), .val (.string a3), .slice a4], .agg [.val (.int .i64 a5), .val (.int .i64 a6), .val (.int .i64 a7), .val (.string a8), .slice a9]] : (Int × Int × Int × ByteArray × List D × Int × Int × Int × ByteArray × List D) → List D) a).map .d) [] [] () (retK fun v _ _ _ => r144 v) := by
  intro k a
  obtain ⟨a0, a1, a2, a3, a4, a5, a6, a7, a8, a9⟩ := a
  kernel_rfl
noncomputable def t144 : Tab := (144, e144) :: tS1
theorem ok144 (hl : LibFits gl) : TabOk Tryz.prog gl t144 :=
  told_rec (t := tabsS1 gl) (okS1 hl) mixed (oddOkS1 hl) (methOkS1 hl) Tryz.func144 (by kernel_rfl) (nat := n144) (seg := fun k => g144 k) (by kernel_rfl) (fun k hk => (fun p hp e he => by
    have hq : segsOf (σ := Unit) (g144 k (σ := Unit)) (bodyOf Tryz.f144) = [(0, .loop (loopAt Tryz.f144 0))] := by kernel_rfl
    rw [hq] at hp
    simp only [List.mem_cons, List.not_mem_nil, or_false] at hp
    subst hp
    cases he
    exact Q144_0 hl k hk _ _))
    (args := fun (a0, a1, a2, a3, a4, a5, a6, a7, a8, a9) => [.agg [.val (.int .i64 a0), .val (.int .i64 a1), .val (.int .i64 a2), .val (.string a3), .slice a4], .agg [.val (.int .i64 a5), .val (.int .i64 a6), .val (.int .i64 a7), .val (.string a8), .slice a9]]) (res := r144)
    (fun ds a h => by
      unfold d144 at h
      split at h
      · cases h; rfl
      · cases h)
    (fun v r h => by
      unfold r144 at h
      split at h
      · rename_i hv; cases h; exact hv
      · cases h)
    (fun _ => rfl) N144 64
abbrev A145_0 := Int × ByteArray × Int × Int × ByteArray × Bool
inductive O145_0 where
  | x0 (o15 : Int) (o16 : Int) (o17 : Int) (o18 : ByteArray) (o19 : Bool)
  | x1 (o20 : ByteArray) (o21 : Bool)
def l145_0 : LoopS A145_0 O145_0 where
  n := 47
  ks := [5, 14, 15, 16]
  kso := [2, 3, 4]
  m := 1
  mt := 0
  decV := fun vs bs ts => match vs, bs, ts with
    | [.d (.val (.int .u64 v8)), .d (.bytes v9), .d (.val (.int .i64 v10)), .d (.val (.int .i64 v11))], [.cells none [.d (.bytes v12), .d (.val (.bool v13))]], [] => some (v8, v9, v10, v11, v12, v13)
    | _, _, _ => none
  encV := fun (v8, v9, v10, v11, v12, v13) => [.d (.val (.int .u64 v8)), .d (.bytes v9), .d (.val (.int .i64 v10)), .d (.val (.int .i64 v11))]
  encB := fun (v8, v9, v10, v11, v12, v13) => [.cells none [.d (.bytes v12), .d (.val (.bool v13))]]
  tk := fun _ => []
  decO := fun ex vs bs ts => match ex, vs, bs, ts with
    | .ret, [.d (.val (.int .u64 o15)), .d (.val (.int .i64 o16)), .d (.val (.int .i64 o17))], [.cells none [.d (.bytes o18), .d (.val (.bool o19))]], [] => some (.x0 o15 o16 o17 o18 o19)
    | .normal, [.undef, .undef, .undef], [.cells none [.d (.bytes o20), .d (.val (.bool o21))]], [] => some (.x1 o20 o21)
    | _, _, _, _ => none
  exO := fun x => match x with
    | .x0 o15 o16 o17 o18 o19 => .ret
    | .x1 o20 o21 => .normal
  outV := fun x => match x with
    | .x0 o15 o16 o17 o18 o19 => [.d (.val (.int .u64 o15)), .d (.val (.int .i64 o16)), .d (.val (.int .i64 o17))]
    | .x1 o20 o21 => [.undef, .undef, .undef]
  outB := fun x => match x with
    | .x0 o15 o16 o17 o18 o19 => [.cells none [.d (.bytes o18), .d (.val (.bool o19))]]
    | .x1 o20 o21 => [.cells none [.d (.bytes o20), .d (.val (.bool o21))]]
  tkO := fun x => match x with
    | .x0 o15 o16 o17 o18 o19 => []
    | .x1 o20 o21 => []
  elim := fun x k => match x with
    | .x0 o15 o16 o17 o18 o19 => k .ret [.d (.val (.int .u64 o15)), .d (.val (.int .i64 o16)), .d (.val (.int .i64 o17))] [.cells none [.d (.bytes o18), .d (.val (.bool o19))]] []
    | .x1 o20 o21 => k .normal [.undef, .undef, .undef] [.cells none [.d (.bytes o20), .d (.val (.bool o21))]] []
theorem k145_0 : l145_0.Ok where
  ok1 := by kernel_rfl
  ok2 := by kernel_rfl
  dec := by
    intro vs bs ts a h
    simp only [l145_0] at h ⊢
    split at h
    · cases h; exact ⟨rfl, rfl⟩
    · cases h
  out := by
    intro ex vs bs ts o h
    simp only [l145_0] at h ⊢
    split at h
    · cases h; exact ⟨rfl, rfl, rfl⟩
    · cases h; exact ⟨rfl, rfl, rfl⟩
    · cases h
  len := fun _ => ⟨rfl, rfl⟩
  elim := fun β o k => by cases o <;> rfl
def L145_0 {σ : Type} : Nat → A145_0 → σ → Option (O145_0 × σ)
  | 0, _, _ => none
  | n+1, (v8, v9, v10, v11, v12, v13), s => (bif (decide (v11 < v10)) then ((sidx v9 v11).bind fun c14 => (bif (bif (v11 == 9) then ((c14.toNat : Int) != 1) else false) then (some (O145_0.x0 0 0 12 v12 v13, s)) else (ask (0 ≤ (w64 (7 * v11))) (bif (decide ((c14.toNat : Int) < 128)) then (bif (bif (decide (v11 > 0)) then ((c14.toNat : Int) == 0) else false) then (some (O145_0.x0 0 0 12 v12 v13, s)) else (some (O145_0.x0 (bOr .u64 v8 (wu64 ((wu64 (bAnd .u8 (c14.toNat : Int) 127)) * 2 ^ (min (Int.toNat (w64 (7 * v11))) 64)))) (w64 (v11 + 1)) 0 v12 v13, s))) else (L145_0 n ((bOr .u64 v8 (wu64 ((wu64 (bAnd .u8 (c14.toNat : Int) 127)) * 2 ^ (min (Int.toNat (w64 (7 * v11))) 64)))), v9, v10, (w64 (v11 + 1)), v12, v13) s))))) else (some (O145_0.x1 v12 v13, s)))
def dM145 (av : List AV) (bs : List Box) (ts : List Nat) : Option (ByteArray × Bool) := match av, bs, ts with
  | [.ptr 0 0], [.cells none [.d (.bytes a0), .d (.val (.bool a1))]], [] => some (a0, a1)
  | _, _, _ => none
def aM145 : (ByteArray × Bool) → List AV := fun (a0, a1) => [.ptr 0 0]
def bM145 : (ByteArray × Bool) → List Box := fun (a0, a1) => [.cells none [.d (.bytes a0), .d (.val (.bool a1))]]
def tM145 : (ByteArray × Bool) → List Nat := fun (a0, a1) => []
def vM145 : (Int × Int × Int × ByteArray × Bool) → AV := fun (o3, o4, o5, p6, p7) => .tup [.d (.val (.int .u64 o3)), .d (.val (.int .i64 o4)), .d (.val (.int .i64 o5))]
def cM145 : (Int × Int × Int × ByteArray × Bool) → List Box := fun (o3, o4, o5, p6, p7) => [.cells none [.d (.bytes p6), .d (.val (.bool p7))]]
def kM145 : (Int × Int × Int × ByteArray × Bool) → List Nat := fun (o3, o4, o5, p6, p7) => []
def rM145 (v : AV) (bs : List Box) (ts : List Nat) : Option (Int × Int × Int × ByteArray × Bool) := match v, bs, ts with
  | .tup [.d (.val (.int .u64 o3)), .d (.val (.int .i64 o4)), .d (.val (.int .i64 o5))], [.cells none [.d (.bytes p6), .d (.val (.bool p7))]], [] => some (o3, o4, o5, p6, p7)
  | _, _, _ => none
def n145 : ByteArray × Bool → Option (Int × Int × Int × ByteArray × Bool) := fun (a0, a1) => ((n106 (a0, a1)).bind fun y2 => (bif (!y2.1) then (some (0, 0, 1, a0, a1)) else ((L145_0 1000000000000 (0, a0, ((a0.size : Nat) : Int), 0, a0, a1) ()).bind fun p22 => match p22.1 with | .x0 z23 z24 z25 z26 z27 => (some (z23, z24, z25, z26, z27)) | .x1 z28 z29 => (some (0, 0, 10, z28, z29)))))
def g145 {σ : Type} : Nat → Option (SegE σ)
  | 0 => some (l145_0.seg σ (L145_0 1000000000000))
  | _ => none
theorem E145_0 {σ : Type} (Y : Yd σ) : ∀ n a (s : σ), L145_0 (n + 1) a s = evK (cfgOf Tryz.prog (tabsS1 gl) tS1) (toldOf tS1) Y (inlN (cfgOf Tryz.prog (tabsS1 gl) tS1) (toldOf tS1) Y) g145 145 (loopAt Tryz.f145 0) ((l145_0.toT σ).enc a s) (fun ex st' => l145_0.next (cfgOf Tryz.prog (tabsS1 gl) tS1) 145 0 (L145_0 n) ex st') := by
  intro n ⟨v8, v9, v10, v11, v12, v13⟩ s
  kernel_rfl
theorem Q145_0 {σ : Type} (hl : LibFits gl) (Y : Yd σ) (rnd : Bool) : SegOk (cfgOf Tryz.prog (tabsS1 gl) tS1) (evFn (cfgOf Tryz.prog (tabsS1 gl) tS1) 9) 145 rnd Y (l145_0.seg σ (L145_0 1000000000000)) (.block 0 (.loop (loopAt Tryz.f145 0))) :=
  told_loop (okS1 hl) k145_0 (by kernel_rfl) (by kernel_rfl) (fun _ _ => rfl) (segs_no (by kernel_rfl)) (E145_0 Y) (hr := by kernel_rfl)
theorem N145 : ∀ a, n145 a = bodyK (cfgOf Tryz.prog (tabsS1 gl) tS1) (toldOf tS1) noY (inlN (cfgOf Tryz.prog (tabsS1 gl) tS1) (toldOf tS1) noY) g145 145 Tryz.f145 (aM145 a) (bM145 a) (tM145 a) () (retK fun v b tk _ => rM145 v b tk) := by
  intro a
  obtain ⟨a0, a1⟩ := a
  kernel_rfl
theorem om145 (hl : LibFits gl) : OddSound Tryz.prog gl (fun g => bif Nat.beq g 145 then some (methE 145 dM145 n145 (fun _ => vM145) (fun _ => cM145) (fun _ => kM145)) else (tabsS1 gl).odd g) :=
  told_meth (t := tabsS1 gl) (okS1 hl) mixed (oddOkS1 hl) (methOkS1 hl) Tryz.func145 (by kernel_rfl) (by kernel_rfl) (argsOf := aM145) (boxOf := bM145) (tokOf := tM145) (res := fun _ => rM145) (by kernel_rfl) (fun p hp e he => by
    have hq : segsOf (σ := Unit) (g145 (σ := Unit)) (bodyOf Tryz.f145) = [(0, .loop (loopAt Tryz.f145 0))] := by kernel_rfl
    rw [hq] at hp
    simp only [List.mem_cons, List.not_mem_nil, or_false] at hp
    subst hp
    cases he
    exact Q145_0 hl _ _)
    (fun av bs ts a h => by
      unfold dM145 at h
      split at h
      · cases h; exact ⟨rfl, rfl, rfl⟩
      · cases h)
    (fun _ v b tk o h => by
      unfold rM145 at h
      split at h
      · cases h; exact ⟨rfl, rfl, rfl⟩
      · cases h)
    N145
def dM103 (av : List AV) (bs : List Box) (ts : List Nat) : Option (ByteArray × Bool) := match av, bs, ts with
  | [.ptr 0 0], [.cells none [.d (.bytes a0), .d (.val (.bool a1))]], [] => some (a0, a1)
  | _, _, _ => none
def aM103 : (ByteArray × Bool) → List AV := fun (a0, a1) => [.ptr 0 0]
def bM103 : (ByteArray × Bool) → List Box := fun (a0, a1) => [.cells none [.d (.bytes a0), .d (.val (.bool a1))]]
def tM103 : (ByteArray × Bool) → List Nat := fun (a0, a1) => []
def vM103 : (Int × Int × ByteArray × Bool) → AV := fun (o3, o4, p5, p6) => .tup [.d (.val (.int .u8 o3)), .d (.val (.int .i64 o4))]
def cM103 : (Int × Int × ByteArray × Bool) → List Box := fun (o3, o4, p5, p6) => [.cells none [.d (.bytes p5), .d (.val (.bool p6))]]
def kM103 : (Int × Int × ByteArray × Bool) → List Nat := fun (o3, o4, p5, p6) => []
def rM103 (v : AV) (bs : List Box) (ts : List Nat) : Option (Int × Int × ByteArray × Bool) := match v, bs, ts with
  | .tup [.d (.val (.int .u8 o3)), .d (.val (.int .i64 o4))], [.cells none [.d (.bytes p5), .d (.val (.bool p6))]], [] => some (o3, o4, p5, p6)
  | _, _, _ => none
def n103 : ByteArray × Bool → Option (Int × Int × ByteArray × Bool) := fun (a0, a1) => ((n106 (a0, a1)).bind fun y2 => (bif (!y2.1) then (some (0, 1, a0, a1)) else (bif (((a0.size : Nat) : Int) == 0) then (some (0, 10, a0, a1)) else ((sidx a0 0).bind fun c7 => (ask (cutRowOk 1 ((a0.size : Nat) : Int) ((a0.size : Nat) : Int) (a0.size) true) (some ((c7.toNat : Int), 0, (a0.extract (Int.toNat 1) (Int.toNat ((a0.size : Nat) : Int))), a1)))))))
def g103 {σ : Type} : Nat → Option (SegE σ)
  | _ => none
theorem N103 : ∀ a, n103 a = bodyK (cfgOf Tryz.prog (tabsS1 gl) tS1) (toldOf tS1) noY (inlN (cfgOf Tryz.prog (tabsS1 gl) tS1) (toldOf tS1) noY) g103 103 Tryz.f103 (aM103 a) (bM103 a) (tM103 a) () (retK fun v b tk _ => rM103 v b tk) := by
  intro a
  obtain ⟨a0, a1⟩ := a
  kernel_rfl
theorem om103 (hl : LibFits gl) : OddSound Tryz.prog gl (fun g => bif Nat.beq g 103 then some (methE 103 dM103 n103 (fun _ => vM103) (fun _ => cM103) (fun _ => kM103)) else (tabsS1 gl).odd g) :=
  told_meth (t := tabsS1 gl) (okS1 hl) mixed (oddOkS1 hl) (methOkS1 hl) Tryz.func103 (by kernel_rfl) (by kernel_rfl) (argsOf := aM103) (boxOf := bM103) (tokOf := tM103) (res := fun _ => rM103) (by kernel_rfl) (segs_no (by kernel_rfl))
    (fun av bs ts a h => by
      unfold dM103 at h
      split at h
      · cases h; exact ⟨rfl, rfl, rfl⟩
      · cases h)
    (fun _ v b tk o h => by
      unfold rM103 at h
      split at h
      · cases h; exact ⟨rfl, rfl, rfl⟩
      · cases h)
    N103
def dM50 (av : List AV) (bs : List Box) (ts : List Nat) : Option (ByteArray × Bool) := match av, bs, ts with
  | [.ptr 0 0], [.cells none [.d (.bytes a0), .d (.val (.bool a1))]], [] => some (a0, a1)
  | _, _, _ => none
def aM50 : (ByteArray × Bool) → List AV := fun (a0, a1) => [.ptr 0 0]
def bM50 : (ByteArray × Bool) → List Box := fun (a0, a1) => [.cells none [.d (.bytes a0), .d (.val (.bool a1))]]
def tM50 : (ByteArray × Bool) → List Nat := fun (a0, a1) => []
def vM50 : (Int × ByteArray × Bool) → AV := fun (o3, p4, p5) => .d (.val (.int .i64 o3))
def cM50 : (Int × ByteArray × Bool) → List Box := fun (o3, p4, p5) => [.cells none [.d (.bytes p4), .d (.val (.bool p5))]]
def kM50 : (Int × ByteArray × Bool) → List Nat := fun (o3, p4, p5) => []
def rM50 (v : AV) (bs : List Box) (ts : List Nat) : Option (Int × ByteArray × Bool) := match v, bs, ts with
  | .d (.val (.int .i64 o3)), [.cells none [.d (.bytes p4), .d (.val (.bool p5))]], [] => some (o3, p4, p5)
  | _, _, _ => none
def n50 : ByteArray × Bool → Option (Int × ByteArray × Bool) := fun (a0, a1) => ((n106 (a0, a1)).bind fun y2 => (bif (!y2.1) then (some (0, a0, a1)) else (some (((a0.size : Nat) : Int), a0, a1))))
theorem hM50 : ∀ a o, n50 a = some o → cM50 o = bM50 a ∧ kM50 o = tM50 a := by
  intro a
  obtain ⟨a0, a1⟩ := a
  refine (?_ : Qt (n50 _) _)
  unfold n50
  dsimp only
  repeat' (first | exact qt_some ⟨rfl, rfl⟩ | exact qt_none | refine qt_bif ?_ ?_ | refine qt_ask ?_ | (refine qt_bind ?_; intro v; try dsimp only) | split)
def g50 {σ : Type} : Nat → Option (SegE σ)
  | _ => none
theorem N50 : ∀ a, n50 a = bodyK (cfgOf Tryz.prog (tabsS1 gl) tS1) (toldOf tS1) noY (inlN (cfgOf Tryz.prog (tabsS1 gl) tS1) (toldOf tS1) noY) g50 50 Tryz.f50 (aM50 a) (bM50 a) (tM50 a) () (retK fun v b tk _ => rM50 v b tk) := by
  intro a
  obtain ⟨a0, a1⟩ := a
  kernel_rfl
theorem om50 (hl : LibFits gl) : OddSound Tryz.prog gl (fun g => bif Nat.beq g 50 then some (methR 50 dM50 n50 vM50 cM50 kM50) else (tabsS1 gl).odd g) :=
  told_methR (t := tabsS1 gl) (okS1 hl) mixed (oddOkS1 hl) (methOkS1 hl) Tryz.func50 (by kernel_rfl) (by kernel_rfl) (argsOf := aM50) (boxOf := bM50) (tokOf := tM50) (res := rM50) hM50 (by kernel_rfl) (segs_no (by kernel_rfl))
    (fun av bs ts a h => by
      unfold dM50 at h
      split at h
      · cases h; exact ⟨rfl, rfl, rfl⟩
      · cases h)
    (fun v b tk o h => by
      unfold rM50 at h
      split at h
      · cases h; exact ⟨rfl, rfl, rfl⟩
      · cases h)
    N50
abbrev PT51 := Int × ByteArray × Int × Int
abbrev RT51 := ((Int × Int × Int × ByteArray × List D × Int × Int) ⊕ (Unit))
abbrev A51_1 := ByteArray × Int × Int × Int × Int × Int × Int × Int × ByteArray × List D × Int × Int × Int × ByteArray × List D
inductive O51_1 where
  | x0 (o1025 : Int) (o1026 : Int) (o1027 : Int) (o1028 : Int) (o1029 : Int) (o1030 : ByteArray) (o1031 : List D) (o1032 : Int) (o1033 : Int) (o1034 : Int) (o1035 : ByteArray) (o1036 : List D) (q1037 : Nat)
  | x1 (q1038 : Nat) (q1039 : Nat)
  | x2 (o1040 : Int) (o1041 : Int) (o1042 : Int) (o1043 : Int) (o1044 : Int) (o1045 : ByteArray) (o1046 : List D) (o1047 : Int) (o1048 : Int) (o1049 : Int) (o1050 : ByteArray) (o1051 : List D)
def l51_1 : LoopS A51_1 O51_1 where
  n := 153
  ks := [0, 1, 2, 3, 8, 10, 11]
  kso := [1, 8, 9, 10]
  m := 3
  mt := 2
  decV := fun vs bs ts => match vs, bs, ts with
    | [.d (.bytes v1007), .d (.val (.int .i64 v1008)), .d (.val (.int .i64 v1009)), .ptr 0 0, .ptr 1 0, .ptr 2 0, .d (.val (.int .u64 v1010))], [.cells (some 3) [.d (.val (.int .i64 v1011))], .cells (some 26) [.d (.val (.int .i64 v1012)), .d (.val (.int .i64 v1013)), .d (.val (.int .i64 v1014)), .d (.val (.string v1015)), .osl 0 v1016], .cells (some 26) [.d (.val (.int .i64 v1017)), .d (.val (.int .i64 v1018)), .d (.val (.int .i64 v1019)), .d (.val (.string v1020)), .osl 1 v1021]], [_, _] => some (v1007, v1008, v1009, v1010, v1011, v1012, v1013, v1014, v1015, v1016, v1017, v1018, v1019, v1020, v1021)
    | _, _, _ => none
  encV := fun (v1007, v1008, v1009, v1010, v1011, v1012, v1013, v1014, v1015, v1016, v1017, v1018, v1019, v1020, v1021) => [.d (.bytes v1007), .d (.val (.int .i64 v1008)), .d (.val (.int .i64 v1009)), .ptr 0 0, .ptr 1 0, .ptr 2 0, .d (.val (.int .u64 v1010))]
  encB := fun (v1007, v1008, v1009, v1010, v1011, v1012, v1013, v1014, v1015, v1016, v1017, v1018, v1019, v1020, v1021) => [.cells (some 3) [.d (.val (.int .i64 v1011))], .cells (some 26) [.d (.val (.int .i64 v1012)), .d (.val (.int .i64 v1013)), .d (.val (.int .i64 v1014)), .d (.val (.string v1015)), .osl 0 v1016], .cells (some 26) [.d (.val (.int .i64 v1017)), .d (.val (.int .i64 v1018)), .d (.val (.int .i64 v1019)), .d (.val (.string v1020)), .osl 1 v1021]]
  tk := fun (v1007, v1008, v1009, v1010, v1011, v1012, v1013, v1014, v1015, v1016, v1017, v1018, v1019, v1020, v1021) => [v1016.length, v1021.length]
  decO := fun ex vs bs ts => match payOf ex with
    | some (88, []) => (match vs, bs, ts with
      | [.undef, .undef, .undef, .undef], [.gone, .gone, .gone], [q1038, q1039] => some (.x1 q1038 q1039)
      | _, _, _ => none)
    | _ => (match ex, vs, bs, ts with
      | .ret, [.undef, .ptr 1 0, .d (.val (.int .i64 o1025)), .ptr 2 0], [.cells (some 3) [.d (.val (.int .i64 o1026))], .cells (some 26) [.d (.val (.int .i64 o1027)), .d (.val (.int .i64 o1028)), .d (.val (.int .i64 o1029)), .d (.val (.string o1030)), .osl 1 o1031], .cells (some 26) [.d (.val (.int .i64 o1032)), .d (.val (.int .i64 o1033)), .d (.val (.int .i64 o1034)), .d (.val (.string o1035)), .osl 1 o1036]], [q1037, _] => some (.x0 o1025 o1026 o1027 o1028 o1029 o1030 o1031 o1032 o1033 o1034 o1035 o1036 q1037)
      | .normal, [.d (.val (.int .i64 o1040)), .ptr 1 0, .undef, .ptr 2 0], [.cells (some 3) [.d (.val (.int .i64 o1041))], .cells (some 26) [.d (.val (.int .i64 o1042)), .d (.val (.int .i64 o1043)), .d (.val (.int .i64 o1044)), .d (.val (.string o1045)), .osl 0 o1046], .cells (some 26) [.d (.val (.int .i64 o1047)), .d (.val (.int .i64 o1048)), .d (.val (.int .i64 o1049)), .d (.val (.string o1050)), .osl 1 o1051]], [_, _] => some (.x2 o1040 o1041 o1042 o1043 o1044 o1045 o1046 o1047 o1048 o1049 o1050 o1051)
      | _, _, _, _ => none)
  exO := fun x => match x with
    | .x0 o1025 o1026 o1027 o1028 o1029 o1030 o1031 o1032 o1033 o1034 o1035 o1036 q1037 => .ret
    | .x1 q1038 q1039 => (.panic (.d (.val (.iface 88 (.agg #[])))))
    | .x2 o1040 o1041 o1042 o1043 o1044 o1045 o1046 o1047 o1048 o1049 o1050 o1051 => .normal
  outV := fun x => match x with
    | .x0 o1025 o1026 o1027 o1028 o1029 o1030 o1031 o1032 o1033 o1034 o1035 o1036 q1037 => [.undef, .ptr 1 0, .d (.val (.int .i64 o1025)), .ptr 2 0]
    | .x1 q1038 q1039 => [.undef, .undef, .undef, .undef]
    | .x2 o1040 o1041 o1042 o1043 o1044 o1045 o1046 o1047 o1048 o1049 o1050 o1051 => [.d (.val (.int .i64 o1040)), .ptr 1 0, .undef, .ptr 2 0]
  outB := fun x => match x with
    | .x0 o1025 o1026 o1027 o1028 o1029 o1030 o1031 o1032 o1033 o1034 o1035 o1036 q1037 => [.cells (some 3) [.d (.val (.int .i64 o1026))], .cells (some 26) [.d (.val (.int .i64 o1027)), .d (.val (.int .i64 o1028)), .d (.val (.int .i64 o1029)), .d (.val (.string o1030)), .osl 1 o1031], .cells (some 26) [.d (.val (.int .i64 o1032)), .d (.val (.int .i64 o1033)), .d (.val (.int .i64 o1034)), .d (.val (.string o1035)), .osl 1 o1036]]
    | .x1 q1038 q1039 => [.gone, .gone, .gone]
    | .x2 o1040 o1041 o1042 o1043 o1044 o1045 o1046 o1047 o1048 o1049 o1050 o1051 => [.cells (some 3) [.d (.val (.int .i64 o1041))], .cells (some 26) [.d (.val (.int .i64 o1042)), .d (.val (.int .i64 o1043)), .d (.val (.int .i64 o1044)), .d (.val (.string o1045)), .osl 0 o1046], .cells (some 26) [.d (.val (.int .i64 o1047)), .d (.val (.int .i64 o1048)), .d (.val (.int .i64 o1049)), .d (.val (.string o1050)), .osl 1 o1051]]
  tkO := fun x => match x with
    | .x0 o1025 o1026 o1027 o1028 o1029 o1030 o1031 o1032 o1033 o1034 o1035 o1036 q1037 => [q1037, o1031.length]
    | .x1 q1038 q1039 => [q1038, q1039]
    | .x2 o1040 o1041 o1042 o1043 o1044 o1045 o1046 o1047 o1048 o1049 o1050 o1051 => [o1046.length, o1051.length]
  elim := fun x k => match x with
    | .x0 o1025 o1026 o1027 o1028 o1029 o1030 o1031 o1032 o1033 o1034 o1035 o1036 q1037 => k .ret [.undef, .ptr 1 0, .d (.val (.int .i64 o1025)), .ptr 2 0] [.cells (some 3) [.d (.val (.int .i64 o1026))], .cells (some 26) [.d (.val (.int .i64 o1027)), .d (.val (.int .i64 o1028)), .d (.val (.int .i64 o1029)), .d (.val (.string o1030)), .osl 1 o1031], .cells (some 26) [.d (.val (.int .i64 o1032)), .d (.val (.int .i64 o1033)), .d (.val (.int .i64 o1034)), .d (.val (.string o1035)), .osl 1 o1036]] [q1037, o1031.length]
    | .x1 q1038 q1039 => k (.panic (.d (.val (.iface 88 (.agg #[]))))) [.undef, .undef, .undef, .undef] [.gone, .gone, .gone] [q1038, q1039]
    | .x2 o1040 o1041 o1042 o1043 o1044 o1045 o1046 o1047 o1048 o1049 o1050 o1051 => k .normal [.d (.val (.int .i64 o1040)), .ptr 1 0, .undef, .ptr 2 0] [.cells (some 3) [.d (.val (.int .i64 o1041))], .cells (some 26) [.d (.val (.int .i64 o1042)), .d (.val (.int .i64 o1043)), .d (.val (.int .i64 o1044)), .d (.val (.string o1045)), .osl 0 o1046], .cells (some 26) [.d (.val (.int .i64 o1047)), .d (.val (.int .i64 o1048)), .d (.val (.int .i64 o1049)), .d (.val (.string o1050)), .osl 1 o1051]] [o1046.length, o1051.length]
theorem k51_1 : l51_1.Ok where
  ok1 := by kernel_rfl
  ok2 := by kernel_rfl
  dec := by
    intro vs bs ts a h
    delta l51_1 at h ⊢
    dsimp only at h ⊢
    split at h
    · cases h; exact ⟨rfl, rfl⟩
    · cases h
  out := by
    intro ex vs bs ts o h
    delta l51_1 at h ⊢
    dsimp only at h ⊢
    split at h
    · rename_i hp
      split at h
      · cases h; exact ⟨payOf_some hp, rfl, rfl⟩
      · cases h
    · split at h
      · cases h; exact ⟨rfl, rfl, rfl⟩
      · cases h; exact ⟨rfl, rfl, rfl⟩
      · cases h
  len := fun _ => ⟨rfl, rfl⟩
  elim := fun β o k => by cases o <;> rfl
def L51_1 {σ : Type} (F51 : PT51 → Option RT51) : Nat → A51_1 → σ → Option (O51_1 × σ)
  | 0, _, _ => none
  | n+1, (v1007, v1008, v1009, v1010, v1011, v1012, v1013, v1014, v1015, v1016, v1017, v1018, v1019, v1020, v1021), s => (bif (decide (v1010 > 0)) then ((F51 (v1011, v1007, v1008, (w64 (v1009 + 1)))).bind fun y1022 => match y1022 with | .inl z1023 => (bif (decide (z1023.2.2.2.2.2.1 < 0)) then (ask (([v1016.length, v1021.length] : List Nat) = [v1016.length, v1021.length]) (some (O51_1.x0 (-1) z1023.2.2.2.2.2.2 v1017 v1018 v1019 v1020 v1021 v1017 v1018 v1019 v1020 v1021 v1016.length, s))) else (ask (addOk v1021.length v1021 ([.agg [.val (.int .i64 z1023.1), .val (.int .i64 z1023.2.1), .val (.int .i64 z1023.2.2.1), .val (.string z1023.2.2.2.1), .slice z1023.2.2.2.2.1]] : List D) 5 64) (ask (([v1016.length, (v1021.length + ([.agg [.val (.int .i64 z1023.1), .val (.int .i64 z1023.2.1), .val (.int .i64 z1023.2.2.1), .val (.string z1023.2.2.2.1), .slice z1023.2.2.2.2.1]] : List D).length)] : List Nat) = [v1016.length, (v1021 ++ ([.agg [.val (.int .i64 z1023.1), .val (.int .i64 z1023.2.1), .val (.int .i64 z1023.2.2.1), .val (.string z1023.2.2.2.1), .slice z1023.2.2.2.2.1]] : List D)).length]) (L51_1 F51 n (v1007, z1023.2.2.2.2.2.1, v1009, (wu64 (v1010 - 1)), z1023.2.2.2.2.2.2, v1012, v1013, v1014, v1015, v1016, v1017, v1018, v1019, v1020, (v1021 ++ ([.agg [.val (.int .i64 z1023.1), .val (.int .i64 z1023.2.1), .val (.int .i64 z1023.2.2.1), .val (.string z1023.2.2.2.1), .slice z1023.2.2.2.2.1]] : List D))) s)))) | .inr q1024 => (ask (([v1016.length, v1021.length] : List Nat) = [v1016.length, v1021.length]) (some (O51_1.x1 v1016.length v1021.length, s)))) else (ask (([v1016.length, v1021.length] : List Nat) = [v1016.length, v1021.length]) (some (O51_1.x2 v1008 v1011 v1012 v1013 v1014 v1015 v1016 v1017 v1018 v1019 v1020 v1021, s))))
def dM51 (av : List AV) (bs : List Box) (ts : List Nat) : Option (Int × ByteArray × Int × Int) := match av, bs, ts with
  | [.d (.bytes a0), .d (.val (.int .i64 a1)), .d (.val (.int .i64 a2)), .ptr 0 0], [.cells (some 3) [.d (.val (.int .i64 a3))]], [] => some (a3, a0, a1, a2)
  | _, _, _ => none
def aM51 : (Int × ByteArray × Int × Int) → List AV := fun (a3, a0, a1, a2) => [.d (.bytes a0), .d (.val (.int .i64 a1)), .d (.val (.int .i64 a2)), .ptr 0 0]
def bM51 : (Int × ByteArray × Int × Int) → List Box := fun (a3, a0, a1, a2) => [.cells (some 3) [.d (.val (.int .i64 a3))]]
def tM51 : (Int × ByteArray × Int × Int) → List Nat := fun _ => []
def vM51 : (Int × Int × Int × ByteArray × List D × Int × Int) → AV := fun (a4, a5, a6, a7, a8, a9, p10) => PR.av (.many [.agg [.val (.int .i64 a4), .val (.int .i64 a5), .val (.int .i64 a6), .val (.string a7), .slice a8], .val (.int .i64 a9)])
def cM51 : (Int × Int × Int × ByteArray × List D × Int × Int) → List Box := fun (a4, a5, a6, a7, a8, a9, p10) => [.cells (some 3) [.d (.val (.int .i64 p10))]]
def kM51 : (Int × Int × Int × ByteArray × List D × Int × Int) → List Nat := fun _ => []
def qM51 : (Unit) → Value := fun () => .iface 88 (.agg #[])
def rM51 (o : Out) (bs : List Box) (ts : List Nat) : Option RT51 := match o, payO o, bs, ts with
  | .ret v, _, [.cells (some 3) [.d (.val (.int .i64 p10))]], [] => (match toPR v with | some (.many [.agg [.val (.int .i64 a4), .val (.int .i64 a5), .val (.int .i64 a6), .val (.string a7), .slice a8], .val (.int .i64 a9)]) => some (.inl (a4, a5, a6, a7, a8, a9, p10)) | _ => none)
  | _, some (88, []), [.gone], [] => some (.inr ())
  | _, _, _, _ => none
def s51 (F51 : PT51 → Option RT51) : PT51 → Option RT51 := fun (a3, a0, a1, a2) => (bif (decide (a1 ≥ ((a0.size : Nat) : Int))) then (some (.inl (0, 0, 0, (⟨#[]⟩ : ByteArray), ([] : List D), (-1), (w64 (a3 - 1))))) else (bif (bif (decide ((w64 (a3 - 1)) < 0)) then true else (decide (a2 > 16))) then (some (.inl (0, 0, 0, (⟨#[]⟩ : ByteArray), ([] : List D), (-1), (w64 (a3 - 1))))) else ((sidx a0 a1).bind fun c1000 => (bif ((w64 (c1000.toNat : Int)) == 1) then (bif (decide ((w64 (a1 + 1)) ≥ ((a0.size : Nat) : Int))) then (some (.inl ((w64 (c1000.toNat : Int)), 0, 0, (⟨#[]⟩ : ByteArray), ([] : List D), (-1), (w64 (a3 - 1))))) else ((sidx a0 (w64 (a1 + 1))).bind fun c1001 => (some (.inl ((w64 (c1000.toNat : Int)), (w64 (c1001.toNat : Int)), 0, (⟨#[]⟩ : ByteArray), ([] : List D), (w64 ((w64 (a1 + 1)) + 1)), (w64 (a3 - 1))))))) else (bif (bif (decide ((w64 (c1000.toNat : Int)) < 2)) then true else (decide ((w64 (c1000.toNat : Int)) > 7))) then (some (.inl ((w64 (c1000.toNat : Int)), 0, 0, (⟨#[]⟩ : ByteArray), ([] : List D), (-1), (w64 (a3 - 1))))) else ((n107 (a0, (w64 (a1 + 1)))).bind fun y1002 => (bif (decide (y1002.2 < 0)) then (some (.inl ((w64 (c1000.toNat : Int)), 0, 0, (⟨#[]⟩ : ByteArray), ([] : List D), (-1), (w64 (a3 - 1))))) else (bif ((w64 (c1000.toNat : Int)) == 2) then ((n108 y1002.1).bind fun y1003 => (some (.inl ((w64 (c1000.toNat : Int)), y1003, 0, (⟨#[]⟩ : ByteArray), ([] : List D), y1002.2, (w64 (a3 - 1)))))) else (bif ((w64 (c1000.toNat : Int)) == 3) then ((n108 y1002.1).bind fun y1004 => ((n107 (a0, y1002.2)).bind fun y1005 => ((n108 y1005.1).bind fun y1006 => (some (.inl ((w64 (c1000.toNat : Int)), y1004, y1006, (⟨#[]⟩ : ByteArray), ([] : List D), y1005.2, (w64 (a3 - 1)))))))) else (bif ((w64 (c1000.toNat : Int)) == 4) then (bif (decide (y1002.1 > (wu64 (w64 (((a0.size : Nat) : Int) - y1002.2))))) then (some (.inl ((w64 (c1000.toNat : Int)), 0, 0, (⟨#[]⟩ : ByteArray), ([] : List D), (-1), (w64 (a3 - 1))))) else (ask (cutRowOk y1002.2 (w64 (y1002.2 + (w64 y1002.1))) ((a0.size : Nat) : Int) (a0.size) true) (some (.inl ((w64 (c1000.toNat : Int)), 0, 0, (a0.extract (Int.toNat y1002.2) (Int.toNat (w64 (y1002.2 + (w64 y1002.1))))), ([] : List D), (w64 (y1002.2 + (w64 y1002.1))), (w64 (a3 - 1))))))) else (ask (([0, 0] : List Nat) = [([] : List D).length, ([] : List D).length]) ((L51_1 F51 1000000000000 (a0, y1002.2, a2, y1002.1, (w64 (a3 - 1)), 0, 0, 0, (⟨#[]⟩ : ByteArray), ([] : List D), (w64 (c1000.toNat : Int)), 0, 0, (⟨#[]⟩ : ByteArray), ([] : List D)) ()).bind fun p1052 => match p1052.1 with | .x0 z1053 z1054 z1055 z1056 z1057 z1058 z1059 z1060 z1061 z1062 z1063 z1064 z1065 => (some (.inl (z1055, z1056, z1057, z1058, z1059, z1053, z1054))) | .x1 z1066 z1067 => (some (.inr ())) | .x2 z1068 z1069 z1070 z1071 z1072 z1073 z1074 z1075 z1076 z1077 z1078 z1079 => (some (.inl (z1075, z1076, z1077, z1078, z1079, z1068, z1069)))))))))))))))
def nG1 : Nat → (PT51 → Option RT51)
  | 0 => fun _ => none
  | k + 1 => s51 (nG1 k)
def n51 (k : Nat) : PT51 → Option RT51 := (nG1 k)
def eP51 (k : Nat) : MethP := methP dM51 (n51 k) vM51 cM51 kM51 qM51 [.gone]
noncomputable def tabsG1 (gl : Nat → Option (List D)) (k : Nat) : Tabs := methAt (tabsS1 gl) 51 (eP51 k)
def g51 (k : Nat) {σ : Type} : Nat → Option (SegE σ)
  | 1 => some (l51_1.seg σ (L51_1 (n51 k) 1000000000000))
  | _ => none
theorem E51_1 {σ : Type} (k : Nat) (Y : Yd σ) : ∀ n a (s : σ), L51_1 (n51 k) (n + 1) a s = evK (cfgOf Tryz.prog (tabsG1 gl k) tS1) (toldOf tS1) Y (inlN (cfgOf Tryz.prog (tabsG1 gl k) tS1) (toldOf tS1) Y) (g51 k) 51 (loopAt Tryz.f51 1) ((l51_1.toT σ).enc a s) (fun ex st' => l51_1.next (cfgOf Tryz.prog (tabsG1 gl k) tS1) 51 1 (L51_1 (n51 k) n) ex st') := by
  intro n ⟨v1007, v1008, v1009, v1010, v1011, v1012, v1013, v1014, v1015, v1016, v1017, v1018, v1019, v1020, v1021⟩ s
  kernel_rfl
theorem Q51_1 {σ : Type} (hl : LibFits gl) (k : Nat) (Y : Yd σ) (rnd : Bool) : SegOk (cfgOf Tryz.prog (tabsG1 gl k) tS1) (evFn (cfgOf Tryz.prog (tabsG1 gl k) tS1) 9) 51 rnd Y (l51_1.seg σ (L51_1 (n51 k) 1000000000000)) (.block 1 (.loop (loopAt Tryz.f51 1))) :=
  told_loop (okS1 hl) k51_1 (by kernel_rfl) (by kernel_rfl) (fun _ _ => rfl) (segs_no (by kernel_rfl)) (E51_1 k Y) (hr := by kernel_rfl)
theorem N51 : ∀ k a, n51 (k + 1) a = bodyK (cfgOf Tryz.prog (tabsG1 gl k) tS1) (toldOf tS1) noY (inlN (cfgOf Tryz.prog (tabsG1 gl k) tS1) (toldOf tS1) noY) (g51 k) 51 Tryz.f51 (aM51 a) (bM51 a) (tM51 a) () (fun v b tk _ => rM51 v b tk) := by
  intro k a
  obtain ⟨a3, a0, a1, a2⟩ := a
  kernel_rfl
theorem om51 (hl : LibFits gl) (k : Nat) (hk : MethSound Tryz.prog gl (tabsG1 gl k).meth) : MethSound Tryz.prog gl (fun g => bif Nat.beq g 51 then some (eP51 (k + 1)) else (tabsG1 gl k).meth g) :=
  told_methP (t := tabsG1 gl k) (okS1 hl) mixed (oddOkS1 hl) hk Tryz.func51 (by kernel_rfl) (argsOf := aM51) (boxOf := bM51) (tokOf := tM51) (res := rM51) (seg := g51 k) (by kernel_rfl) (fun p hp e he => by
    have hq : segsOf (σ := Unit) (g51 k (σ := Unit)) (bodyOf Tryz.f51) = [(1, .loop (loopAt Tryz.f51 1))] := by kernel_rfl
    rw [hq] at hp
    simp only [List.mem_cons, List.not_mem_nil, or_false] at hp
    subst hp
    cases he
    exact Q51_1 hl k _ _)
    (fun av bs ts a h => by
      unfold dM51 at h
      split at h
      · cases h; exact ⟨rfl, rfl, rfl⟩
      · cases h)
    (fun v b tk o h => by
      unfold rM51 at h
      split at h
      · split at h
        · rename_i hp; cases h; exact ⟨⟨_, _, rfl, hp, rfl⟩, rfl, rfl⟩
        · cases h
      · rename_i hp; cases h; exact ⟨payO_some hp, rfl, rfl⟩
      · cases h)
    (N51 k)
theorem omG1 (hl : LibFits gl) : ∀ k, MethSound Tryz.prog gl (tabsG1 gl k).meth
  | 0 => (MethSound.zero (fun _ => rfl) (methOkS1 hl))
  | k + 1 => (MethSound.join (om51 hl k (omG1 hl k)) (methOkS1 hl))
noncomputable def tabsS2 (gl : Nat → Option (List D)) : Tabs := { tabsS1 gl with odd := fun g => bif Nat.beq g 145 then some (methE 145 dM145 n145 (fun _ => vM145) (fun _ => cM145) (fun _ => kM145)) else (bif Nat.beq g 103 then some (methE 103 dM103 n103 (fun _ => vM103) (fun _ => cM103) (fun _ => kM103)) else (bif Nat.beq g 50 then some (methR 50 dM50 n50 vM50 cM50 kM50) else ((tabsS1 gl).odd g))), meth := (tabsG1 gl 64).meth }
theorem oddOkS2 (hl : LibFits gl) : OddSound Tryz.prog gl (tabsS2 gl).odd := OddSound.join (om145 hl) (OddSound.join (om103 hl) (OddSound.join (om50 hl) ((oddOkS1 hl))))
theorem methOkS2 (hl : LibFits gl) : MethSound Tryz.prog gl (tabsS2 gl).meth := omG1 hl 64
noncomputable def tS2 : Tab := (59, e59) :: (66, e66) :: (176, e176) :: (168, e168) :: (165, e165) :: (144, e144) :: tS1
theorem okS2 (hl : LibFits gl) : TabOk Tryz.prog gl tS2 :=
  TabOk.cons (TabOk.cons (TabOk.cons (TabOk.cons (TabOk.cons (TabOk.cons (okS1 hl) ((ok144 hl).fair (144, e144) (List.mem_cons_self (l := tS1))) ((ok144 hl).spec (144, e144) (List.mem_cons_self (l := tS1)))) ((ok165 hl).fair (165, e165) (List.mem_cons_self (l := tS1))) ((ok165 hl).spec (165, e165) (List.mem_cons_self (l := tS1)))) ((ok168 hl).fair (168, e168) (List.mem_cons_self (l := tS1))) ((ok168 hl).spec (168, e168) (List.mem_cons_self (l := tS1)))) ((ok176 hl).fair (176, e176) (List.mem_cons_self (l := tS1))) ((ok176 hl).spec (176, e176) (List.mem_cons_self (l := tS1)))) ((ok66 hl).fair (66, e66) (List.mem_cons_self (l := tS1))) ((ok66 hl).spec (66, e66) (List.mem_cons_self (l := tS1)))) ((ok59 hl).fair (59, e59) (List.mem_cons_self (l := tS1))) ((ok59 hl).spec (59, e59) (List.mem_cons_self (l := tS1)))
abbrev A143_0 := ByteArray × List D × Int × Nat
inductive O143_0 where
  | x0 (o7 : List D) (q8 : Nat)
def l143_0 : LoopS A143_0 O143_0 where
  n := 22
  ks := [0, 3, 4]
  kso := [3]
  m := 0
  mt := 2
  decV := fun vs bs ts => match vs, bs, ts with
    | [.d (.val (.string v2)), .osl 1 v3, .d (.val (.int .i64 v4))], [], [k5, _] => some (v2, v3, v4, k5)
    | _, _, _ => none
  encV := fun (v2, v3, v4, k5) => [.d (.val (.string v2)), .osl 1 v3, .d (.val (.int .i64 v4))]
  encB := fun (v2, v3, v4, k5) => []
  tk := fun (v2, v3, v4, k5) => [k5, v3.length]
  decO := fun ex vs bs ts => match ex, vs, bs, ts with
    | .normal, [.osl 1 o7], [], [q8, _] => some (.x0 o7 q8)
    | _, _, _, _ => none
  exO := fun x => match x with
    | .x0 o7 q8 => .normal
  outV := fun x => match x with
    | .x0 o7 q8 => [.osl 1 o7]
  outB := fun x => match x with
    | .x0 o7 q8 => []
  tkO := fun x => match x with
    | .x0 o7 q8 => [q8, o7.length]
  elim := fun x k => match x with
    | .x0 o7 q8 => k .normal [.osl 1 o7] [] [q8, o7.length]
theorem k143_0 : l143_0.Ok where
  ok1 := by kernel_rfl
  ok2 := by kernel_rfl
  dec := by
    intro vs bs ts a h
    simp only [l143_0] at h ⊢
    split at h
    · cases h; exact ⟨rfl, rfl⟩
    · cases h
  out := by
    intro ex vs bs ts o h
    simp only [l143_0] at h ⊢
    split at h
    · cases h; exact ⟨rfl, rfl, rfl⟩
    · cases h
  len := fun _ => ⟨rfl, rfl⟩
  elim := fun β o k => by cases o <;> rfl
def L143_0 {σ : Type} : Nat → A143_0 → σ → Option (O143_0 × σ)
  | 0, _, _ => none
  | n+1, (v2, v3, v4, k5), s => (bif (decide (v4 < (v2.size : Int))) then ((n176 (v2, v4)).bind fun y6 => (ask (addOk v3.length v3 ([.agg [.val (.int .i64 y6.1), .val (.int .i64 y6.2.1), .val (.int .i64 y6.2.2)]] : List D) 3 24) (ask (([k5, (v3.length + ([.agg [.val (.int .i64 y6.1), .val (.int .i64 y6.2.1), .val (.int .i64 y6.2.2)]] : List D).length)] : List Nat) = [k5, (v3 ++ ([.agg [.val (.int .i64 y6.1), .val (.int .i64 y6.2.1), .val (.int .i64 y6.2.2)]] : List D)).length]) (L143_0 n (v2, (v3 ++ ([.agg [.val (.int .i64 y6.1), .val (.int .i64 y6.2.1), .val (.int .i64 y6.2.2)]] : List D)), (w64 (v4 + y6.2.2)), k5) s)))) else (ask (([k5, v3.length] : List Nat) = [k5, v3.length]) (some (O143_0.x0 v3 k5, s))))
def d143 (ds : List D) : Option (ByteArray) := match ds with
  | [.val (.string a0)] => some a0
  | _ => none
def r143 (v : AV) : Option (List D) := match toPR v with
  | some (.one (.slice a1)) => some a1
  | _ => none
def n143 : ByteArray → Option (List D) := fun a0 => (ask (([0, 0] : List Nat) = [0, ([] : List D).length]) ((L143_0 1000000000000 (a0, ([] : List D), 0, 0) ()).bind fun p9 => match p9.1 with | .x0 z10 z11 => (some z10)))
def e143 : PureE := mkE d143 n143 (fun a1 => .one (.slice a1))
def g143 {σ : Type} : Nat → Option (SegE σ)
  | 0 => some (l143_0.seg σ (L143_0 1000000000000))
  | _ => none
theorem E143_0 {σ : Type} (Y : Yd σ) : ∀ n a (s : σ), L143_0 (n + 1) a s = evK (cfgOf Tryz.prog (tabsS2 gl) tS2) (toldOf tS2) Y (inlN (cfgOf Tryz.prog (tabsS2 gl) tS2) (toldOf tS2) Y) g143 143 (loopAt Tryz.f143 0) ((l143_0.toT σ).enc a s) (fun ex st' => l143_0.next (cfgOf Tryz.prog (tabsS2 gl) tS2) 143 0 (L143_0 n) ex st') := by
  intro n ⟨v2, v3, v4, k5⟩ s
  kernel_rfl
theorem Q143_0 {σ : Type} (hl : LibFits gl) (Y : Yd σ) (rnd : Bool) : SegOk (cfgOf Tryz.prog (tabsS2 gl) tS2) (evFn (cfgOf Tryz.prog (tabsS2 gl) tS2) 9) 143 rnd Y (l143_0.seg σ (L143_0 1000000000000)) (.block 0 (.loop (loopAt Tryz.f143 0))) :=
  told_loop (okS2 hl) k143_0 (by kernel_rfl) (by kernel_rfl) (fun _ _ => rfl) (segs_no (by kernel_rfl)) (E143_0 Y) (hr := by kernel_rfl)
theorem N143 : ∀ a, n143 a = bodyK (cfgOf Tryz.prog (tabsS2 gl) tS2) (toldOf tS2) noY (inlN (cfgOf Tryz.prog (tabsS2 gl) tS2) (toldOf tS2) noY) g143 143 Tryz.f143 (((fun a0 => [.val (.string a0)] : (ByteArray) → List D) a).map .d) [] [] () (retK fun v _ _ _ => r143 v) := by
  intro a0
  kernel_rfl
noncomputable def t143 : Tab := (143, e143) :: tS2
theorem ok143 (hl : LibFits gl) : TabOk Tryz.prog gl t143 :=
  told_fn (okS2 hl) mixed (oddOkS2 hl) (methOkS2 hl) Tryz.func143 (by kernel_rfl) (by kernel_rfl) (by kernel_rfl) (fun p hp e he => by
    have hq : segsOf (σ := Unit) (g143 (σ := Unit)) (bodyOf Tryz.f143) = [(0, .loop (loopAt Tryz.f143 0))] := by kernel_rfl
    rw [hq] at hp
    simp only [List.mem_cons, List.not_mem_nil, or_false] at hp
    subst hp
    cases he
    exact Q143_0 hl _ _)
    (args := fun a0 => [.val (.string a0)]) (res := r143)
    (fun ds a h => by
      unfold d143 at h
      split at h
      · cases h; rfl
      · cases h)
    (fun v r h => by
      unfold r143 at h
      split at h
      · rename_i hv; cases h; exact hv
      · cases h)
    N143
abbrev A126_0 := Int × ByteArray × Nat
inductive O126_0 where
  | x0 (o6 : Int) (o7 : ByteArray) (o8 : Nat)
  | x1 (o9 : Int) (o10 : ByteArray) (o11 : Nat)
def l126_0 : LoopS A126_0 O126_0 where
  n := 38
  ks := [3, 7]
  kso := [2, 3]
  m := 1
  mt := 0
  decV := fun vs bs ts => match vs, bs, ts with
    | [.d (.val (.int .i64 v2)), .iter 0], [.iter v3 v4], [] => some (v2, v3, v4)
    | _, _, _ => none
  encV := fun (v2, v3, v4) => [.d (.val (.int .i64 v2)), .iter 0]
  encB := fun (v2, v3, v4) => [.iter v3 v4]
  tk := fun _ => []
  decO := fun ex vs bs ts => match ex, vs, bs, ts with
    | .ret, [.d (.val (.int .i64 o6)), .undef], [.iter o7 o8], [] => some (.x0 o6 o7 o8)
    | .normal, [.undef, .d (.val (.int .i64 o9))], [.iter o10 o11], [] => some (.x1 o9 o10 o11)
    | _, _, _, _ => none
  exO := fun x => match x with
    | .x0 o6 o7 o8 => .ret
    | .x1 o9 o10 o11 => .normal
  outV := fun x => match x with
    | .x0 o6 o7 o8 => [.d (.val (.int .i64 o6)), .undef]
    | .x1 o9 o10 o11 => [.undef, .d (.val (.int .i64 o9))]
  outB := fun x => match x with
    | .x0 o6 o7 o8 => [.iter o7 o8]
    | .x1 o9 o10 o11 => [.iter o10 o11]
  tkO := fun x => match x with
    | .x0 o6 o7 o8 => []
    | .x1 o9 o10 o11 => []
  elim := fun x k => match x with
    | .x0 o6 o7 o8 => k .ret [.d (.val (.int .i64 o6)), .undef] [.iter o7 o8] []
    | .x1 o9 o10 o11 => k .normal [.undef, .d (.val (.int .i64 o9))] [.iter o10 o11] []
theorem k126_0 : l126_0.Ok where
  ok1 := by kernel_rfl
  ok2 := by kernel_rfl
  dec := by
    intro vs bs ts a h
    simp only [l126_0] at h ⊢
    split at h
    · cases h; exact ⟨rfl, rfl⟩
    · cases h
  out := by
    intro ex vs bs ts o h
    simp only [l126_0] at h ⊢
    split at h
    · cases h; exact ⟨rfl, rfl, rfl⟩
    · cases h; exact ⟨rfl, rfl, rfl⟩
    · cases h
  len := fun _ => ⟨rfl, rfl⟩
  elim := fun β o k => by cases o <;> rfl
def L126_0 {σ : Type} : Nat → A126_0 → σ → Option (O126_0 × σ)
  | 0, _, _ => none
  | n+1, (v2, v3, v4), s => (bif decide (v4 < v3.size) then ((n165 ((Utf8.decode v3 v4).1 : Int)).bind fun y5 => (bif (!y5) then (bif ((w64 (v2 + 1)) == 1) then (some (O126_0.x0 21 v3 (v4 + (Utf8.decode v3 v4).2), s)) else (bif (((Utf8.decode v3 v4).1 : Int) != 39) then (bif (decide (((Utf8.decode v3 v4).1 : Int) < 48)) then (some (O126_0.x0 21 v3 (v4 + (Utf8.decode v3 v4).2), s)) else (bif (decide (((Utf8.decode v3 v4).1 : Int) > 57)) then (some (O126_0.x0 21 v3 (v4 + (Utf8.decode v3 v4).2), s)) else (L126_0 n ((w64 (v2 + 1)), v3, (v4 + (Utf8.decode v3 v4).2)) s))) else (L126_0 n ((w64 (v2 + 1)), v3, (v4 + (Utf8.decode v3 v4).2)) s))) else (L126_0 n ((w64 (v2 + 1)), v3, (v4 + (Utf8.decode v3 v4).2)) s))) else (some (O126_0.x1 v2 v3 v4, s)))
def d126 (ds : List D) : Option (ByteArray) := match ds with
  | [.val (.string a0)] => some a0
  | _ => none
def r126 (v : AV) : Option (Int) := match toPR v with
  | some (.one (.val (.int .i64 a1))) => some a1
  | _ => none
def n126 : ByteArray → Option (Int) := fun a0 => ((L126_0 1000000000000 (0, a0, 0) ()).bind fun p12 => match p12.1 with | .x0 z13 z14 z15 => (some z13) | .x1 z16 z17 z18 => (bif (bif (z16 == 0) then true else (decide (z16 > 32))) then (some 21) else (some 0)))
def e126 : PureE := mkE d126 n126 (fun a1 => .one (.val (.int .i64 a1)))
def g126 {σ : Type} : Nat → Option (SegE σ)
  | 0 => some (l126_0.seg σ (L126_0 1000000000000))
  | _ => none
theorem E126_0 {σ : Type} (Y : Yd σ) : ∀ n a (s : σ), L126_0 (n + 1) a s = evK (cfgOf Tryz.prog (tabsS2 gl) tS2) (toldOf tS2) Y (inlN (cfgOf Tryz.prog (tabsS2 gl) tS2) (toldOf tS2) Y) g126 126 (loopAt Tryz.f126 0) ((l126_0.toT σ).enc a s) (fun ex st' => l126_0.next (cfgOf Tryz.prog (tabsS2 gl) tS2) 126 0 (L126_0 n) ex st') := by
  intro n ⟨v2, v3, v4⟩ s
  kernel_rfl
theorem Q126_0 {σ : Type} (hl : LibFits gl) (Y : Yd σ) (rnd : Bool) : SegOk (cfgOf Tryz.prog (tabsS2 gl) tS2) (evFn (cfgOf Tryz.prog (tabsS2 gl) tS2) 9) 126 rnd Y (l126_0.seg σ (L126_0 1000000000000)) (.block 0 (.loop (loopAt Tryz.f126 0))) :=
  told_loop (okS2 hl) k126_0 (by kernel_rfl) (by kernel_rfl) (fun _ _ => rfl) (segs_no (by kernel_rfl)) (E126_0 Y) (hr := by kernel_rfl)
theorem N126 : ∀ a, n126 a = bodyK (cfgOf Tryz.prog (tabsS2 gl) tS2) (toldOf tS2) noY (inlN (cfgOf Tryz.prog (tabsS2 gl) tS2) (toldOf tS2) noY) g126 126 Tryz.f126 (((fun a0 => [.val (.string a0)] : (ByteArray) → List D) a).map .d) [] [] () (retK fun v _ _ _ => r126 v) := by
  intro a0
  kernel_rfl
noncomputable def t126 : Tab := (126, e126) :: tS2
theorem ok126 (hl : LibFits gl) : TabOk Tryz.prog gl t126 :=
  told_fn (okS2 hl) mixed (oddOkS2 hl) (methOkS2 hl) Tryz.func126 (by kernel_rfl) (by kernel_rfl) (by kernel_rfl) (fun p hp e he => by
    have hq : segsOf (σ := Unit) (g126 (σ := Unit)) (bodyOf Tryz.f126) = [(0, .loop (loopAt Tryz.f126 0))] := by kernel_rfl
    rw [hq] at hp
    simp only [List.mem_cons, List.not_mem_nil, or_false] at hp
    subst hp
    cases he
    exact Q126_0 hl _ _)
    (args := fun a0 => [.val (.string a0)]) (res := r126)
    (fun ds a h => by
      unfold d126 at h
      split at h
      · cases h; rfl
      · cases h)
    (fun v r h => by
      unfold r126 at h
      split at h
      · rename_i hv; cases h; exact hv
      · cases h)
    N126
def dM88 (av : List AV) (bs : List Box) (ts : List Nat) : Option (ByteArray × Bool) := match av, bs, ts with
  | [.ptr 0 0], [.cells none [.d (.bytes a0), .d (.val (.bool a1))]], [] => some (a0, a1)
  | _, _, _ => none
def aM88 : (ByteArray × Bool) → List AV := fun (a0, a1) => [.ptr 0 0]
def bM88 : (ByteArray × Bool) → List Box := fun (a0, a1) => [.cells none [.d (.bytes a0), .d (.val (.bool a1))]]
def tM88 : (ByteArray × Bool) → List Nat := fun (a0, a1) => []
def vM88 : (Int × Int × ByteArray × Bool) → AV := fun (o3, o4, p5, p6) => .tup [.d (.val (.int .u64 o3)), .d (.val (.int .i64 o4))]
def cM88 : (Int × Int × ByteArray × Bool) → List Box := fun (o3, o4, p5, p6) => [.cells none [.d (.bytes p5), .d (.val (.bool p6))]]
def kM88 : (Int × Int × ByteArray × Bool) → List Nat := fun (o3, o4, p5, p6) => []
def rM88 (v : AV) (bs : List Box) (ts : List Nat) : Option (Int × Int × ByteArray × Bool) := match v, bs, ts with
  | .tup [.d (.val (.int .u64 o3)), .d (.val (.int .i64 o4))], [.cells none [.d (.bytes p5), .d (.val (.bool p6))]], [] => some (o3, o4, p5, p6)
  | _, _, _ => none
def n88 : ByteArray × Bool → Option (Int × Int × ByteArray × Bool) := fun (a0, a1) => ((n145 (a0, a1)).bind fun y2 => (bif (y2.2.2.1 == 0) then (ask (cutRowOk y2.2.1 ((y2.2.2.2.1.size : Nat) : Int) ((y2.2.2.2.1.size : Nat) : Int) (y2.2.2.2.1.size) true) (some (y2.1, y2.2.2.1, (y2.2.2.2.1.extract (Int.toNat y2.2.1) (Int.toNat ((y2.2.2.2.1.size : Nat) : Int))), y2.2.2.2.2))) else (some (y2.1, y2.2.2.1, y2.2.2.2.1, y2.2.2.2.2))))
def g88 {σ : Type} : Nat → Option (SegE σ)
  | _ => none
theorem N88 : ∀ a, n88 a = bodyK (cfgOf Tryz.prog (tabsS2 gl) tS2) (toldOf tS2) noY (inlN (cfgOf Tryz.prog (tabsS2 gl) tS2) (toldOf tS2) noY) g88 88 Tryz.f88 (aM88 a) (bM88 a) (tM88 a) () (retK fun v b tk _ => rM88 v b tk) := by
  intro a
  obtain ⟨a0, a1⟩ := a
  kernel_rfl
theorem om88 (hl : LibFits gl) : OddSound Tryz.prog gl (fun g => bif Nat.beq g 88 then some (methE 88 dM88 n88 (fun _ => vM88) (fun _ => cM88) (fun _ => kM88)) else (tabsS2 gl).odd g) :=
  told_meth (t := tabsS2 gl) (okS2 hl) mixed (oddOkS2 hl) (methOkS2 hl) Tryz.func88 (by kernel_rfl) (by kernel_rfl) (argsOf := aM88) (boxOf := bM88) (tokOf := tM88) (res := fun _ => rM88) (by kernel_rfl) (segs_no (by kernel_rfl))
    (fun av bs ts a h => by
      unfold dM88 at h
      split at h
      · cases h; exact ⟨rfl, rfl, rfl⟩
      · cases h)
    (fun _ v b tk o h => by
      unfold rM88 at h
      split at h
      · cases h; exact ⟨rfl, rfl, rfl⟩
      · cases h)
    N88
def dM105 (av : List AV) (bs : List Box) (ts : List Nat) : Option (ByteArray × Bool) := match av, bs, ts with
  | [.ptr 0 0], [.cells none [.d (.bytes a0), .d (.val (.bool a1))]], [] => some (a0, a1)
  | _, _, _ => none
def aM105 : (ByteArray × Bool) → List AV := fun (a0, a1) => [.ptr 0 0]
def bM105 : (ByteArray × Bool) → List Box := fun (a0, a1) => [.cells none [.d (.bytes a0), .d (.val (.bool a1))]]
def tM105 : (ByteArray × Bool) → List Nat := fun (a0, a1) => []
def vM105 : (ByteArray × Int × ByteArray × Bool) → AV := fun (o3, o4, p5, p6) => .tup [.d (.val (.string o3)), .d (.val (.int .i64 o4))]
def cM105 : (ByteArray × Int × ByteArray × Bool) → List Box := fun (o3, o4, p5, p6) => [.cells none [.d (.bytes p5), .d (.val (.bool p6))]]
def kM105 : (ByteArray × Int × ByteArray × Bool) → List Nat := fun (o3, o4, p5, p6) => []
def rM105 (v : AV) (bs : List Box) (ts : List Nat) : Option (ByteArray × Int × ByteArray × Bool) := match v, bs, ts with
  | .tup [.d (.val (.string o3)), .d (.val (.int .i64 o4))], [.cells none [.d (.bytes p5), .d (.val (.bool p6))]], [] => some (o3, o4, p5, p6)
  | _, _, _ => none
def n105 : ByteArray × Bool → Option (ByteArray × Int × ByteArray × Bool) := fun (a0, a1) => ((n145 (a0, a1)).bind fun y2 => (bif (y2.2.2.1 != 0) then (some ((⟨#[]⟩ : ByteArray), y2.2.2.1, y2.2.2.2.1, y2.2.2.2.2)) else (bif (decide (y2.1 > (wu64 (w64 (((y2.2.2.2.1.size : Nat) : Int) - y2.2.1))))) then (some ((⟨#[]⟩ : ByteArray), 10, y2.2.2.2.1, y2.2.2.2.2)) else (ask (cutRowOk y2.2.1 (w64 (y2.2.1 + (w64 y2.1))) ((y2.2.2.2.1.size : Nat) : Int) (y2.2.2.2.1.size) true) (ask (cutRowOk (w64 (y2.2.1 + (w64 y2.1))) ((y2.2.2.2.1.size : Nat) : Int) ((y2.2.2.2.1.size : Nat) : Int) (y2.2.2.2.1.size) true) (some ((y2.2.2.2.1.extract (Int.toNat y2.2.1) (Int.toNat (w64 (y2.2.1 + (w64 y2.1))))), 0, (y2.2.2.2.1.extract (Int.toNat (w64 (y2.2.1 + (w64 y2.1)))) (Int.toNat ((y2.2.2.2.1.size : Nat) : Int))), y2.2.2.2.2)))))))
def g105 {σ : Type} : Nat → Option (SegE σ)
  | _ => none
theorem N105 : ∀ a, n105 a = bodyK (cfgOf Tryz.prog (tabsS2 gl) tS2) (toldOf tS2) noY (inlN (cfgOf Tryz.prog (tabsS2 gl) tS2) (toldOf tS2) noY) g105 105 Tryz.f105 (aM105 a) (bM105 a) (tM105 a) () (retK fun v b tk _ => rM105 v b tk) := by
  intro a
  obtain ⟨a0, a1⟩ := a
  kernel_rfl
theorem om105 (hl : LibFits gl) : OddSound Tryz.prog gl (fun g => bif Nat.beq g 105 then some (methE 105 dM105 n105 (fun _ => vM105) (fun _ => cM105) (fun _ => kM105)) else (tabsS2 gl).odd g) :=
  told_meth (t := tabsS2 gl) (okS2 hl) mixed (oddOkS2 hl) (methOkS2 hl) Tryz.func105 (by kernel_rfl) (by kernel_rfl) (argsOf := aM105) (boxOf := bM105) (tokOf := tM105) (res := fun _ => rM105) (by kernel_rfl) (segs_no (by kernel_rfl))
    (fun av bs ts a h => by
      unfold dM105 at h
      split at h
      · cases h; exact ⟨rfl, rfl, rfl⟩
      · cases h)
    (fun _ v b tk o h => by
      unfold rM105 at h
      split at h
      · cases h; exact ⟨rfl, rfl, rfl⟩
      · cases h)
    N105
noncomputable def tabsS3 (gl : Nat → Option (List D)) : Tabs := { tabsS2 gl with odd := fun g => bif Nat.beq g 88 then some (methE 88 dM88 n88 (fun _ => vM88) (fun _ => cM88) (fun _ => kM88)) else (bif Nat.beq g 105 then some (methE 105 dM105 n105 (fun _ => vM105) (fun _ => cM105) (fun _ => kM105)) else ((tabsS2 gl).odd g)) }
theorem oddOkS3 (hl : LibFits gl) : OddSound Tryz.prog gl (tabsS3 gl).odd := OddSound.join (om88 hl) (OddSound.join (om105 hl) ((oddOkS2 hl)))
theorem methOkS3 (hl : LibFits gl) : MethSound Tryz.prog gl (tabsS3 gl).meth := (methOkS2 hl)
noncomputable def tS3 : Tab := (143, e143) :: (126, e126) :: tS2
theorem okS3 (hl : LibFits gl) : TabOk Tryz.prog gl tS3 :=
  TabOk.cons (TabOk.cons (okS2 hl) ((ok126 hl).fair (126, e126) (List.mem_cons_self (l := tS2))) ((ok126 hl).spec (126, e126) (List.mem_cons_self (l := tS2)))) ((ok143 hl).fair (143, e143) (List.mem_cons_self (l := tS2))) ((ok143 hl).spec (143, e143) (List.mem_cons_self (l := tS2)))
abbrev A127_0 := List D × Int
inductive O127_0 where
  | x0 (o13 : Bool)
  | x1 
def l127_0 : LoopS A127_0 O127_0 where
  n := 36
  ks := [3, 4]
  kso := [2]
  m := 0
  mt := 0
  decV := fun vs bs ts => match vs, bs, ts with
    | [.d (.slice v7), .d (.val (.int .i64 v8))], [], [] => some (v7, v8)
    | _, _, _ => none
  encV := fun (v7, v8) => [.d (.slice v7), .d (.val (.int .i64 v8))]
  encB := fun (v7, v8) => []
  tk := fun _ => []
  decO := fun ex vs bs ts => match ex, vs, bs, ts with
    | .ret, [.d (.val (.bool o13))], [], [] => some (.x0 o13)
    | .normal, [.undef], [], [] => some (.x1 )
    | _, _, _, _ => none
  exO := fun x => match x with
    | .x0 o13 => .ret
    | .x1  => .normal
  outV := fun x => match x with
    | .x0 o13 => [.d (.val (.bool o13))]
    | .x1  => [.undef]
  outB := fun x => match x with
    | .x0 o13 => []
    | .x1  => []
  tkO := fun x => match x with
    | .x0 o13 => []
    | .x1  => []
  elim := fun x k => match x with
    | .x0 o13 => k .ret [.d (.val (.bool o13))] [] []
    | .x1  => k .normal [.undef] [] []
theorem k127_0 : l127_0.Ok where
  ok1 := by kernel_rfl
  ok2 := by kernel_rfl
  dec := by
    intro vs bs ts a h
    simp only [l127_0] at h ⊢
    split at h
    · cases h; exact ⟨rfl, rfl⟩
    · cases h
  out := by
    intro ex vs bs ts o h
    simp only [l127_0] at h ⊢
    split at h
    · cases h; exact ⟨rfl, rfl, rfl⟩
    · cases h; exact ⟨rfl, rfl, rfl⟩
    · cases h
  len := fun _ => ⟨rfl, rfl⟩
  elim := fun β o k => by cases o <;> rfl
def L127_0 {σ : Type} : Nat → A127_0 → σ → Option (O127_0 × σ)
  | 0, _, _ => none
  | n+1, (v7, v8), s => (bif (decide (v8 < ((v7.length : Nat) : Int))) then ((lidx v7 v8).bind fun d9 => ask (d9.cells.length = 3) ((cellAt 0 d9).bind fun x10 => (asInt .i64 x10).bind fun x11 => ((n168 x11).bind fun y12 => (bif (!y12) then (some (O127_0.x0 false, s)) else (L127_0 n (v7, (w64 (v8 + 1))) s))))) else (some (O127_0.x1 , s)))
def d127 (ds : List D) : Option (ByteArray) := match ds with
  | [.val (.string a0)] => some a0
  | _ => none
def r127 (v : AV) : Option (Bool) := match toPR v with
  | some (.one (.val (.bool a1))) => some a1
  | _ => none
def n127 : ByteArray → Option (Bool) := fun a0 => ((n143 a0).bind fun y2 => (bif (bif (decide (((y2.length : Nat) : Int) < 1)) then true else (decide (((y2.length : Nat) : Int) > 32))) then (some false) else ((lidx y2 0).bind fun d3 => ask (d3.cells.length = 3) ((cellAt 0 d3).bind fun x4 => (asInt .i64 x4).bind fun x5 => ((n167 x5).bind fun y6 => (bif (!y6) then (some false) else ((L127_0 1000000000000 (y2, 1) ()).bind fun p14 => match p14.1 with | .x0 z15 => (some z15) | .x1  => (some true))))))))
def e127 : PureE := mkE d127 n127 (fun a1 => .one (.val (.bool a1)))
def g127 {σ : Type} : Nat → Option (SegE σ)
  | 0 => some (l127_0.seg σ (L127_0 1000000000000))
  | _ => none
theorem E127_0 {σ : Type} (Y : Yd σ) : ∀ n a (s : σ), L127_0 (n + 1) a s = evK (cfgOf Tryz.prog (tabsS3 gl) tS3) (toldOf tS3) Y (inlN (cfgOf Tryz.prog (tabsS3 gl) tS3) (toldOf tS3) Y) g127 127 (loopAt Tryz.f127 0) ((l127_0.toT σ).enc a s) (fun ex st' => l127_0.next (cfgOf Tryz.prog (tabsS3 gl) tS3) 127 0 (L127_0 n) ex st') := by
  intro n ⟨v7, v8⟩ s
  kernel_rfl
theorem Q127_0 {σ : Type} (hl : LibFits gl) (Y : Yd σ) (rnd : Bool) : SegOk (cfgOf Tryz.prog (tabsS3 gl) tS3) (evFn (cfgOf Tryz.prog (tabsS3 gl) tS3) 9) 127 rnd Y (l127_0.seg σ (L127_0 1000000000000)) (.block 0 (.loop (loopAt Tryz.f127 0))) :=
  told_loop (okS3 hl) k127_0 (by kernel_rfl) (by kernel_rfl) (fun _ _ => rfl) (segs_no (by kernel_rfl)) (E127_0 Y) (hr := by kernel_rfl)
theorem N127 : ∀ a, n127 a = bodyK (cfgOf Tryz.prog (tabsS3 gl) tS3) (toldOf tS3) noY (inlN (cfgOf Tryz.prog (tabsS3 gl) tS3) (toldOf tS3) noY) g127 127 Tryz.f127 (((fun a0 => [.val (.string a0)] : (ByteArray) → List D) a).map .d) [] [] () (retK fun v _ _ _ => r127 v) := by
  intro a0
  kernel_rfl
noncomputable def t127 : Tab := (127, e127) :: tS3
theorem ok127 (hl : LibFits gl) : TabOk Tryz.prog gl t127 :=
  told_fn (okS3 hl) mixed (oddOkS3 hl) (methOkS3 hl) Tryz.func127 (by kernel_rfl) (by kernel_rfl) (by kernel_rfl) (fun p hp e he => by
    have hq : segsOf (σ := Unit) (g127 (σ := Unit)) (bodyOf Tryz.f127) = [(0, .loop (loopAt Tryz.f127 0))] := by kernel_rfl
    rw [hq] at hp
    simp only [List.mem_cons, List.not_mem_nil, or_false] at hp
    subst hp
    cases he
    exact Q127_0 hl _ _)
    (args := fun a0 => [.val (.string a0)]) (res := r127)
    (fun ds a h => by
      unfold d127 at h
      split at h
      · cases h; rfl
      · cases h)
    (fun v r h => by
      unfold r127 at h
      split at h
      · rename_i hv; cases h; exact hv
      · cases h)
    N127
def d67 (ds : List D) : Option (ByteArray) := match ds with
  | [.val (.string a0)] => some a0
  | _ => none
def r67 (v : AV) : Option (Bool) := match toPR v with
  | some (.one (.val (.bool a1))) => some a1
  | _ => none
def n67 : ByteArray → Option (Bool) := fun a0 => ((n126 a0).bind fun y2 => (some (bif (bif (y2 == 0) then (!(sEq a0 (⟨#[116, 114, 117, 101]⟩ : ByteArray))) else false) then (!(sEq a0 (⟨#[102, 97, 108, 115, 101]⟩ : ByteArray))) else false)))
def e67 : PureE := mkE d67 n67 (fun a1 => .one (.val (.bool a1)))
def g67 {σ : Type} : Nat → Option (SegE σ)
  | _ => none
theorem N67 : ∀ a, n67 a = bodyK (cfgOf Tryz.prog (tabsS3 gl) tS3) (toldOf tS3) noY (inlN (cfgOf Tryz.prog (tabsS3 gl) tS3) (toldOf tS3) noY) g67 67 Tryz.f67 (((fun a0 => [.val (.string a0)] : (ByteArray) → List D) a).map .d) [] [] () (retK fun v _ _ _ => r67 v) := by
  intro a0
  kernel_rfl
noncomputable def t67 : Tab := (67, e67) :: tS3
theorem ok67 (hl : LibFits gl) : TabOk Tryz.prog gl t67 :=
  told_fn (okS3 hl) mixed (oddOkS3 hl) (methOkS3 hl) Tryz.func67 (by kernel_rfl) (by kernel_rfl) (by kernel_rfl) (segs_no (by kernel_rfl))
    (args := fun a0 => [.val (.string a0)]) (res := r67)
    (fun ds a h => by
      unfold d67 at h
      split at h
      · cases h; rfl
      · cases h)
    (fun v r h => by
      unfold r67 at h
      split at h
      · rename_i hv; cases h; exact hv
      · cases h)
    N67
def dM104 (av : List AV) (bs : List Box) (ts : List Nat) : Option (ByteArray × Bool) := match av, bs, ts with
  | [.ptr 0 0], [.cells none [.d (.bytes a0), .d (.val (.bool a1))]], [] => some (a0, a1)
  | _, _, _ => none
def aM104 : (ByteArray × Bool) → List AV := fun (a0, a1) => [.ptr 0 0]
def bM104 : (ByteArray × Bool) → List Box := fun (a0, a1) => [.cells none [.d (.bytes a0), .d (.val (.bool a1))]]
def tM104 : (ByteArray × Bool) → List Nat := fun (a0, a1) => []
def vM104 : (Int × Int × ByteArray × Bool) → AV := fun (o3, o4, p5, p6) => .tup [.d (.val (.int .i64 o3)), .d (.val (.int .i64 o4))]
def cM104 : (Int × Int × ByteArray × Bool) → List Box := fun (o3, o4, p5, p6) => [.cells none [.d (.bytes p5), .d (.val (.bool p6))]]
def kM104 : (Int × Int × ByteArray × Bool) → List Nat := fun (o3, o4, p5, p6) => []
def rM104 (v : AV) (bs : List Box) (ts : List Nat) : Option (Int × Int × ByteArray × Bool) := match v, bs, ts with
  | .tup [.d (.val (.int .i64 o3)), .d (.val (.int .i64 o4))], [.cells none [.d (.bytes p5), .d (.val (.bool p6))]], [] => some (o3, o4, p5, p6)
  | _, _, _ => none
def n104 : ByteArray × Bool → Option (Int × Int × ByteArray × Bool) := fun (a0, a1) => ((n88 (a0, a1)).bind fun y2 => (bif ((bAnd .u64 y2.1 1) == 1) then (some ((bXor .i64 (-1) (w64 ((y2.1 : Int).fdiv (2 ^ (min (Int.toNat 1) 64))))), y2.2.1, y2.2.2.1, y2.2.2.2)) else (some ((w64 ((y2.1 : Int).fdiv (2 ^ (min (Int.toNat 1) 64)))), y2.2.1, y2.2.2.1, y2.2.2.2))))
def g104 {σ : Type} : Nat → Option (SegE σ)
  | _ => none
theorem N104 : ∀ a, n104 a = bodyK (cfgOf Tryz.prog (tabsS3 gl) tS3) (toldOf tS3) noY (inlN (cfgOf Tryz.prog (tabsS3 gl) tS3) (toldOf tS3) noY) g104 104 Tryz.f104 (aM104 a) (bM104 a) (tM104 a) () (retK fun v b tk _ => rM104 v b tk) := by
  intro a
  obtain ⟨a0, a1⟩ := a
  kernel_rfl
theorem om104 (hl : LibFits gl) : OddSound Tryz.prog gl (fun g => bif Nat.beq g 104 then some (methE 104 dM104 n104 (fun _ => vM104) (fun _ => cM104) (fun _ => kM104)) else (tabsS3 gl).odd g) :=
  told_meth (t := tabsS3 gl) (okS3 hl) mixed (oddOkS3 hl) (methOkS3 hl) Tryz.func104 (by kernel_rfl) (by kernel_rfl) (argsOf := aM104) (boxOf := bM104) (tokOf := tM104) (res := fun _ => rM104) (by kernel_rfl) (segs_no (by kernel_rfl))
    (fun av bs ts a h => by
      unfold dM104 at h
      split at h
      · cases h; exact ⟨rfl, rfl, rfl⟩
      · cases h)
    (fun _ v b tk o h => by
      unfold rM104 at h
      split at h
      · cases h; exact ⟨rfl, rfl, rfl⟩
      · cases h)
    N104
noncomputable def tabsS4 (gl : Nat → Option (List D)) : Tabs := { tabsS3 gl with odd := fun g => bif Nat.beq g 104 then some (methE 104 dM104 n104 (fun _ => vM104) (fun _ => cM104) (fun _ => kM104)) else ((tabsS3 gl).odd g) }
theorem oddOkS4 (hl : LibFits gl) : OddSound Tryz.prog gl (tabsS4 gl).odd := OddSound.join (om104 hl) ((oddOkS3 hl))
theorem methOkS4 (hl : LibFits gl) : MethSound Tryz.prog gl (tabsS4 gl).meth := (methOkS3 hl)
noncomputable def tS4 : Tab := (127, e127) :: (67, e67) :: tS3
theorem okS4 (hl : LibFits gl) : TabOk Tryz.prog gl tS4 :=
  TabOk.cons (TabOk.cons (okS3 hl) ((ok67 hl).fair (67, e67) (List.mem_cons_self (l := tS3))) ((ok67 hl).spec (67, e67) (List.mem_cons_self (l := tS3)))) ((ok127 hl).fair (127, e127) (List.mem_cons_self (l := tS3))) ((ok127 hl).spec (127, e127) (List.mem_cons_self (l := tS3)))
def d68 (ds : List D) : Option (ByteArray) := match ds with
  | [.val (.string a0)] => some a0
  | _ => none
def r68 (v : AV) : Option (Bool) := match toPR v with
  | some (.one (.val (.bool a1))) => some a1
  | _ => none
def n68 : ByteArray → Option (Bool) := fun a0 => ((n127 a0).bind fun y2 => (some (bif (bif y2 then (!(sEq a0 (⟨#[116, 114, 117, 101]⟩ : ByteArray))) else false) then (!(sEq a0 (⟨#[102, 97, 108, 115, 101]⟩ : ByteArray))) else false)))
def e68 : PureE := mkE d68 n68 (fun a1 => .one (.val (.bool a1)))
def g68 {σ : Type} : Nat → Option (SegE σ)
  | _ => none
theorem N68 : ∀ a, n68 a = bodyK (cfgOf Tryz.prog (tabsS4 gl) tS4) (toldOf tS4) noY (inlN (cfgOf Tryz.prog (tabsS4 gl) tS4) (toldOf tS4) noY) g68 68 Tryz.f68 (((fun a0 => [.val (.string a0)] : (ByteArray) → List D) a).map .d) [] [] () (retK fun v _ _ _ => r68 v) := by
  intro a0
  kernel_rfl
noncomputable def t68 : Tab := (68, e68) :: tS4
theorem ok68 (hl : LibFits gl) : TabOk Tryz.prog gl t68 :=
  told_fn (okS4 hl) mixed (oddOkS4 hl) (methOkS4 hl) Tryz.func68 (by kernel_rfl) (by kernel_rfl) (by kernel_rfl) (segs_no (by kernel_rfl))
    (args := fun a0 => [.val (.string a0)]) (res := r68)
    (fun ds a h => by
      unfold d68 at h
      split at h
      · cases h; rfl
      · cases h)
    (fun v r h => by
      unfold r68 at h
      split at h
      · rename_i hv; cases h; exact hv
      · cases h)
    N68
abbrev A60_1 := List D × Int × Int × Int × Int × Int × ByteArray × List D
inductive O60_1 where
  | x0 (o29 : Bool) (o30 : Int) (o31 : Int) (o32 : Int) (o33 : ByteArray) (o34 : List D)
  | x1 (o47 : Int) (o48 : Int) (o49 : Int) (o50 : ByteArray) (o51 : List D)
def l60_1 : LoopS A60_1 O60_1 where
  n := 126
  ks := [1, 95, 96, 97]
  kso := [2]
  m := 1
  mt := 0
  decV := fun vs bs ts => match vs, bs, ts with
    | [.ptr 0 0, .d (.slice v9), .d (.val (.int .i64 v10)), .d (.val (.int .i64 v11))], [.cells none [.d (.val (.int .i64 v12)), .d (.val (.int .i64 v13)), .d (.val (.int .i64 v14)), .d (.val (.string v15)), .d (.slice v16)]], [] => some (v9, v10, v11, v12, v13, v14, v15, v16)
    | _, _, _ => none
  encV := fun (v9, v10, v11, v12, v13, v14, v15, v16) => [.ptr 0 0, .d (.slice v9), .d (.val (.int .i64 v10)), .d (.val (.int .i64 v11))]
  encB := fun (v9, v10, v11, v12, v13, v14, v15, v16) => [.cells none [.d (.val (.int .i64 v12)), .d (.val (.int .i64 v13)), .d (.val (.int .i64 v14)), .d (.val (.string v15)), .d (.slice v16)]]
  tk := fun _ => []
  decO := fun ex vs bs ts => match ex, vs, bs, ts with
    | .ret, [.d (.val (.bool o29))], [.cells none [.d (.val (.int .i64 o30)), .d (.val (.int .i64 o31)), .d (.val (.int .i64 o32)), .d (.val (.string o33)), .d (.slice o34)]], [] => some (.x0 o29 o30 o31 o32 o33 o34)
    | .normal, [.undef], [.cells none [.d (.val (.int .i64 o47)), .d (.val (.int .i64 o48)), .d (.val (.int .i64 o49)), .d (.val (.string o50)), .d (.slice o51)]], [] => some (.x1 o47 o48 o49 o50 o51)
    | _, _, _, _ => none
  exO := fun x => match x with
    | .x0 o29 o30 o31 o32 o33 o34 => .ret
    | .x1 o47 o48 o49 o50 o51 => .normal
  outV := fun x => match x with
    | .x0 o29 o30 o31 o32 o33 o34 => [.d (.val (.bool o29))]
    | .x1 o47 o48 o49 o50 o51 => [.undef]
  outB := fun x => match x with
    | .x0 o29 o30 o31 o32 o33 o34 => [.cells none [.d (.val (.int .i64 o30)), .d (.val (.int .i64 o31)), .d (.val (.int .i64 o32)), .d (.val (.string o33)), .d (.slice o34)]]
    | .x1 o47 o48 o49 o50 o51 => [.cells none [.d (.val (.int .i64 o47)), .d (.val (.int .i64 o48)), .d (.val (.int .i64 o49)), .d (.val (.string o50)), .d (.slice o51)]]
  tkO := fun x => match x with
    | .x0 o29 o30 o31 o32 o33 o34 => []
    | .x1 o47 o48 o49 o50 o51 => []
  elim := fun x k => match x with
    | .x0 o29 o30 o31 o32 o33 o34 => k .ret [.d (.val (.bool o29))] [.cells none [.d (.val (.int .i64 o30)), .d (.val (.int .i64 o31)), .d (.val (.int .i64 o32)), .d (.val (.string o33)), .d (.slice o34)]] []
    | .x1 o47 o48 o49 o50 o51 => k .normal [.undef] [.cells none [.d (.val (.int .i64 o47)), .d (.val (.int .i64 o48)), .d (.val (.int .i64 o49)), .d (.val (.string o50)), .d (.slice o51)]] []
theorem k60_1 : l60_1.Ok where
  ok1 := by kernel_rfl
  ok2 := by kernel_rfl
  dec := by
    intro vs bs ts a h
    simp only [l60_1] at h ⊢
    split at h
    · cases h; exact ⟨rfl, rfl⟩
    · cases h
  out := by
    intro ex vs bs ts o h
    simp only [l60_1] at h ⊢
    split at h
    · cases h; exact ⟨rfl, rfl, rfl⟩
    · cases h; exact ⟨rfl, rfl, rfl⟩
    · cases h
  len := fun _ => ⟨rfl, rfl⟩
  elim := fun β o k => by cases o <;> rfl
def L60_1 {σ : Type} (F : Int × Int × Int × ByteArray × List D → Option (Bool)) : Nat → A60_1 → σ → Option (O60_1 × σ)
  | 0, _, _ => none
  | n+1, (v9, v10, v11, v12, v13, v14, v15, v16), s => (bif (decide (v11 < v10)) then ((lidx v9 v11).bind fun d17 => ask (d17.cells.length = 5) ((cellAt 0 d17).bind fun x18 => (asInt .i64 x18).bind fun x19 => ((cellAt 1 d17).bind fun x20 => (asInt .i64 x20).bind fun x21 => ((cellAt 2 d17).bind fun x22 => (asInt .i64 x22).bind fun x23 => ((cellAt 3 d17).bind fun x24 => (asStr x24).bind fun x25 => ((cellAt 4 d17).bind fun x26 => (asRow x26).bind fun x27 => ((F (x19, x21, x23, x25, x27)).bind fun y28 => (bif (!y28) then (some (O60_1.x0 false v12 v13 v14 v15 v16, s)) else (bif (v12 == 7) then (bif (decide (v11 > 0)) then ((lidx v16 (w64 (v11 - 1))).bind fun d35 => ask (d35.cells.length = 5) ((cellAt 0 d35).bind fun x36 => (asInt .i64 x36).bind fun x37 => ((cellAt 1 d35).bind fun x38 => (asInt .i64 x38).bind fun x39 => ((cellAt 2 d35).bind fun x40 => (asInt .i64 x40).bind fun x41 => ((cellAt 3 d35).bind fun x42 => (asStr x42).bind fun x43 => ((cellAt 4 d35).bind fun x44 => (asRow x44).bind fun x45 => ((n66 64 (x37, x39, x41, x43, x45, x19, x21, x23, x25, x27)).bind fun y46 => (bif (decide (y46 ≥ 0)) then (some (O60_1.x0 false v12 v13 v14 v15 v16, s)) else (L60_1 F n (v9, v10, (w64 (v11 + 1)), v12, v13, v14, v15, v16) s))))))))) else (L60_1 F n (v9, v10, (w64 (v11 + 1)), v12, v13, v14, v15, v16) s)) else (L60_1 F n (v9, v10, (w64 (v11 + 1)), v12, v13, v14, v15, v16) s)))))))))) else (some (O60_1.x1 v12 v13 v14 v15 v16, s)))
def d60 (ds : List D) : Option (Int × Int × Int × ByteArray × List D) := match ds with
  | [.agg [.val (.int .i64 a0), .val (.int .i64 a1), .val (.int .i64 a2), .val (.string a3), .slice a4]] => some (a0, a1, a2, a3, a4)
  | _ => none
def r60 (v : AV) : Option (Bool) := match toPR v with
  | some (.one (.val (.bool a5))) => some a5
  | _ => none
def n60 : Nat → Int × Int × Int × ByteArray × List D → Option (Bool)
  | 0, _ => none
  | k + 1, (a0, a1, a2, a3, a4) => (bif (a0 == 1) then (bif (bif (bif (sEq a3 (⟨#[]⟩ : ByteArray)) then (((a4.length : Nat) : Int) == 0) else false) then (a2 == 0) else false) then (bif (a1 == 0) then (some true) else (some (a1 == 1))) else (some false)) else (bif (a0 == 2) then (some (bif (bif (sEq a3 (⟨#[]⟩ : ByteArray)) then (((a4.length : Nat) : Int) == 0) else false) then (a2 == 0) else false)) else (bif (a0 == 3) then (bif (bif (sEq a3 (⟨#[]⟩ : ByteArray)) then (((a4.length : Nat) : Int) == 0) else false) then ((n69 a1).bind fun y6 => (bif y6 then ((n69 a2).bind fun y7 => (some y7)) else (some false))) else (some false)) else (bif (a0 == 4) then (bif (bif (bif (a1 == 0) then (a2 == 0) else false) then (((a4.length : Nat) : Int) == 0) else false) then ((n67 a3).bind fun y8 => (some y8)) else (some false)) else (bif (a0 == 5) then (bif (bif (bif (a1 != 0) then true else (a2 != 0)) then true else (!(sEq a3 (⟨#[]⟩ : ByteArray)))) then (some false) else ((L60_1 (n60 k) 1000000000000 (a4, ((a4.length : Nat) : Int), 0, a0, a1, a2, a3, a4) ()).bind fun p52 => match p52.1 with | .x0 z53 z54 z55 z56 z57 z58 => (some z53) | .x1 z59 z60 z61 z62 z63 => (some true))) else (bif (a0 == 6) then (bif (bif (bif (a1 != 0) then true else (a2 != 0)) then true else (!(sEq a3 (⟨#[]⟩ : ByteArray)))) then (some false) else ((L60_1 (n60 k) 1000000000000 (a4, ((a4.length : Nat) : Int), 0, a0, a1, a2, a3, a4) ()).bind fun p107 => match p107.1 with | .x0 z108 z109 z110 z111 z112 z113 => (some z108) | .x1 z114 z115 z116 z117 z118 => (some true))) else (bif (a0 == 7) then (bif (bif (bif (a1 != 0) then true else (a2 != 0)) then true else (!(sEq a3 (⟨#[]⟩ : ByteArray)))) then (some false) else ((L60_1 (n60 k) 1000000000000 (a4, ((a4.length : Nat) : Int), 0, a0, a1, a2, a3, a4) ()).bind fun p162 => match p162.1 with | .x0 z163 z164 z165 z166 z167 z168 => (some z163) | .x1 z169 z170 z171 z172 z173 => (some true))) else (some false))))))))
def e60 : PureE := mkE d60 (n60 64) (fun a5 => .one (.val (.bool a5)))
def g60 (k : Nat) {σ : Type} : Nat → Option (SegE σ)
  | 1 => some (l60_1.seg σ (L60_1 (n60 k) 1000000000000))
  | _ => none
theorem E60_1 {σ : Type} (k : Nat) (Y : Yd σ) : ∀ n a (s : σ), L60_1 (n60 k) (n + 1) a s = evK (cfgOf Tryz.prog (tabsS4 gl) (((60, mkE d60 (n60 k) (fun a5 => .one (.val (.bool a5)))) :: tS4) : Tab)) (toldOf (((60, mkE d60 (n60 k) (fun a5 => .one (.val (.bool a5)))) :: tS4) : Tab)) Y (inlN (cfgOf Tryz.prog (tabsS4 gl) (((60, mkE d60 (n60 k) (fun a5 => .one (.val (.bool a5)))) :: tS4) : Tab)) (toldOf (((60, mkE d60 (n60 k) (fun a5 => .one (.val (.bool a5)))) :: tS4) : Tab)) Y) (g60 k) 60 (loopAt Tryz.f60 1) ((l60_1.toT σ).enc a s) (fun ex st' => l60_1.next (cfgOf Tryz.prog (tabsS4 gl) (((60, mkE d60 (n60 k) (fun a5 => .one (.val (.bool a5)))) :: tS4) : Tab)) 60 1 (L60_1 (n60 k) n) ex st') := by
  intro n ⟨v9, v10, v11, v12, v13, v14, v15, v16⟩ s
  kernel_rfl
theorem Q60_1 {σ : Type} (hl : LibFits gl) (k : Nat) (hk : TabOk Tryz.prog gl (((60, mkE d60 (n60 k) (fun a5 => .one (.val (.bool a5)))) :: tS4) : Tab)) (Y : Yd σ) (rnd : Bool) : SegOk (cfgOf Tryz.prog (tabsS4 gl) (((60, mkE d60 (n60 k) (fun a5 => .one (.val (.bool a5)))) :: tS4) : Tab)) (evFn (cfgOf Tryz.prog (tabsS4 gl) (((60, mkE d60 (n60 k) (fun a5 => .one (.val (.bool a5)))) :: tS4) : Tab)) 9) 60 rnd Y (l60_1.seg σ (L60_1 (n60 k) 1000000000000)) (.block 1 (.loop (loopAt Tryz.f60 1))) :=
  told_loop hk k60_1 (by kernel_rfl) (by kernel_rfl) (fun _ _ => rfl) (segs_no (by kernel_rfl)) (E60_1 k Y) (hr := by kernel_rfl)
theorem N60 : ∀ k a, n60 (k + 1) a = bodyK (cfgOf Tryz.prog (tabsS4 gl) (((60, mkE d60 (n60 k) (fun a5 => .one (.val (.bool a5)))) :: tS4) : Tab)) (toldOf (((60, mkE d60 (n60 k) (fun a5 => .one (.val (.bool a5)))) :: tS4) : Tab)) noY (inlN (cfgOf Tryz.prog (tabsS4 gl) (((60, mkE d60 (n60 k) (fun a5 => .one (.val (.bool a5)))) :: tS4) : Tab)) (toldOf (((60, mkE d60 (n60 k) (fun a5 => .one (.val (.bool a5)))) :: tS4) : Tab)) noY) (g60 k) 60 Tryz.f60 (((fun (a0, a1, a2, a3, a4) => [.agg [.val (.int .i64 a0), .val (.int .i64 a1), .val (.int .i64 a2), .val (.string a3), .slice a4]] : (Int × Int × Int × ByteArray × List D) → List D) a).map .d) [] [] () (retK fun v _ _ _ => r60 v) := by
  intro k a
  obtain ⟨a0, a1, a2, a3, a4⟩ := a
  kernel_rfl
noncomputable def t60 : Tab := (60, e60) :: tS4
theorem ok60 (hl : LibFits gl) : TabOk Tryz.prog gl t60 :=
  told_rec (t := tabsS4 gl) (okS4 hl) mixed (oddOkS4 hl) (methOkS4 hl) Tryz.func60 (by kernel_rfl) (nat := n60) (seg := fun k => g60 k) (by kernel_rfl) (fun k hk => (fun p hp e he => by
    have hq : segsOf (σ := Unit) (g60 k (σ := Unit)) (bodyOf Tryz.f60) = [(1, .loop (loopAt Tryz.f60 1))] := by kernel_rfl
    rw [hq] at hp
    simp only [List.mem_cons, List.not_mem_nil, or_false] at hp
    subst hp
    cases he
    exact Q60_1 hl k hk _ _))
    (args := fun (a0, a1, a2, a3, a4) => [.agg [.val (.int .i64 a0), .val (.int .i64 a1), .val (.int .i64 a2), .val (.string a3), .slice a4]]) (res := r60)
    (fun ds a h => by
      unfold d60 at h
      split at h
      · cases h; rfl
      · cases h)
    (fun v r h => by
      unfold r60 at h
      split at h
      · rename_i hv; cases h; exact hv
      · cases h)
    (fun _ => rfl) N60 64
noncomputable def tS5 : Tab := (68, e68) :: (60, e60) :: tS4
theorem okS5 (hl : LibFits gl) : TabOk Tryz.prog gl tS5 :=
  TabOk.cons (TabOk.cons (okS4 hl) ((ok60 hl).fair (60, e60) (List.mem_cons_self (l := tS4))) ((ok60 hl).spec (60, e60) (List.mem_cons_self (l := tS4)))) ((ok68 hl).fair (68, e68) (List.mem_cons_self (l := tS4))) ((ok68 hl).spec (68, e68) (List.mem_cons_self (l := tS4)))
abbrev A110_1 := Int × Int × Int × Int × ByteArray × List D
inductive O110_1 where
  | x0 (o32 : Bool) (o33 : Int) (o34 : Int) (o35 : Int) (o36 : ByteArray) (o37 : List D)
  | x1 (o61 : Int) (o62 : Int) (o63 : Int) (o64 : ByteArray) (o65 : List D)
def l110_1 : LoopS A110_1 O110_1 where
  n := 92
  ks := [1, 3]
  kso := [2]
  m := 1
  mt := 0
  decV := fun vs bs ts => match vs, bs, ts with
    | [.ptr 0 0, .d (.val (.int .i64 v14))], [.cells none [.d (.val (.int .i64 v15)), .d (.val (.int .i64 v16)), .d (.val (.int .i64 v17)), .d (.val (.string v18)), .d (.slice v19)]], [] => some (v14, v15, v16, v17, v18, v19)
    | _, _, _ => none
  encV := fun (v14, v15, v16, v17, v18, v19) => [.ptr 0 0, .d (.val (.int .i64 v14))]
  encB := fun (v14, v15, v16, v17, v18, v19) => [.cells none [.d (.val (.int .i64 v15)), .d (.val (.int .i64 v16)), .d (.val (.int .i64 v17)), .d (.val (.string v18)), .d (.slice v19)]]
  tk := fun _ => []
  decO := fun ex vs bs ts => match ex, vs, bs, ts with
    | .ret, [.d (.val (.bool o32))], [.cells none [.d (.val (.int .i64 o33)), .d (.val (.int .i64 o34)), .d (.val (.int .i64 o35)), .d (.val (.string o36)), .d (.slice o37)]], [] => some (.x0 o32 o33 o34 o35 o36 o37)
    | .normal, [.undef], [.cells none [.d (.val (.int .i64 o61)), .d (.val (.int .i64 o62)), .d (.val (.int .i64 o63)), .d (.val (.string o64)), .d (.slice o65)]], [] => some (.x1 o61 o62 o63 o64 o65)
    | _, _, _, _ => none
  exO := fun x => match x with
    | .x0 o32 o33 o34 o35 o36 o37 => .ret
    | .x1 o61 o62 o63 o64 o65 => .normal
  outV := fun x => match x with
    | .x0 o32 o33 o34 o35 o36 o37 => [.d (.val (.bool o32))]
    | .x1 o61 o62 o63 o64 o65 => [.undef]
  outB := fun x => match x with
    | .x0 o32 o33 o34 o35 o36 o37 => [.cells none [.d (.val (.int .i64 o33)), .d (.val (.int .i64 o34)), .d (.val (.int .i64 o35)), .d (.val (.string o36)), .d (.slice o37)]]
    | .x1 o61 o62 o63 o64 o65 => [.cells none [.d (.val (.int .i64 o61)), .d (.val (.int .i64 o62)), .d (.val (.int .i64 o63)), .d (.val (.string o64)), .d (.slice o65)]]
  tkO := fun x => match x with
    | .x0 o32 o33 o34 o35 o36 o37 => []
    | .x1 o61 o62 o63 o64 o65 => []
  elim := fun x k => match x with
    | .x0 o32 o33 o34 o35 o36 o37 => k .ret [.d (.val (.bool o32))] [.cells none [.d (.val (.int .i64 o33)), .d (.val (.int .i64 o34)), .d (.val (.int .i64 o35)), .d (.val (.string o36)), .d (.slice o37)]] []
    | .x1 o61 o62 o63 o64 o65 => k .normal [.undef] [.cells none [.d (.val (.int .i64 o61)), .d (.val (.int .i64 o62)), .d (.val (.int .i64 o63)), .d (.val (.string o64)), .d (.slice o65)]] []
theorem k110_1 : l110_1.Ok where
  ok1 := by kernel_rfl
  ok2 := by kernel_rfl
  dec := by
    intro vs bs ts a h
    simp only [l110_1] at h ⊢
    split at h
    · cases h; exact ⟨rfl, rfl⟩
    · cases h
  out := by
    intro ex vs bs ts o h
    simp only [l110_1] at h ⊢
    split at h
    · cases h; exact ⟨rfl, rfl, rfl⟩
    · cases h; exact ⟨rfl, rfl, rfl⟩
    · cases h
  len := fun _ => ⟨rfl, rfl⟩
  elim := fun β o k => by cases o <;> rfl
def L110_1 {σ : Type} (F : Int × Int × Int × ByteArray × List D → Option (Bool)) : Nat → A110_1 → σ → Option (O110_1 × σ)
  | 0, _, _ => none
  | n+1, (v14, v15, v16, v17, v18, v19), s => (bif (decide (v14 < ((v19.length : Nat) : Int))) then ((lidx v19 v14).bind fun d20 => ask (d20.cells.length = 5) ((cellAt 0 d20).bind fun x21 => (asInt .i64 x21).bind fun x22 => ((cellAt 1 d20).bind fun x23 => (asInt .i64 x23).bind fun x24 => ((cellAt 2 d20).bind fun x25 => (asInt .i64 x25).bind fun x26 => ((cellAt 3 d20).bind fun x27 => (asStr x27).bind fun x28 => ((cellAt 4 d20).bind fun x29 => (asRow x29).bind fun x30 => ((F (x22, x24, x26, x28, x30)).bind fun y31 => (bif (!y31) then (some (O110_1.x0 false v15 v16 v17 v18 v19, s)) else (bif (v15 == 7) then (bif (decide (v14 > 0)) then ((lidx v19 (w64 (v14 - 1))).bind fun d38 => ask (d38.cells.length = 5) ((cellAt 0 d38).bind fun x39 => (asInt .i64 x39).bind fun x40 => ((cellAt 1 d38).bind fun x41 => (asInt .i64 x41).bind fun x42 => ((cellAt 2 d38).bind fun x43 => (asInt .i64 x43).bind fun x44 => ((cellAt 3 d38).bind fun x45 => (asStr x45).bind fun x46 => ((cellAt 4 d38).bind fun x47 => (asRow x47).bind fun x48 => ((lidx v19 v14).bind fun d49 => ask (d49.cells.length = 5) ((cellAt 0 d49).bind fun x50 => (asInt .i64 x50).bind fun x51 => ((cellAt 1 d49).bind fun x52 => (asInt .i64 x52).bind fun x53 => ((cellAt 2 d49).bind fun x54 => (asInt .i64 x54).bind fun x55 => ((cellAt 3 d49).bind fun x56 => (asStr x56).bind fun x57 => ((cellAt 4 d49).bind fun x58 => (asRow x58).bind fun x59 => ((n144 64 (x40, x42, x44, x46, x48, x51, x53, x55, x57, x59)).bind fun y60 => (bif (decide (y60 ≥ 0)) then (some (O110_1.x0 false v15 v16 v17 v18 v19, s)) else (L110_1 F n ((w64 (v14 + 1)), v15, v16, v17, v18, v19) s))))))))))))))) else (L110_1 F n ((w64 (v14 + 1)), v15, v16, v17, v18, v19) s)) else (L110_1 F n ((w64 (v14 + 1)), v15, v16, v17, v18, v19) s)))))))))) else (some (O110_1.x1 v15 v16 v17 v18 v19, s)))
def d110 (ds : List D) : Option (Int × Int × Int × ByteArray × List D) := match ds with
  | [.agg [.val (.int .i64 a0), .val (.int .i64 a1), .val (.int .i64 a2), .val (.string a3), .slice a4]] => some (a0, a1, a2, a3, a4)
  | _ => none
def r110 (v : AV) : Option (Bool) := match toPR v with
  | some (.one (.val (.bool a5))) => some a5
  | _ => none
def n110 : Nat → Int × Int × Int × ByteArray × List D → Option (Bool)
  | 0, _ => none
  | k + 1, (a0, a1, a2, a3, a4) => (bif (a0 == 1) then ((n153 (a0, a1, a2, a3, a4, true, false, false, false)).bind fun y6 => (bif y6 then (bif (a1 == 0) then (some true) else (some (a1 == 1))) else (some false))) else (bif (a0 == 2) then ((n153 (a0, a1, a2, a3, a4, true, false, false, false)).bind fun y7 => (some y7)) else (bif (a0 == 3) then ((n153 (a0, a1, a2, a3, a4, true, true, false, false)).bind fun y8 => (bif y8 then ((n70 a1).bind fun y9 => (bif y9 then ((n70 a2).bind fun y10 => (some y10)) else (some false))) else (some false))) else (bif (a0 == 4) then ((n153 (a0, a1, a2, a3, a4, false, false, true, false)).bind fun y11 => (bif y11 then ((n68 a3).bind fun y12 => (some y12)) else (some false))) else (bif (a0 == 5) then ((n153 (a0, a1, a2, a3, a4, false, false, false, true)).bind fun y13 => (bif (!y13) then (some false) else ((L110_1 (n110 k) 1000000000000 (0, a0, a1, a2, a3, a4) ()).bind fun p66 => match p66.1 with | .x0 z67 z68 z69 z70 z71 z72 => (some z67) | .x1 z73 z74 z75 z76 z77 => (some true)))) else (bif (a0 == 6) then ((n153 (a0, a1, a2, a3, a4, false, false, false, true)).bind fun y78 => (bif (!y78) then (some false) else ((L110_1 (n110 k) 1000000000000 (0, a0, a1, a2, a3, a4) ()).bind fun p131 => match p131.1 with | .x0 z132 z133 z134 z135 z136 z137 => (some z132) | .x1 z138 z139 z140 z141 z142 => (some true)))) else (bif (a0 == 7) then ((n153 (a0, a1, a2, a3, a4, false, false, false, true)).bind fun y143 => (bif (!y143) then (some false) else ((L110_1 (n110 k) 1000000000000 (0, a0, a1, a2, a3, a4) ()).bind fun p196 => match p196.1 with | .x0 z197 z198 z199 z200 z201 z202 => (some z197) | .x1 z203 z204 z205 z206 z207 => (some true)))) else (some false))))))))
def e110 : PureE := mkE d110 (n110 64) (fun a5 => .one (.val (.bool a5)))
def g110 (k : Nat) {σ : Type} : Nat → Option (SegE σ)
  | 1 => some (l110_1.seg σ (L110_1 (n110 k) 1000000000000))
  | _ => none
theorem E110_1 {σ : Type} (k : Nat) (Y : Yd σ) : ∀ n a (s : σ), L110_1 (n110 k) (n + 1) a s = evK (cfgOf Tryz.prog (tabsS4 gl) (((110, mkE d110 (n110 k) (fun a5 => .one (.val (.bool a5)))) :: tS5) : Tab)) (toldOf (((110, mkE d110 (n110 k) (fun a5 => .one (.val (.bool a5)))) :: tS5) : Tab)) Y (inlN (cfgOf Tryz.prog (tabsS4 gl) (((110, mkE d110 (n110 k) (fun a5 => .one (.val (.bool a5)))) :: tS5) : Tab)) (toldOf (((110, mkE d110 (n110 k) (fun a5 => .one (.val (.bool a5)))) :: tS5) : Tab)) Y) (g110 k) 110 (loopAt Tryz.f110 1) ((l110_1.toT σ).enc a s) (fun ex st' => l110_1.next (cfgOf Tryz.prog (tabsS4 gl) (((110, mkE d110 (n110 k) (fun a5 => .one (.val (.bool a5)))) :: tS5) : Tab)) 110 1 (L110_1 (n110 k) n) ex st') := by
  intro n ⟨v14, v15, v16, v17, v18, v19⟩ s
  kernel_rfl
theorem Q110_1 {σ : Type} (hl : LibFits gl) (k : Nat) (hk : TabOk Tryz.prog gl (((110, mkE d110 (n110 k) (fun a5 => .one (.val (.bool a5)))) :: tS5) : Tab)) (Y : Yd σ) (rnd : Bool) : SegOk (cfgOf Tryz.prog (tabsS4 gl) (((110, mkE d110 (n110 k) (fun a5 => .one (.val (.bool a5)))) :: tS5) : Tab)) (evFn (cfgOf Tryz.prog (tabsS4 gl) (((110, mkE d110 (n110 k) (fun a5 => .one (.val (.bool a5)))) :: tS5) : Tab)) 9) 110 rnd Y (l110_1.seg σ (L110_1 (n110 k) 1000000000000)) (.block 1 (.loop (loopAt Tryz.f110 1))) :=
  told_loop hk k110_1 (by kernel_rfl) (by kernel_rfl) (fun _ _ => rfl) (segs_no (by kernel_rfl)) (E110_1 k Y) (hr := by kernel_rfl)
theorem N110 : ∀ k a, n110 (k + 1) a = bodyK (cfgOf Tryz.prog (tabsS4 gl) (((110, mkE d110 (n110 k) (fun a5 => .one (.val (.bool a5)))) :: tS5) : Tab)) (toldOf (((110, mkE d110 (n110 k) (fun a5 => .one (.val (.bool a5)))) :: tS5) : Tab)) noY (inlN (cfgOf Tryz.prog (tabsS4 gl) (((110, mkE d110 (n110 k) (fun a5 => .one (.val (.bool a5)))) :: tS5) : Tab)) (toldOf (((110, mkE d110 (n110 k) (fun a5 => .one (.val (.bool a5)))) :: tS5) : Tab)) noY) (g110 k) 110 Tryz.f110 (((fun (a0, a1, a2, a3, a4) => [.agg [.val (.int .i64 a0), .val (.int .i64 a1), .val (.int .i64 a2), .val (.string a3), .slice a4]] : (Int × Int × Int × ByteArray × List D) → List D) a).map .d) [] [] () (retK fun v _ _ _ => r110 v) := by
  intro k a
  obtain ⟨a0, a1, a2, a3, a4⟩ := a
  kernel_rfl
noncomputable def t110 : Tab := (110, e110) :: tS5
theorem ok110 (hl : LibFits gl) : TabOk Tryz.prog gl t110 :=
  told_rec (t := tabsS4 gl) (okS5 hl) mixed (oddOkS4 hl) (methOkS4 hl) Tryz.func110 (by kernel_rfl) (nat := n110) (seg := fun k => g110 k) (by kernel_rfl) (fun k hk => (fun p hp e he => by
    have hq : segsOf (σ := Unit) (g110 k (σ := Unit)) (bodyOf Tryz.f110) = [(1, .loop (loopAt Tryz.f110 1))] := by kernel_rfl
    rw [hq] at hp
    simp only [List.mem_cons, List.not_mem_nil, or_false] at hp
    subst hp
    cases he
    exact Q110_1 hl k hk _ _))
    (args := fun (a0, a1, a2, a3, a4) => [.agg [.val (.int .i64 a0), .val (.int .i64 a1), .val (.int .i64 a2), .val (.string a3), .slice a4]]) (res := r110)
    (fun ds a h => by
      unfold d110 at h
      split at h
      · cases h; rfl
      · cases h)
    (fun v r h => by
      unfold r110 at h
      split at h
      · rename_i hv; cases h; exact hv
      · cases h)
    (fun _ => rfl) N110 64
def d20 (ds : List D) : Option (Int × Int × Int × ByteArray × List D) := match ds with
  | [.agg [.val (.int .i64 a0), .val (.int .i64 a1), .val (.int .i64 a2), .val (.string a3), .slice a4]] => some (a0, a1, a2, a3, a4)
  | _ => none
def r20 (v : AV) : Option (Int) := match toPR v with
  | some (.one (.val (.int .i64 a5))) => some a5
  | _ => none
def n20 : Int × Int × Int × ByteArray × List D → Option (Int) := fun (a0, a1, a2, a3, a4) => ((n59 (a0, a1, a2, a3, a4)).bind fun y6 => (bif (!y6) then (some 40) else ((n60 64 (a0, a1, a2, a3, a4)).bind fun y7 => (bif (!y7) then (some 40) else (some 0)))))
def e20 : PureE := mkE d20 n20 (fun a5 => .one (.val (.int .i64 a5)))
def g20 {σ : Type} : Nat → Option (SegE σ)
  | _ => none
theorem N20 : ∀ a, n20 a = bodyK (cfgOf Tryz.prog (tabsS4 gl) tS5) (toldOf tS5) noY (inlN (cfgOf Tryz.prog (tabsS4 gl) tS5) (toldOf tS5) noY) g20 20 Tryz.f20 (((fun (a0, a1, a2, a3, a4) => [.agg [.val (.int .i64 a0), .val (.int .i64 a1), .val (.int .i64 a2), .val (.string a3), .slice a4]] : (Int × Int × Int × ByteArray × List D) → List D) a).map .d) [] [] () (retK fun v _ _ _ => r20 v) := by
  intro a
  obtain ⟨a0, a1, a2, a3, a4⟩ := a
  kernel_rfl
noncomputable def t20 : Tab := (20, e20) :: tS5
theorem ok20 (hl : LibFits gl) : TabOk Tryz.prog gl t20 :=
  told_fn (okS5 hl) mixed (oddOkS4 hl) (methOkS4 hl) Tryz.func20 (by kernel_rfl) (by kernel_rfl) (by kernel_rfl) (segs_no (by kernel_rfl))
    (args := fun (a0, a1, a2, a3, a4) => [.agg [.val (.int .i64 a0), .val (.int .i64 a1), .val (.int .i64 a2), .val (.string a3), .slice a4]]) (res := r20)
    (fun ds a h => by
      unfold d20 at h
      split at h
      · cases h; rfl
      · cases h)
    (fun v r h => by
      unfold r20 at h
      split at h
      · rename_i hv; cases h; exact hv
      · cases h)
    N20
noncomputable def tS6 : Tab := (110, e110) :: (20, e20) :: tS5
theorem okS6 (hl : LibFits gl) : TabOk Tryz.prog gl tS6 :=
  TabOk.cons (TabOk.cons (okS5 hl) ((ok20 hl).fair (20, e20) (List.mem_cons_self (l := tS5))) ((ok20 hl).spec (20, e20) (List.mem_cons_self (l := tS5)))) ((ok110 hl).fair (110, e110) (List.mem_cons_self (l := tS5))) ((ok110 hl).spec (110, e110) (List.mem_cons_self (l := tS5)))
def d52 (ds : List D) : Option (Int × Int × Int × ByteArray × List D) := match ds with
  | [.agg [.val (.int .i64 a0), .val (.int .i64 a1), .val (.int .i64 a2), .val (.string a3), .slice a4]] => some (a0, a1, a2, a3, a4)
  | _ => none
def r52 (v : AV) : Option (Bool) := match toPR v with
  | some (.one (.val (.bool a5))) => some a5
  | _ => none
def n52 : Int × Int × Int × ByteArray × List D → Option (Bool) := fun (a0, a1, a2, a3, a4) => ((n109 64 (a0, a1, a2, a3, a4, 0, 1)).bind fun y6 => (bif (decide (y6 ≤ 4096)) then ((n110 64 (a0, a1, a2, a3, a4)).bind fun y7 => (some y7)) else (some false)))
def e52 : PureE := mkE d52 n52 (fun a5 => .one (.val (.bool a5)))
def g52 {σ : Type} : Nat → Option (SegE σ)
  | _ => none
theorem N52 : ∀ a, n52 a = bodyK (cfgOf Tryz.prog (tabsS4 gl) tS6) (toldOf tS6) noY (inlN (cfgOf Tryz.prog (tabsS4 gl) tS6) (toldOf tS6) noY) g52 52 Tryz.f52 (((fun (a0, a1, a2, a3, a4) => [.agg [.val (.int .i64 a0), .val (.int .i64 a1), .val (.int .i64 a2), .val (.string a3), .slice a4]] : (Int × Int × Int × ByteArray × List D) → List D) a).map .d) [] [] () (retK fun v _ _ _ => r52 v) := by
  intro a
  obtain ⟨a0, a1, a2, a3, a4⟩ := a
  kernel_rfl
noncomputable def t52 : Tab := (52, e52) :: tS6
theorem ok52 (hl : LibFits gl) : TabOk Tryz.prog gl t52 :=
  told_fn (okS6 hl) mixed (oddOkS4 hl) (methOkS4 hl) Tryz.func52 (by kernel_rfl) (by kernel_rfl) (by kernel_rfl) (segs_no (by kernel_rfl))
    (args := fun (a0, a1, a2, a3, a4) => [.agg [.val (.int .i64 a0), .val (.int .i64 a1), .val (.int .i64 a2), .val (.string a3), .slice a4]]) (res := r52)
    (fun ds a h => by
      unfold d52 at h
      split at h
      · cases h; rfl
      · cases h)
    (fun v r h => by
      unfold r52 at h
      split at h
      · rename_i hv; cases h; exact hv
      · cases h)
    N52
noncomputable def tS7 : Tab := (52, e52) :: tS6
theorem okS7 (hl : LibFits gl) : TabOk Tryz.prog gl tS7 :=
  TabOk.cons (okS6 hl) ((ok52 hl).fair (52, e52) (List.mem_cons_self (l := tS6))) ((ok52 hl).spec (52, e52) (List.mem_cons_self (l := tS6)))
def d14 (ds : List D) : Option (ByteArray) := match ds with
  | [.bytes a0] => some a0
  | _ => none
def r14 (v : AV) : Option (Int × Int × Int × ByteArray × List D × Int × Int) := match toPR v with
  | some (.many [.agg [.val (.int .i64 a1), .val (.int .i64 a2), .val (.int .i64 a3), .val (.string a4), .slice a5], .val (.int .i64 a6), .val (.int .i64 a7)]) => some (a1, a2, a3, a4, a5, a6, a7)
  | _ => none
def n14 : ByteArray → Option (Int × Int × Int × ByteArray × List D × Int × Int) := fun a0 => ((n51 64 (4096, a0, 0, 1)).bind fun y8 => match y8 with | .inl z9 => (bif (decide (z9.2.2.2.2.2.1 < 0)) then (some (0, 0, 0, (⟨#[]⟩ : ByteArray), ([] : List D), 0, 41)) else ((n52 (z9.1, z9.2.1, z9.2.2.1, z9.2.2.2.1, z9.2.2.2.2.1)).bind fun y11 => (bif (!y11) then (some (0, 0, 0, (⟨#[]⟩ : ByteArray), ([] : List D), 0, 41)) else (some (z9.1, z9.2.1, z9.2.2.1, z9.2.2.2.1, z9.2.2.2.2.1, z9.2.2.2.2.2.1, 0))))) | .inr q10 => none)
def e14 : PureE := mkE d14 n14 (fun (a1, a2, a3, a4, a5, a6, a7) => .many [.agg [.val (.int .i64 a1), .val (.int .i64 a2), .val (.int .i64 a3), .val (.string a4), .slice a5], .val (.int .i64 a6), .val (.int .i64 a7)])
def g14 {σ : Type} : Nat → Option (SegE σ)
  | _ => none
theorem N14 : ∀ a, n14 a = bodyK (cfgOf Tryz.prog (tabsS4 gl) tS7) (toldOf tS7) noY (inlN (cfgOf Tryz.prog (tabsS4 gl) tS7) (toldOf tS7) noY) g14 14 Tryz.f14 (((fun a0 => [.bytes a0] : (ByteArray) → List D) a).map .d) [] [] () (retK fun v _ _ _ => r14 v) := by
  intro a0
  kernel_rfl
noncomputable def t14 : Tab := (14, e14) :: tS7
theorem ok14 (hl : LibFits gl) : TabOk Tryz.prog gl t14 :=
  told_fn (okS7 hl) mixed (oddOkS4 hl) (methOkS4 hl) Tryz.func14 (by kernel_rfl) (by kernel_rfl) (by kernel_rfl) (segs_no (by kernel_rfl))
    (args := fun a0 => [.bytes a0]) (res := r14)
    (fun ds a h => by
      unfold d14 at h
      split at h
      · cases h; rfl
      · cases h)
    (fun v r h => by
      unfold r14 at h
      split at h
      · rename_i hv; cases h; exact hv
      · cases h)
    N14
abbrev PT49 := ByteArray × Bool × Int × Int
abbrev RT49 := ((Int × Int × Int × ByteArray × List D × ByteArray × Bool × Int) ⊕ (Unit))
abbrev A49_1 := Int × Int × Int × ByteArray × Bool × Int × Int × Int × Int × ByteArray × List D × Int × Int × Int × ByteArray × List D
inductive O49_1 where
  | x0 (q1026 : Nat) (q1027 : Nat)
  | x1 (o1028 : ByteArray) (o1029 : Bool) (o1030 : Int) (o1031 : Int) (o1032 : Int) (o1033 : Int) (o1034 : ByteArray) (o1035 : List D) (o1036 : Int) (o1037 : Int) (o1038 : Int) (o1039 : ByteArray) (o1040 : List D)
def l49_1 : LoopS A49_1 O49_1 where
  n := 131
  ks := [0, 1, 2, 6, 10, 116, 117]
  kso := [6, 10]
  m := 4
  mt := 2
  decV := fun vs bs ts => match vs, bs, ts with
    | [.ptr 0 0, .d (.val (.int .i64 v1007)), .ptr 1 0, .ptr 2 0, .ptr 3 0, .d (.val (.int .u64 v1008)), .d (.val (.int .u64 v1009))], [.cells none [.d (.bytes v1010), .d (.val (.bool v1011))], .cells (some 3) [.d (.val (.int .i64 v1012))], .cells (some 26) [.d (.val (.int .i64 v1013)), .d (.val (.int .i64 v1014)), .d (.val (.int .i64 v1015)), .d (.val (.string v1016)), .osl 0 v1017], .cells (some 26) [.d (.val (.int .i64 v1018)), .d (.val (.int .i64 v1019)), .d (.val (.int .i64 v1020)), .d (.val (.string v1021)), .osl 1 v1022]], [_, _] => some (v1007, v1008, v1009, v1010, v1011, v1012, v1013, v1014, v1015, v1016, v1017, v1018, v1019, v1020, v1021, v1022)
    | _, _, _ => none
  encV := fun (v1007, v1008, v1009, v1010, v1011, v1012, v1013, v1014, v1015, v1016, v1017, v1018, v1019, v1020, v1021, v1022) => [.ptr 0 0, .d (.val (.int .i64 v1007)), .ptr 1 0, .ptr 2 0, .ptr 3 0, .d (.val (.int .u64 v1008)), .d (.val (.int .u64 v1009))]
  encB := fun (v1007, v1008, v1009, v1010, v1011, v1012, v1013, v1014, v1015, v1016, v1017, v1018, v1019, v1020, v1021, v1022) => [.cells none [.d (.bytes v1010), .d (.val (.bool v1011))], .cells (some 3) [.d (.val (.int .i64 v1012))], .cells (some 26) [.d (.val (.int .i64 v1013)), .d (.val (.int .i64 v1014)), .d (.val (.int .i64 v1015)), .d (.val (.string v1016)), .osl 0 v1017], .cells (some 26) [.d (.val (.int .i64 v1018)), .d (.val (.int .i64 v1019)), .d (.val (.int .i64 v1020)), .d (.val (.string v1021)), .osl 1 v1022]]
  tk := fun (v1007, v1008, v1009, v1010, v1011, v1012, v1013, v1014, v1015, v1016, v1017, v1018, v1019, v1020, v1021, v1022) => [v1017.length, v1022.length]
  decO := fun ex vs bs ts => match payOf ex with
    | some (88, []) => (match vs, bs, ts with
      | [.undef, .undef], [.gone, .gone, .gone, .gone], [q1026, q1027] => some (.x0 q1026 q1027)
      | _, _, _ => none)
    | _ => (match ex, vs, bs, ts with
      | .normal, [.ptr 2 0, .ptr 3 0], [.cells none [.d (.bytes o1028), .d (.val (.bool o1029))], .cells (some 3) [.d (.val (.int .i64 o1030))], .cells (some 26) [.d (.val (.int .i64 o1031)), .d (.val (.int .i64 o1032)), .d (.val (.int .i64 o1033)), .d (.val (.string o1034)), .osl 0 o1035], .cells (some 26) [.d (.val (.int .i64 o1036)), .d (.val (.int .i64 o1037)), .d (.val (.int .i64 o1038)), .d (.val (.string o1039)), .osl 1 o1040]], [_, _] => some (.x1 o1028 o1029 o1030 o1031 o1032 o1033 o1034 o1035 o1036 o1037 o1038 o1039 o1040)
      | _, _, _, _ => none)
  exO := fun x => match x with
    | .x0 q1026 q1027 => (.panic (.d (.val (.iface 88 (.agg #[])))))
    | .x1 o1028 o1029 o1030 o1031 o1032 o1033 o1034 o1035 o1036 o1037 o1038 o1039 o1040 => .normal
  outV := fun x => match x with
    | .x0 q1026 q1027 => [.undef, .undef]
    | .x1 o1028 o1029 o1030 o1031 o1032 o1033 o1034 o1035 o1036 o1037 o1038 o1039 o1040 => [.ptr 2 0, .ptr 3 0]
  outB := fun x => match x with
    | .x0 q1026 q1027 => [.gone, .gone, .gone, .gone]
    | .x1 o1028 o1029 o1030 o1031 o1032 o1033 o1034 o1035 o1036 o1037 o1038 o1039 o1040 => [.cells none [.d (.bytes o1028), .d (.val (.bool o1029))], .cells (some 3) [.d (.val (.int .i64 o1030))], .cells (some 26) [.d (.val (.int .i64 o1031)), .d (.val (.int .i64 o1032)), .d (.val (.int .i64 o1033)), .d (.val (.string o1034)), .osl 0 o1035], .cells (some 26) [.d (.val (.int .i64 o1036)), .d (.val (.int .i64 o1037)), .d (.val (.int .i64 o1038)), .d (.val (.string o1039)), .osl 1 o1040]]
  tkO := fun x => match x with
    | .x0 q1026 q1027 => [q1026, q1027]
    | .x1 o1028 o1029 o1030 o1031 o1032 o1033 o1034 o1035 o1036 o1037 o1038 o1039 o1040 => [o1035.length, o1040.length]
  elim := fun x k => match x with
    | .x0 q1026 q1027 => k (.panic (.d (.val (.iface 88 (.agg #[]))))) [.undef, .undef] [.gone, .gone, .gone, .gone] [q1026, q1027]
    | .x1 o1028 o1029 o1030 o1031 o1032 o1033 o1034 o1035 o1036 o1037 o1038 o1039 o1040 => k .normal [.ptr 2 0, .ptr 3 0] [.cells none [.d (.bytes o1028), .d (.val (.bool o1029))], .cells (some 3) [.d (.val (.int .i64 o1030))], .cells (some 26) [.d (.val (.int .i64 o1031)), .d (.val (.int .i64 o1032)), .d (.val (.int .i64 o1033)), .d (.val (.string o1034)), .osl 0 o1035], .cells (some 26) [.d (.val (.int .i64 o1036)), .d (.val (.int .i64 o1037)), .d (.val (.int .i64 o1038)), .d (.val (.string o1039)), .osl 1 o1040]] [o1035.length, o1040.length]
theorem k49_1 : l49_1.Ok where
  ok1 := by kernel_rfl
  ok2 := by kernel_rfl
  dec := by
    intro vs bs ts a h
    delta l49_1 at h ⊢
    dsimp only at h ⊢
    split at h
    · cases h; exact ⟨rfl, rfl⟩
    · cases h
  out := by
    intro ex vs bs ts o h
    delta l49_1 at h ⊢
    dsimp only at h ⊢
    split at h
    · rename_i hp
      split at h
      · cases h; exact ⟨payOf_some hp, rfl, rfl⟩
      · cases h
    · split at h
      · cases h; exact ⟨rfl, rfl, rfl⟩
      · cases h
  len := fun _ => ⟨rfl, rfl⟩
  elim := fun β o k => by cases o <;> rfl
def L49_1 {σ : Type} (F49 : PT49 → Option RT49) : Nat → A49_1 → σ → Option (O49_1 × σ)
  | 0, _, _ => none
  | n+1, (v1007, v1008, v1009, v1010, v1011, v1012, v1013, v1014, v1015, v1016, v1017, v1018, v1019, v1020, v1021, v1022), s => (bif (decide (v1009 < v1008)) then ((F49 (v1010, v1011, v1012, (w64 (v1007 + 1)))).bind fun y1023 => match y1023 with | .inl z1024 => (ask (addOk v1022.length v1022 ([.agg [.val (.int .i64 z1024.1), .val (.int .i64 z1024.2.1), .val (.int .i64 z1024.2.2.1), .val (.string z1024.2.2.2.1), .slice z1024.2.2.2.2.1]] : List D) 5 64) (ask (([v1017.length, (v1022.length + ([.agg [.val (.int .i64 z1024.1), .val (.int .i64 z1024.2.1), .val (.int .i64 z1024.2.2.1), .val (.string z1024.2.2.2.1), .slice z1024.2.2.2.2.1]] : List D).length)] : List Nat) = [v1017.length, (v1022 ++ ([.agg [.val (.int .i64 z1024.1), .val (.int .i64 z1024.2.1), .val (.int .i64 z1024.2.2.1), .val (.string z1024.2.2.2.1), .slice z1024.2.2.2.2.1]] : List D)).length]) (L49_1 F49 n (v1007, v1008, (wu64 (v1009 + 1)), z1024.2.2.2.2.2.1, z1024.2.2.2.2.2.2.1, z1024.2.2.2.2.2.2.2, v1013, v1014, v1015, v1016, v1017, v1018, v1019, v1020, v1021, (v1022 ++ ([.agg [.val (.int .i64 z1024.1), .val (.int .i64 z1024.2.1), .val (.int .i64 z1024.2.2.1), .val (.string z1024.2.2.2.1), .slice z1024.2.2.2.2.1]] : List D))) s))) | .inr q1025 => (ask (([v1017.length, v1022.length] : List Nat) = [v1017.length, v1022.length]) (some (O49_1.x0 v1017.length v1022.length, s)))) else (ask (([v1017.length, v1022.length] : List Nat) = [v1017.length, v1022.length]) (some (O49_1.x1 v1010 v1011 v1012 v1013 v1014 v1015 v1016 v1017 v1018 v1019 v1020 v1021 v1022, s))))
def dM49 (av : List AV) (bs : List Box) (ts : List Nat) : Option (ByteArray × Bool × Int × Int) := match av, bs, ts with
  | [.ptr 0 0, .d (.val (.int .i64 a2)), .ptr 1 0], [.cells none [.d (.bytes a0), .d (.val (.bool a1))], .cells (some 3) [.d (.val (.int .i64 a3))]], [] => some (a0, a1, a3, a2)
  | _, _, _ => none
def aM49 : (ByteArray × Bool × Int × Int) → List AV := fun (a0, a1, a3, a2) => [.ptr 0 0, .d (.val (.int .i64 a2)), .ptr 1 0]
def bM49 : (ByteArray × Bool × Int × Int) → List Box := fun (a0, a1, a3, a2) => [.cells none [.d (.bytes a0), .d (.val (.bool a1))], .cells (some 3) [.d (.val (.int .i64 a3))]]
def tM49 : (ByteArray × Bool × Int × Int) → List Nat := fun _ => []
def vM49 : (Int × Int × Int × ByteArray × List D × ByteArray × Bool × Int) → AV := fun (a4, a5, a6, a7, a8, p9, p10, p11) => PR.av (.one (.agg [.val (.int .i64 a4), .val (.int .i64 a5), .val (.int .i64 a6), .val (.string a7), .slice a8]))
def cM49 : (Int × Int × Int × ByteArray × List D × ByteArray × Bool × Int) → List Box := fun (a4, a5, a6, a7, a8, p9, p10, p11) => [.cells none [.d (.bytes p9), .d (.val (.bool p10))], .cells (some 3) [.d (.val (.int .i64 p11))]]
def kM49 : (Int × Int × Int × ByteArray × List D × ByteArray × Bool × Int) → List Nat := fun _ => []
def qM49 : (Unit) → Value := fun () => .iface 88 (.agg #[])
def rM49 (o : Out) (bs : List Box) (ts : List Nat) : Option RT49 := match o, payO o, bs, ts with
  | .ret v, _, [.cells none [.d (.bytes p9), .d (.val (.bool p10))], .cells (some 3) [.d (.val (.int .i64 p11))]], [] => (match toPR v with | some (.one (.agg [.val (.int .i64 a4), .val (.int .i64 a5), .val (.int .i64 a6), .val (.string a7), .slice a8])) => some (.inl (a4, a5, a6, a7, a8, p9, p10, p11)) | _ => none)
  | _, some (88, []), [.gone, .gone], [] => some (.inr ())
  | _, _, _, _ => none
def s49 (F49 : PT49 → Option RT49) : PT49 → Option RT49 := fun (a0, a1, a3, a2) => (bif (bif (decide ((w64 (a3 + 1)) > 4096)) then true else (decide (a2 > 16))) then (some (.inr ())) else ((n103 (a0, a1)).bind fun y1000 => (bif (y1000.2.1 != 0) then (some (.inr ())) else (bif ((w64 y1000.1) == 2) then ((n104 (y1000.2.2.1, y1000.2.2.2)).bind fun y1001 => (bif (y1001.2.1 != 0) then (some (.inr ())) else (some (.inl ((w64 y1000.1), y1001.1, 0, (⟨#[]⟩ : ByteArray), ([] : List D), y1001.2.2.1, y1001.2.2.2, (w64 (a3 + 1))))))) else (bif ((w64 y1000.1) == 1) then ((n103 (y1000.2.2.1, y1000.2.2.2)).bind fun y1002 => (bif (y1002.2.1 != 0) then (some (.inr ())) else (some (.inl ((w64 y1000.1), (w64 y1002.1), 0, (⟨#[]⟩ : ByteArray), ([] : List D), y1002.2.2.1, y1002.2.2.2, (w64 (a3 + 1))))))) else (bif ((w64 y1000.1) == 4) then ((n105 (y1000.2.2.1, y1000.2.2.2)).bind fun y1003 => (bif (y1003.2.1 != 0) then (some (.inr ())) else (some (.inl ((w64 y1000.1), 0, 0, y1003.1, ([] : List D), y1003.2.2.1, y1003.2.2.2, (w64 (a3 + 1))))))) else (bif ((w64 y1000.1) == 3) then ((n104 (y1000.2.2.1, y1000.2.2.2)).bind fun y1004 => (bif (y1004.2.1 != 0) then (some (.inr ())) else ((n104 (y1004.2.2.1, y1004.2.2.2)).bind fun y1005 => (bif (y1005.2.1 != 0) then (some (.inr ())) else (some (.inl ((w64 y1000.1), y1004.1, y1005.1, (⟨#[]⟩ : ByteArray), ([] : List D), y1005.2.2.1, y1005.2.2.2, (w64 (a3 + 1))))))))) else (bif ((w64 y1000.1) == 5) then ((n88 (y1000.2.2.1, y1000.2.2.2)).bind fun y1006 => (bif (y1006.2.1 != 0) then (some (.inr ())) else (bif (decide (y1006.1 > 4096)) then (some (.inr ())) else (ask (([0, 0] : List Nat) = [([] : List D).length, ([] : List D).length]) ((L49_1 F49 1000000000000 (a2, y1006.1, 0, y1006.2.2.1, y1006.2.2.2, (w64 (a3 + 1)), 0, 0, 0, (⟨#[]⟩ : ByteArray), ([] : List D), (w64 y1000.1), 0, 0, (⟨#[]⟩ : ByteArray), ([] : List D)) ()).bind fun p1041 => match p1041.1 with | .x0 z1042 z1043 => (some (.inr ())) | .x1 z1044 z1045 z1046 z1047 z1048 z1049 z1050 z1051 z1052 z1053 z1054 z1055 z1056 => (some (.inl (z1052, z1053, z1054, z1055, z1056, z1044, z1045, z1046)))))))) else (bif ((w64 y1000.1) == 6) then ((n88 (y1000.2.2.1, y1000.2.2.2)).bind fun y1057 => (bif (y1057.2.1 != 0) then (some (.inr ())) else (bif (decide (y1057.1 > 4096)) then (some (.inr ())) else (ask (([0, 0] : List Nat) = [([] : List D).length, ([] : List D).length]) ((L49_1 F49 1000000000000 (a2, y1057.1, 0, y1057.2.2.1, y1057.2.2.2, (w64 (a3 + 1)), 0, 0, 0, (⟨#[]⟩ : ByteArray), ([] : List D), (w64 y1000.1), 0, 0, (⟨#[]⟩ : ByteArray), ([] : List D)) ()).bind fun p1092 => match p1092.1 with | .x0 z1093 z1094 => (some (.inr ())) | .x1 z1095 z1096 z1097 z1098 z1099 z1100 z1101 z1102 z1103 z1104 z1105 z1106 z1107 => (some (.inl (z1103, z1104, z1105, z1106, z1107, z1095, z1096, z1097)))))))) else (bif ((w64 y1000.1) == 7) then ((n88 (y1000.2.2.1, y1000.2.2.2)).bind fun y1108 => (bif (y1108.2.1 != 0) then (some (.inr ())) else (bif (decide (y1108.1 > 4096)) then (some (.inr ())) else (ask (([0, 0] : List Nat) = [([] : List D).length, ([] : List D).length]) ((L49_1 F49 1000000000000 (a2, y1108.1, 0, y1108.2.2.1, y1108.2.2.2, (w64 (a3 + 1)), 0, 0, 0, (⟨#[]⟩ : ByteArray), ([] : List D), (w64 y1000.1), 0, 0, (⟨#[]⟩ : ByteArray), ([] : List D)) ()).bind fun p1143 => match p1143.1 with | .x0 z1144 z1145 => (some (.inr ())) | .x1 z1146 z1147 z1148 z1149 z1150 z1151 z1152 z1153 z1154 z1155 z1156 z1157 z1158 => (some (.inl (z1154, z1155, z1156, z1157, z1158, z1146, z1147, z1148)))))))) else (some (.inr ()))))))))))))
def nG2 : Nat → (PT49 → Option RT49)
  | 0 => fun _ => none
  | k + 1 => s49 (nG2 k)
def n49 (k : Nat) : PT49 → Option RT49 := (nG2 k)
def eP49 (k : Nat) : MethP := methP dM49 (n49 k) vM49 cM49 kM49 qM49 [.gone, .gone]
noncomputable def tabsG2 (gl : Nat → Option (List D)) (k : Nat) : Tabs := methAt (tabsS4 gl) 49 (eP49 k)
def g49 (k : Nat) {σ : Type} : Nat → Option (SegE σ)
  | 1 => some (l49_1.seg σ (L49_1 (n49 k) 1000000000000))
  | _ => none
theorem E49_1 {σ : Type} (k : Nat) (Y : Yd σ) : ∀ n a (s : σ), L49_1 (n49 k) (n + 1) a s = evK (cfgOf Tryz.prog (tabsG2 gl k) tS7) (toldOf tS7) Y (inlN (cfgOf Tryz.prog (tabsG2 gl k) tS7) (toldOf tS7) Y) (g49 k) 49 (loopAt Tryz.f49 1) ((l49_1.toT σ).enc a s) (fun ex st' => l49_1.next (cfgOf Tryz.prog (tabsG2 gl k) tS7) 49 1 (L49_1 (n49 k) n) ex st') := by
  intro n ⟨v1007, v1008, v1009, v1010, v1011, v1012, v1013, v1014, v1015, v1016, v1017, v1018, v1019, v1020, v1021, v1022⟩ s
  kernel_rfl
theorem Q49_1 {σ : Type} (hl : LibFits gl) (k : Nat) (Y : Yd σ) (rnd : Bool) : SegOk (cfgOf Tryz.prog (tabsG2 gl k) tS7) (evFn (cfgOf Tryz.prog (tabsG2 gl k) tS7) 9) 49 rnd Y (l49_1.seg σ (L49_1 (n49 k) 1000000000000)) (.block 1 (.loop (loopAt Tryz.f49 1))) :=
  told_loop (okS7 hl) k49_1 (by kernel_rfl) (by kernel_rfl) (fun _ _ => rfl) (segs_no (by kernel_rfl)) (E49_1 k Y) (hr := by kernel_rfl)
theorem N49 : ∀ k a, n49 (k + 1) a = bodyK (cfgOf Tryz.prog (tabsG2 gl k) tS7) (toldOf tS7) noY (inlN (cfgOf Tryz.prog (tabsG2 gl k) tS7) (toldOf tS7) noY) (g49 k) 49 Tryz.f49 (aM49 a) (bM49 a) (tM49 a) () (fun v b tk _ => rM49 v b tk) := by
  intro k a
  obtain ⟨a0, a1, a3, a2⟩ := a
  kernel_rfl
theorem om49 (hl : LibFits gl) (k : Nat) (hk : MethSound Tryz.prog gl (tabsG2 gl k).meth) : MethSound Tryz.prog gl (fun g => bif Nat.beq g 49 then some (eP49 (k + 1)) else (tabsG2 gl k).meth g) :=
  told_methP (t := tabsG2 gl k) (okS7 hl) mixed (oddOkS4 hl) hk Tryz.func49 (by kernel_rfl) (argsOf := aM49) (boxOf := bM49) (tokOf := tM49) (res := rM49) (seg := g49 k) (by kernel_rfl) (fun p hp e he => by
    have hq : segsOf (σ := Unit) (g49 k (σ := Unit)) (bodyOf Tryz.f49) = [(1, .loop (loopAt Tryz.f49 1))] := by kernel_rfl
    rw [hq] at hp
    simp only [List.mem_cons, List.not_mem_nil, or_false] at hp
    subst hp
    cases he
    exact Q49_1 hl k _ _)
    (fun av bs ts a h => by
      unfold dM49 at h
      split at h
      · cases h; exact ⟨rfl, rfl, rfl⟩
      · cases h)
    (fun v b tk o h => by
      unfold rM49 at h
      split at h
      · split at h
        · rename_i hp; cases h; exact ⟨⟨_, _, rfl, hp, rfl⟩, rfl, rfl⟩
        · cases h
      · rename_i hp; cases h; exact ⟨payO_some hp, rfl, rfl⟩
      · cases h)
    (N49 k)
theorem omG2 (hl : LibFits gl) : ∀ k, MethSound Tryz.prog gl (tabsG2 gl k).meth
  | 0 => (MethSound.zero (fun _ => rfl) (methOkS4 hl))
  | k + 1 => (MethSound.join (om49 hl k (omG2 hl k)) (methOkS4 hl))
noncomputable def tabsS8 (gl : Nat → Option (List D)) : Tabs := { tabsS4 gl with odd := fun g => (tabsS4 gl).odd g, meth := (tabsG2 gl 64).meth }
theorem oddOkS8 (hl : LibFits gl) : OddSound Tryz.prog gl (tabsS8 gl).odd := (oddOkS4 hl)
theorem methOkS8 (hl : LibFits gl) : MethSound Tryz.prog gl (tabsS8 gl).meth := omG2 hl 64
noncomputable def tS8 : Tab := (14, e14) :: tS7
theorem okS8 (hl : LibFits gl) : TabOk Tryz.prog gl tS8 :=
  TabOk.cons (okS7 hl) ((ok14 hl).fair (14, e14) (List.mem_cons_self (l := tS7))) ((ok14 hl).spec (14, e14) (List.mem_cons_self (l := tS7)))
def d13 (ds : List D) : Option (ByteArray) := match ds with
  | [.bytes a0] => some a0
  | _ => none
def r13 (v : AV) : Option (Int × Int × Int × ByteArray × List D × Int × Int) := match toPR v with
  | some (.many [.agg [.val (.int .i64 a1), .val (.int .i64 a2), .val (.int .i64 a3), .val (.string a4), .slice a5], .val (.int .i64 a6), .val (.int .i64 a7)]) => some (a1, a2, a3, a4, a5, a6, a7)
  | _ => none
def n13 : ByteArray → Option (Int × Int × Int × ByteArray × List D × Int × Int) := fun a0 => (ask (cloneOkB a0) ((n49 64 (a0, true, 0, 1)).bind fun y8 => match y8 with | .inl z9 => ((n20 (z9.1, z9.2.1, z9.2.2.1, z9.2.2.2.1, z9.2.2.2.2.1)).bind fun y11 => (bif (y11 != 0) then (some (0, 0, 0, (⟨#[]⟩ : ByteArray), ([] : List D), 0, 41)) else ((n50 (z9.2.2.2.2.2.1, z9.2.2.2.2.2.2.1)).bind fun y12 => (some (z9.1, z9.2.1, z9.2.2.1, z9.2.2.2.1, z9.2.2.2.2.1, (w64 (((a0.size : Nat) : Int) - y12.1)), 0))))) | .inr q10 => (some (0, 0, 0, (⟨#[]⟩ : ByteArray), ([] : List D), 0, 41))))
def c13 : Int × Int × Int × ByteArray × List D × Int × Int → PR := fun (a1, a2, a3, a4, a5, a6, a7) => .many [.agg [.val (.int .i64 a1), .val (.int .i64 a2), .val (.int .i64 a3), .val (.string a4), .slice a5], .val (.int .i64 a6), .val (.int .i64 a7)]
def e13 : PureE := mkE d13 n13 (fun (a1, a2, a3, a4, a5, a6, a7) => .many [.agg [.val (.int .i64 a1), .val (.int .i64 a2), .val (.int .i64 a3), .val (.string a4), .slice a5], .val (.int .i64 a6), .val (.int .i64 a7)])
def g13 {σ : Type} : Nat → Option (SegE σ)
  | _ => none
theorem N13 : ∀ a, n13 a = bodyDK (cfgOf Tryz.prog (tabsS8 gl) tS8) (toldOf tS8) noY (inlN (cfgOf Tryz.prog (tabsS8 gl) tS8) (toldOf tS8) noY) g13 13 Tryz.f13 (((fun a0 => [.bytes a0] : (ByteArray) → List D) a).map .d) [] [] () (fun v _ _ _ => r13 v) := by
  intro a0
  kernel_rfl
noncomputable def t13 : Tab := (13, e13) :: tS8
theorem ok13 (hl : LibFits gl) : TabOk Tryz.prog gl t13 :=
  told_fnD (okS8 hl) mixed (oddOkS8 hl) (methOkS8 hl) Tryz.func13 (by kernel_rfl) (by kernel_rfl) (by kernel_rfl) (segs_no (by kernel_rfl))
    (args := fun a0 => [.bytes a0]) (res := r13)
    (fun ds a h => by
      unfold d13 at h
      split at h
      · cases h; rfl
      · cases h)
    (fun v r h => by
      unfold r13 at h
      split at h
      · rename_i hv; cases h; exact hv
      · cases h)
    N13
noncomputable def tS9 : Tab := (13, e13) :: tS8
theorem okS9 (hl : LibFits gl) : TabOk Tryz.prog gl tS9 :=
  TabOk.cons (okS8 hl) ((ok13 hl).fair (13, e13) (List.mem_cons_self (l := tS8))) ((ok13 hl).spec (13, e13) (List.mem_cons_self (l := tS8)))
def dMV13 (av : List AV) (bs : List Box) (ts : List Nat) : Option (Nat × Nat × List D) := match av, bs, ts with
  | [.rsb 0 1 a0 a1], [.row 1 a2], [] => some (a0, a1, a2)
  | _, _, _ => none
def aMV13 : (Nat × Nat × List D) → List AV := fun (a0, a1, a2) => [.rsb 0 1 a0 a1]
def bMV13 : (Nat × Nat × List D) → List Box := fun (a0, a1, a2) => [.row 1 a2]
def vMV13 : (Int × Int × Int × ByteArray × List D × Int × Int × List D) → AV := fun (a3, a4, a5, a6, a7, a8, a9, p16) => PR.av (.many [.agg [.val (.int .i64 a3), .val (.int .i64 a4), .val (.int .i64 a5), .val (.string a6), .slice a7], .val (.int .i64 a8), .val (.int .i64 a9)])
def cMV13 : (Int × Int × Int × ByteArray × List D × Int × Int × List D) → List Box := fun (a3, a4, a5, a6, a7, a8, a9, p16) => [.row 1 p16]
def rMV13 (v : AV) (bs : List Box) (ts : List Nat) : Option (Int × Int × Int × ByteArray × List D × Int × Int × List D) := match toPR v, bs, ts with
  | some (.many [.agg [.val (.int .i64 a3), .val (.int .i64 a4), .val (.int .i64 a5), .val (.string a6), .slice a7], .val (.int .i64 a8), .val (.int .i64 a9)]), [.row 1 p16], [] => some (a3, a4, a5, a6, a7, a8, a9, p16)
  | _, _, _ => none
def nV13 : Nat × Nat × List D → Option (Int × Int × Int × ByteArray × List D × Int × Int × List D) := fun (a0, a1, a2) => ((partBytes a0 a1 a2).bind fun b10 => (ask (cloneOkB b10) ((n49 64 (b10, true, 0, 1)).bind fun y11 => match y11 with | .inl z12 => ((n20 (z12.1, z12.2.1, z12.2.2.1, z12.2.2.2.1, z12.2.2.2.2.1)).bind fun y14 => (bif (y14 != 0) then (some (0, 0, 0, (⟨#[]⟩ : ByteArray), ([] : List D), 0, 41, a2)) else ((n50 (z12.2.2.2.2.2.1, z12.2.2.2.2.2.2.1)).bind fun y15 => (some (z12.1, z12.2.1, z12.2.2.1, z12.2.2.2.1, z12.2.2.2.2.1, (w64 (((a1 : Nat) : Int) - y15.1)), 0, a2))))) | .inr q13 => (some (0, 0, 0, (⟨#[]⟩ : ByteArray), ([] : List D), 0, 41, a2)))))
def gV13 {σ : Type} : Nat → Option (SegE σ)
  | _ => none
theorem NV13 : ∀ a, nV13 a = bodyDK (cfgOf Tryz.prog (tabsS8 gl) tS9) (toldOf tS9) noY (inlN (cfgOf Tryz.prog (tabsS8 gl) tS9) (toldOf tS9) noY) gV13 13 Tryz.f13 (aMV13 a) (bMV13 a) [] () (fun v b tk _ => rMV13 v b tk) := by
  intro a
  obtain ⟨a0, a1, a2⟩ := a
  kernel_rfl
theorem omV13 (hl : LibFits gl) : OddSound Tryz.prog gl (fun g => bif Nat.beq g 13 then some (methE 13 dMV13 nV13 (fun _ => vMV13) (fun _ => cMV13) (fun _ _ => [])) else (tabsS8 gl).odd g) :=
  told_methD (t := tabsS8 gl) (okS9 hl) mixed (oddOkS8 hl) (methOkS8 hl) Tryz.func13 (by kernel_rfl) (argsOf := aMV13) (boxOf := bMV13) (tokOf := fun _ => []) (res := fun _ => rMV13) (by kernel_rfl) (segs_no (by kernel_rfl))
    (fun av bs ts a h => by
      unfold dMV13 at h
      split at h
      · cases h; exact ⟨rfl, rfl, rfl⟩
      · cases h)
    (fun _ v b tk o h => by
      unfold rMV13 at h
      split at h
      · rename_i hp; cases h; exact ⟨⟨_, hp, rfl⟩, rfl, rfl⟩
      · cases h)
    NV13
noncomputable def tabsS10 (gl : Nat → Option (List D)) : Tabs := { tabsS8 gl with odd := fun g => bif Nat.beq g 13 then some (rowOr (methE 13 dMV13 nV13 (fun _ => vMV13) (fun _ => cMV13) (fun _ _ => [])) (pureO d13 n13 c13)) else ((tabsS8 gl).odd g) }
theorem oddOkS10 (hl : LibFits gl) : OddSound Tryz.prog gl (tabsS10 gl).odd := OddSound.join (OddSound.rowOr (o := (tabsS8 gl).odd) (omV13 hl) (OddSound.pureO (enc := c13) ((okS9 hl).spec (13, e13) (look_mem (by kernel_rfl))) (oddOkS8 hl)) (oddOkS8 hl)) ((oddOkS8 hl))
theorem methOkS10 (hl : LibFits gl) : MethSound Tryz.prog gl (tabsS10 gl).meth := (methOkS8 hl)
noncomputable abbrev tS10 : Tab := tS9
theorem okS10 (hl : LibFits gl) : TabOk Tryz.prog gl tS10 := okS9 hl
noncomputable def tabsA10 (gl : Nat → Option (List D)) : Tabs := { tabsS10 gl with rowA := [22] }
theorem oddOkA10 (hl : LibFits gl) : OddSound Tryz.prog gl (tabsA10 gl).odd := (oddOkS10 hl)
theorem methOkA10 (hl : LibFits gl) : MethSound Tryz.prog gl (tabsA10 gl).meth := (methOkS10 hl)
abbrev A3_0 := ByteArray × Int × Int × Int × Int × ByteArray × List D × Int × Int × Int × ByteArray × List D
inductive O3_0 where
  | x0 (o19 : Int) (o20 : Int) (o21 : Int) (o22 : ByteArray) (o23 : List D) (o24 : Int) (o25 : Int) (o26 : Int) (o27 : ByteArray) (o28 : List D)
def l3_0 : LoopS A3_0 O3_0 where
  n := 62
  ks := [3, 4, 7, 10]
  kso := [4, 7]
  m := 2
  mt := 0
  decV := fun vs bs ts => match vs, bs, ts with
    | [.d (.bytes v6), .ptr 0 0, .ptr 1 0, .d (.val (.int .i64 v7))], [.cells (some 26) [.d (.val (.int .i64 v8)), .d (.val (.int .i64 v9)), .d (.val (.int .i64 v10)), .d (.val (.string v11)), .d (.slice v12)], .cells (some 26) [.d (.val (.int .i64 v13)), .d (.val (.int .i64 v14)), .d (.val (.int .i64 v15)), .d (.val (.string v16)), .d (.slice v17)]], [] => some (v6, v7, v8, v9, v10, v11, v12, v13, v14, v15, v16, v17)
    | _, _, _ => none
  encV := fun (v6, v7, v8, v9, v10, v11, v12, v13, v14, v15, v16, v17) => [.d (.bytes v6), .ptr 0 0, .ptr 1 0, .d (.val (.int .i64 v7))]
  encB := fun (v6, v7, v8, v9, v10, v11, v12, v13, v14, v15, v16, v17) => [.cells (some 26) [.d (.val (.int .i64 v8)), .d (.val (.int .i64 v9)), .d (.val (.int .i64 v10)), .d (.val (.string v11)), .d (.slice v12)], .cells (some 26) [.d (.val (.int .i64 v13)), .d (.val (.int .i64 v14)), .d (.val (.int .i64 v15)), .d (.val (.string v16)), .d (.slice v17)]]
  tk := fun _ => []
  decO := fun ex vs bs ts => match ex, vs, bs, ts with
    | .normal, [.ptr 0 0, .ptr 1 0], [.cells (some 26) [.d (.val (.int .i64 o19)), .d (.val (.int .i64 o20)), .d (.val (.int .i64 o21)), .d (.val (.string o22)), .d (.slice o23)], .cells (some 26) [.d (.val (.int .i64 o24)), .d (.val (.int .i64 o25)), .d (.val (.int .i64 o26)), .d (.val (.string o27)), .d (.slice o28)]], [] => some (.x0 o19 o20 o21 o22 o23 o24 o25 o26 o27 o28)
    | _, _, _, _ => none
  exO := fun x => match x with
    | .x0 o19 o20 o21 o22 o23 o24 o25 o26 o27 o28 => .normal
  outV := fun x => match x with
    | .x0 o19 o20 o21 o22 o23 o24 o25 o26 o27 o28 => [.ptr 0 0, .ptr 1 0]
  outB := fun x => match x with
    | .x0 o19 o20 o21 o22 o23 o24 o25 o26 o27 o28 => [.cells (some 26) [.d (.val (.int .i64 o19)), .d (.val (.int .i64 o20)), .d (.val (.int .i64 o21)), .d (.val (.string o22)), .d (.slice o23)], .cells (some 26) [.d (.val (.int .i64 o24)), .d (.val (.int .i64 o25)), .d (.val (.int .i64 o26)), .d (.val (.string o27)), .d (.slice o28)]]
  tkO := fun x => match x with
    | .x0 o19 o20 o21 o22 o23 o24 o25 o26 o27 o28 => []
  elim := fun x k => match x with
    | .x0 o19 o20 o21 o22 o23 o24 o25 o26 o27 o28 => k .normal [.ptr 0 0, .ptr 1 0] [.cells (some 26) [.d (.val (.int .i64 o19)), .d (.val (.int .i64 o20)), .d (.val (.int .i64 o21)), .d (.val (.string o22)), .d (.slice o23)], .cells (some 26) [.d (.val (.int .i64 o24)), .d (.val (.int .i64 o25)), .d (.val (.int .i64 o26)), .d (.val (.string o27)), .d (.slice o28)]] []
theorem k3_0 : l3_0.Ok where
  ok1 := by kernel_rfl
  ok2 := by kernel_rfl
  dec := by
    intro vs bs ts a h
    simp only [l3_0] at h ⊢
    split at h
    · cases h; exact ⟨rfl, rfl⟩
    · cases h
  out := by
    intro ex vs bs ts o h
    simp only [l3_0] at h ⊢
    split at h
    · cases h; exact ⟨rfl, rfl, rfl⟩
    · cases h
  len := fun _ => ⟨rfl, rfl⟩
  elim := fun β o k => by cases o <;> rfl
def L3_0 {σ : Type} : Nat → A3_0 → σ → Option (O3_0 × σ)
  | 0, _, _ => none
  | n+1, (v6, v7, v8, v9, v10, v11, v12, v13, v14, v15, v16, v17), s => (bif (decide (v7 < ((v6.size : Nat) : Int))) then ((sidx v6 v7).bind fun c18 => none) else (some (O3_0.x0 v8 v9 v10 v11 v12 v13 v14 v15 v16 v17, s)))
abbrev A3_0v1 := Nat × Nat × Int × List D × Int × Int × Int × ByteArray × List D × Int × Int × Int × ByteArray × List D
inductive O3_0v1 where
  | x0 (o62 : List D) (o63 : Int) (o64 : Int) (o65 : Int) (o66 : ByteArray) (o67 : List D) (o68 : Int) (o69 : Int) (o70 : Int) (o71 : ByteArray) (o72 : List D)
def l3_0v1 : LoopS A3_0v1 O3_0v1 where
  n := 62
  ks := [3, 4, 7, 10]
  kso := [4, 7]
  m := 3
  mt := 0
  decV := fun vs bs ts => match vs, bs, ts with
    | [.rsb 0 1 v47 v48, .ptr 1 0, .ptr 2 0, .d (.val (.int .i64 v49))], [.row 1 v50, .cells (some 26) [.d (.val (.int .i64 v51)), .d (.val (.int .i64 v52)), .d (.val (.int .i64 v53)), .d (.val (.string v54)), .d (.slice v55)], .cells (some 26) [.d (.val (.int .i64 v56)), .d (.val (.int .i64 v57)), .d (.val (.int .i64 v58)), .d (.val (.string v59)), .d (.slice v60)]], [] => some (v47, v48, v49, v50, v51, v52, v53, v54, v55, v56, v57, v58, v59, v60)
    | _, _, _ => none
  encV := fun (v47, v48, v49, v50, v51, v52, v53, v54, v55, v56, v57, v58, v59, v60) => [.rsb 0 1 v47 v48, .ptr 1 0, .ptr 2 0, .d (.val (.int .i64 v49))]
  encB := fun (v47, v48, v49, v50, v51, v52, v53, v54, v55, v56, v57, v58, v59, v60) => [.row 1 v50, .cells (some 26) [.d (.val (.int .i64 v51)), .d (.val (.int .i64 v52)), .d (.val (.int .i64 v53)), .d (.val (.string v54)), .d (.slice v55)], .cells (some 26) [.d (.val (.int .i64 v56)), .d (.val (.int .i64 v57)), .d (.val (.int .i64 v58)), .d (.val (.string v59)), .d (.slice v60)]]
  tk := fun _ => []
  decO := fun ex vs bs ts => match ex, vs, bs, ts with
    | .normal, [.ptr 1 0, .ptr 2 0], [.row 1 o62, .cells (some 26) [.d (.val (.int .i64 o63)), .d (.val (.int .i64 o64)), .d (.val (.int .i64 o65)), .d (.val (.string o66)), .d (.slice o67)], .cells (some 26) [.d (.val (.int .i64 o68)), .d (.val (.int .i64 o69)), .d (.val (.int .i64 o70)), .d (.val (.string o71)), .d (.slice o72)]], [] => some (.x0 o62 o63 o64 o65 o66 o67 o68 o69 o70 o71 o72)
    | _, _, _, _ => none
  exO := fun x => match x with
    | .x0 o62 o63 o64 o65 o66 o67 o68 o69 o70 o71 o72 => .normal
  outV := fun x => match x with
    | .x0 o62 o63 o64 o65 o66 o67 o68 o69 o70 o71 o72 => [.ptr 1 0, .ptr 2 0]
  outB := fun x => match x with
    | .x0 o62 o63 o64 o65 o66 o67 o68 o69 o70 o71 o72 => [.row 1 o62, .cells (some 26) [.d (.val (.int .i64 o63)), .d (.val (.int .i64 o64)), .d (.val (.int .i64 o65)), .d (.val (.string o66)), .d (.slice o67)], .cells (some 26) [.d (.val (.int .i64 o68)), .d (.val (.int .i64 o69)), .d (.val (.int .i64 o70)), .d (.val (.string o71)), .d (.slice o72)]]
  tkO := fun x => match x with
    | .x0 o62 o63 o64 o65 o66 o67 o68 o69 o70 o71 o72 => []
  elim := fun x k => match x with
    | .x0 o62 o63 o64 o65 o66 o67 o68 o69 o70 o71 o72 => k .normal [.ptr 1 0, .ptr 2 0] [.row 1 o62, .cells (some 26) [.d (.val (.int .i64 o63)), .d (.val (.int .i64 o64)), .d (.val (.int .i64 o65)), .d (.val (.string o66)), .d (.slice o67)], .cells (some 26) [.d (.val (.int .i64 o68)), .d (.val (.int .i64 o69)), .d (.val (.int .i64 o70)), .d (.val (.string o71)), .d (.slice o72)]] []
theorem k3_0v1 : l3_0v1.Ok where
  ok1 := by kernel_rfl
  ok2 := by kernel_rfl
  dec := by
    intro vs bs ts a h
    simp only [l3_0v1] at h ⊢
    split at h
    · cases h; exact ⟨rfl, rfl⟩
    · cases h
  out := by
    intro ex vs bs ts o h
    simp only [l3_0v1] at h ⊢
    split at h
    · cases h; exact ⟨rfl, rfl, rfl⟩
    · cases h
  len := fun _ => ⟨rfl, rfl⟩
  elim := fun β o k => by cases o <;> rfl
def L3_0v1 {σ : Type} : Nat → A3_0v1 → σ → Option (O3_0v1 × σ)
  | 0, _, _ => none
  | n+1, (v47, v48, v49, v50, v51, v52, v53, v54, v55, v56, v57, v58, v59, v60), s => (bif (decide (v49 < ((v48 : Nat) : Int))) then (ask (rowIn v49 v48) (((v50)[(v47 + Int.toNat v49)]?).bind fun d61 => ask (d61.cells.length = 1) (L3_0v1 n (v47, v48, (w64 (v49 + 1)), (List.set v50 (v47 + Int.toNat v49) (D.put d61 0 ([.val (.int .u8 255)] : List D))), v51, v52, v53, v54, v55, v56, v57, v58, v59, v60) s))) else (some (O3_0v1.x0 v50 v51 v52 v53 v54 v55 v56 v57 v58 v59 v60, s)))
def d3 (ds : List D) : Option (ByteArray) := match ds with
  | [.bytes a0] => some a0
  | _ => none
def r3 (v : AV) : Option (Bool) := match toPR v with
  | some (.one (.val (.bool a1))) => some a1
  | _ => none
def n3 : ByteArray → Option (Bool) := fun a0 => (bif Nat.beq a0.size 0 then ((n13 ByteArray.empty).bind fun y2 => ((n14 a0).bind fun y3 => ((n15 y2.2.2.2.2.2.2).bind fun y4 => (bif (bif (y4 != y3.2.2.2.2.2.2) then true else (y2.2.2.2.2.2.1 != y3.2.2.2.2.2.1)) then (some false) else ((n16 64 (y2.1, y2.2.1, y2.2.2.1, y2.2.2.2.1, y2.2.2.2.2.1, y3.1, y3.2.1, y3.2.2.1, y3.2.2.2.1, y3.2.2.2.2.1)).bind fun y5 => (bif (!y5) then (some false) else (bif (!(sEq ByteArray.empty a0)) then (some false) else ((L3_0 1000000000000 (ByteArray.empty, 0, y2.1, y2.2.1, y2.2.2.1, y2.2.2.2.1, y2.2.2.2.2.1, y3.1, y3.2.1, y3.2.2.1, y3.2.2.2.1, y3.2.2.2.2.1) ()).bind fun p29 => match p29.1 with | .x0 z30 z31 z32 z33 z34 z35 z36 z37 z38 z39 => ((n16 64 (z30, z31, z32, z33, z34, z35, z36, z37, z38, z39)).bind fun y40 => (bif y40 then ((n17 ()).bind fun y41 => (some y41)) else (some false))))))))))) else (ask (newBOk a0 1) ((nV13 (0, a0.size, (bytesD a0))).bind fun y42 => ((n14 a0).bind fun y43 => ((n15 y42.2.2.2.2.2.2.1).bind fun y44 => (bif (bif (y44 != y43.2.2.2.2.2.2) then true else (y42.2.2.2.2.2.1 != y43.2.2.2.2.2.1)) then (some false) else ((n16 64 (y42.1, y42.2.1, y42.2.2.1, y42.2.2.2.1, y42.2.2.2.2.1, y43.1, y43.2.1, y43.2.2.1, y43.2.2.2.1, y43.2.2.2.2.1)).bind fun y45 => (bif (!y45) then (some false) else ((partBytes 0 a0.size y42.2.2.2.2.2.2.2).bind fun t46 => (bif (!(sEq t46 a0)) then (some false) else ((L3_0v1 1000000000000 (0, a0.size, 0, y42.2.2.2.2.2.2.2, y42.1, y42.2.1, y42.2.2.1, y42.2.2.2.1, y42.2.2.2.2.1, y43.1, y43.2.1, y43.2.2.1, y43.2.2.2.1, y43.2.2.2.2.1) ()).bind fun p73 => match p73.1 with | .x0 z74 z75 z76 z77 z78 z79 z80 z81 z82 z83 z84 => ((n16 64 (z75, z76, z77, z78, z79, z80, z81, z82, z83, z84)).bind fun y85 => (bif y85 then ((n17 ()).bind fun y86 => (some y86)) else (some false))))))))))))))
def e3 : PureE := mkE d3 n3 (fun a1 => .one (.val (.bool a1)))
def g3 {σ : Type} : Nat → Option (SegE σ)
  | 0 => some (segOr (fun st => ((l3_0.toT σ).dec st).isSome) (l3_0.seg σ (L3_0 1000000000000)) (l3_0v1.seg σ (L3_0v1 1000000000000)))
  | _ => none
theorem E3_0 {σ : Type} (Y : Yd σ) : ∀ n a (s : σ), L3_0 (n + 1) a s = evK (cfgOf Tryz.prog (tabsA10 gl) tS10) (toldOf tS10) Y (inlN (cfgOf Tryz.prog (tabsA10 gl) tS10) (toldOf tS10) Y) g3 3 (loopAt Tryz.f3 0) ((l3_0.toT σ).enc a s) (fun ex st' => l3_0.next (cfgOf Tryz.prog (tabsA10 gl) tS10) 3 0 (L3_0 n) ex st') := by
  intro n ⟨v6, v7, v8, v9, v10, v11, v12, v13, v14, v15, v16, v17⟩ s
  kernel_rfl
theorem Q3_0 {σ : Type} (hl : LibFits gl) (Y : Yd σ) (rnd : Bool) : SegOk (cfgOf Tryz.prog (tabsA10 gl) tS10) (evFn (cfgOf Tryz.prog (tabsA10 gl) tS10) 9) 3 rnd Y (l3_0.seg σ (L3_0 1000000000000)) (.block 0 (.loop (loopAt Tryz.f3 0))) :=
  told_loop (okS10 hl) k3_0 (by kernel_rfl) (by kernel_rfl) (fun _ _ => rfl) (segs_no (by kernel_rfl)) (E3_0 Y) (hr := by kernel_rfl)
theorem E3_0v1 {σ : Type} (Y : Yd σ) : ∀ n a (s : σ), L3_0v1 (n + 1) a s = evK (cfgOf Tryz.prog (tabsA10 gl) tS10) (toldOf tS10) Y (inlN (cfgOf Tryz.prog (tabsA10 gl) tS10) (toldOf tS10) Y) g3 3 (loopAt Tryz.f3 0) ((l3_0v1.toT σ).enc a s) (fun ex st' => l3_0v1.next (cfgOf Tryz.prog (tabsA10 gl) tS10) 3 0 (L3_0v1 n) ex st') := by
  intro n ⟨v47, v48, v49, v50, v51, v52, v53, v54, v55, v56, v57, v58, v59, v60⟩ s
  kernel_rfl
theorem Q3_0v1 {σ : Type} (hl : LibFits gl) (Y : Yd σ) (rnd : Bool) : SegOk (cfgOf Tryz.prog (tabsA10 gl) tS10) (evFn (cfgOf Tryz.prog (tabsA10 gl) tS10) 9) 3 rnd Y (l3_0v1.seg σ (L3_0v1 1000000000000)) (.block 0 (.loop (loopAt Tryz.f3 0))) :=
  told_loop (okS10 hl) k3_0v1 (by kernel_rfl) (by kernel_rfl) (fun _ _ => rfl) (segs_no (by kernel_rfl)) (E3_0v1 Y) (hr := by kernel_rfl)
theorem QQ3_0 {σ : Type} (hl : LibFits gl) (Y : Yd σ) (rnd : Bool) : SegOk (cfgOf Tryz.prog (tabsA10 gl) tS10) (evFn (cfgOf Tryz.prog (tabsA10 gl) tS10) 9) 3 rnd Y (segOr (fun st => ((l3_0.toT σ).dec st).isSome) (l3_0.seg σ (L3_0 1000000000000)) (l3_0v1.seg σ (L3_0v1 1000000000000))) (.block 0 (.loop (loopAt Tryz.f3 0))) := (SegOk.or (Q3_0 hl Y rnd) (Q3_0v1 hl Y rnd))
theorem N3 : ∀ a, n3 a = bodyK (cfgOf Tryz.prog (tabsA10 gl) tS10) (toldOf tS10) noY (inlN (cfgOf Tryz.prog (tabsA10 gl) tS10) (toldOf tS10) noY) g3 3 Tryz.f3 (((fun a0 => [.bytes a0] : (ByteArray) → List D) a).map .d) [] [] () (retK fun v _ _ _ => r3 v) := by
  intro a0
  kernel_rfl
noncomputable def t3 : Tab := (3, e3) :: tS10
theorem ok3 (hl : LibFits gl) : TabOk Tryz.prog gl t3 :=
  told_fn (okS10 hl) mixed (oddOkA10 hl) (methOkA10 hl) Tryz.func3 (by kernel_rfl) (by kernel_rfl) (by kernel_rfl) (fun p hp e he => by
    have hq : segsOf (σ := Unit) (g3 (σ := Unit)) (bodyOf Tryz.f3) = [(0, .loop (loopAt Tryz.f3 0))] := by kernel_rfl
    rw [hq] at hp
    simp only [List.mem_cons, List.not_mem_nil, or_false] at hp
    subst hp
    cases he
    exact QQ3_0 hl _ _)
    (args := fun a0 => [.bytes a0]) (res := r3)
    (fun ds a h => by
      unfold d3 at h
      split at h
      · cases h; rfl
      · cases h)
    (fun v r h => by
      unfold r3 at h
      split at h
      · rename_i hv; cases h; exact hv
      · cases h)
    N3
end
end Ev
