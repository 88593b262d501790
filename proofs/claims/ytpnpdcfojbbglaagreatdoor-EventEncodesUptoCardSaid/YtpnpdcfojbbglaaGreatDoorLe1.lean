/- What functions of the program compute, as plain Lean functions, each with its proof by a proved reader; plain laws about them (Le1). -/
import Derived.Test.YtpnpdcfojbbglaaGreatDoorEvPa
import Derived.Test.YtpnpdcfojbbglaaGreatDoorLibAe
import Derived.Test.YtpnpdcfojbbglaaGreatDoorChecked
import Derived.KernelRfl
set_option maxRecDepth 100000
set_option linter.unusedVariables false
namespace Ev
open Go Go.Proofs
noncomputable section
variable {gl : Nat → Option (List D)}
def tabs (gl : Nat → Option (List D)) : Tabs := ⟨[(98, [(5, []), (2, []), (4, []), (3, [1]), (1, [0, 1]), (0, [0, 1])]),
  (95, [(12, [7]), (11, [1, 2, 7, 26, 27, 28]), (10, [7]), (9, [1, 2, 7, 26, 27, 28]), (8, [1, 2, 7, 9, 26, 27, 28]), (7, [1, 2, 7, 26, 27, 28]), (6, [1, 2, 7, 26, 27, 28]), (5, [1, 2, 3, 7]), (4, [7]), (3, [1, 2, 3, 7]), (2, [1, 2, 3]), (1, [1, 2, 3]), (0, [0, 1, 2])]),
  (72, [(1, [1, 2, 3, 4, 5]), (0, [0, 1, 2, 3, 4])]),
  (73, [(1, [0]), (0, [0])]),
  (115, [(1, [0, 1, 2, 3]), (0, [0, 1, 2, 3])]),
  (69, [(9, []), (4, []), (6, [0]), (8, [0]), (7, [0]), (5, [0]), (3, [0]), (2, [0]), (1, [0]), (0, [0])]),
  (75, [(5, []), (4, []), (3, [1]), (2, []), (1, [0, 1]), (0, [0, 1])]),
  (96, [(1, [0]), (0, [0])]),
  (100, [(1, [0]), (0, [])]),
  (9, [(1, [0]), (0, [0])]),
  (36, [(10, [1]), (6, [1, 2, 3, 7]), (9, [1]), (8, [1, 2, 3, 7]), (7, [1, 2, 3, 7]), (5, [1, 2, 3, 7]), (4, [1, 2, 3]), (3, []), (2, [1, 2, 3]), (1, [1, 2, 3]), (0, [0, 1, 2])]),
  (37, [(7, [1, 2]), (6, [1, 2, 3]), (4, [1, 2, 3, 4]), (5, [1, 2, 3, 4]), (3, [1, 2, 3, 4]), (2, [1, 2, 3]), (1, [1, 2]), (0, [0])]),
  (61, [(2, [1, 3]), (1, [1]), (0, [0])]),
  (63, [(18, []), (17, [3, 74, 75, 76]), (16, [9]), (15, [3, 9, 74, 75, 76]), (14, [3, 7, 8, 74, 75, 76]), (13, [3, 74, 75, 76]), (12, [3, 74, 75, 76]), (11, [2, 3]), (10, [2, 3, 63, 64, 65]), (9, [6]), (8, [2, 3, 6, 63, 64, 65]), (7, [2, 3, 63, 64, 65]), (6, [2, 3, 63, 64, 65]), (5, [2, 3]), (4, [2, 3]), (3, [2, 3]), (2, [2, 3]), (1, [2, 3]), (0, [0, 1])]),
  (104, [(22, [1, 4]), (4, [1, 4, 5]), (7, [0, 1, 4, 5]), (6, [0, 1, 4, 5, 6, 7]), (14, [0, 1, 4, 5]), (13, [0, 1, 4, 5, 6, 7]), (12, [0, 1, 4, 5, 6]), (11, [0, 1, 4, 5, 6, 7]), (10, [0, 1, 4, 5, 7]), (9, [0, 1, 4, 5, 6, 7]), (21, [0, 1, 4, 5]), (20, [0, 1, 4, 5, 6, 7]), (19, [0, 1, 4, 5, 6]), (18, [0, 1, 4, 5, 6, 7]), (17, [0, 1, 4, 5, 7]), (16, [0, 1, 4, 5, 6, 7]), (15, [0, 1, 4, 5, 6, 7]), (8, [0, 1, 4, 5, 6, 7]), (5, [0, 1, 4, 5, 6, 7]), (3, [0, 1, 4, 5, 6, 7]), (2, [0, 1, 4, 5]), (1, [0, 1, 4]), (0, [0, 1])]),
  (70, [(1, [0]), (0, [0])]),
  (64, [(7, []), (6, [0, 5, 6]), (5, []), (4, [0, 4, 5, 6]), (3, [0, 5, 6]), (2, [0, 5, 6]), (1, [0]), (0, [0])]),
  (48, [(17, []), (13, [2, 3, 5]), (16, [6]), (15, [2, 3, 5, 6]), (14, [2, 3, 5]), (12, [2, 3, 5]), (11, [2, 3]), (10, [2, 3]), (9, [2, 3]), (8, [2, 3]), (7, [2, 3]), (6, [2, 3]), (5, [2, 3]), (4, [2, 3]), (3, [2, 3]), (2, [2, 3]), (1, [2, 3]), (0, [0, 1])]),
  (15, [(3, [1, 2]), (2, [1, 2]), (1, [1, 2]), (0, [0])]),
  (68, [(7, [3]), (6, [0, 3, 4, 5]), (5, [0, 3, 4, 5]), (4, [0, 3, 4]), (3, [0, 3, 4]), (2, [0, 3]), (1, [0]), (0, [0])]),
  (39, [(10, []), (9, []), (8, [3]), (7, []), (6, [3, 5, 7]), (5, [3, 5, 7]), (4, [3, 7, 8]), (3, [3, 7]), (2, [0, 3]), (1, [0]), (0, [0])]),
  (23, [(1, [2, 3]), (0, [0, 1])]),
  (45, [(9, []), (6, [3, 4]), (8, []), (7, [3, 4]), (5, [3, 4]), (4, [3]), (3, []), (2, [3]), (1, [0]), (0, [0])]),
  (97, [(1, [0]), (0, [0])]),
  (38, [(1, [0]), (0, [0])]),
  (74, [(1, [0]), (0, [0])]),
  (44, [(1, [0]), (0, [0])]),
  (62, [(23, []), (22, [1, 95, 96, 97]), (21, []), (20, [1, 4, 5, 95, 96, 97]), (19, [1, 95, 96, 97]), (18, [1, 95, 96, 97]), (17, [1]), (16, []), (15, [1]), (5, [1, 3]), (7, [1, 3]), (9, [1, 3]), (11, [1]), (3, []), (14, [1, 16]), (13, [1, 16]), (12, [1, 16]), (10, [1, 16]), (8, [1, 3, 16]), (6, [1, 3, 16]), (4, [1, 3, 16]), (2, [1, 3]), (1, [1]), (0, [0])]),
  (47, [(21, []), (18, [1, 3]), (20, []), (19, [1, 3]), (17, [1, 3]), (16, [1]), (4, [1]), (6, [1]), (8, [1]), (10, [1]), (15, []), (14, [1]), (2, []), (13, [1, 5]), (12, [1, 5]), (11, [1, 5]), (9, [1, 5]), (7, [1, 5]), (5, [1, 5]), (3, [1, 5]), (1, [1]), (0, [0])]),
  (34, [(3, []), (2, []), (1, [1]), (0, [0])]),
  (22, [(1, [1]), (0, [0])]),
  (35, [(8, []), (3, [2, 3]), (5, []), (7, []), (6, [6]), (4, [5, 6]), (2, [2, 3, 5, 6]), (1, [2, 3]), (0, [0, 1])]),
  (16, [(8, []), (5, [1]), (7, [1]), (6, [1, 14]), (4, [1, 14]), (3, [1]), (2, []), (1, [1]), (0, [0])]),
  (20, [(5, [1]), (4, [1]), (3, [1]), (2, []), (1, [1]), (0, [0])]),
  (6, [(8, [3]), (4, [0, 3, 4]), (7, [0, 3, 4, 5]), (6, [0, 3, 4, 5]), (5, [0, 3, 4]), (3, [0, 3, 4]), (2, [0, 3]), (1, [0]), (0, [0])]),
  (26, [(5, [0, 3]), (3, [0, 3]), (4, [0, 3]), (2, [0, 3]), (1, [0]), (0, [0])]),
  (93, [(3, [0]), (2, [0]), (1, [0]), (0, [0])]),
  (29, [(3, [0]), (2, [0]), (1, [0]), (0, [0])]),
  (94, [(3, [0]), (2, [0]), (1, [0]), (0, [0])]),
  (26, [(5, [0, 3]), (3, [0, 3]), (4, [0, 3]), (2, [0, 3]), (1, [0]), (0, [0])]),
  (27, [(1, [0]), (0, [0])]),
  (92, [(4, [3]), (3, [3]), (2, [0, 3]), (1, [0]), (0, [0])]),
  (59, [(17, [0]), (16, [0, 56, 57, 58]), (15, [0, 6, 56, 57, 58]), (14, [0, 56, 57, 58]), (13, [0, 56, 57, 58]), (12, [0, 3]), (11, [0, 3]), (4, [0, 3]), (6, [0, 3]), (8, [0, 3]), (10, [0, 3]), (9, [0, 3, 14]), (7, [0, 3, 14]), (5, [0, 3, 14]), (3, [0, 3, 14]), (2, [0, 3]), (1, [0, 3]), (0, [0, 1])]),
  (60, [(16, [3]), (14, [1, 3, 4]), (15, [1, 3, 4]), (13, [1, 3, 4]), (12, [1, 3]), (11, [1, 3]), (4, [1, 3]), (6, [1, 3]), (8, [1, 3]), (10, [1, 3]), (9, [1, 3, 10]), (7, [1, 3, 10]), (5, [1, 3, 10]), (3, [1, 3, 10]), (2, [1, 3]), (1, [1]), (0, [0])]),
  (59, [(17, [0]), (16, [0, 56, 57, 58]), (15, [0, 6, 56, 57, 58]), (14, [0, 56, 57, 58]), (13, [0, 56, 57, 58]), (12, [0, 3]), (11, [0, 3]), (4, [0, 3]), (6, [0, 3]), (8, [0, 3]), (10, [0, 3]), (9, [0, 3, 14]), (7, [0, 3, 14]), (5, [0, 3, 14]), (3, [0, 3, 14]), (2, [0, 3]), (1, [0, 3]), (0, [0, 1])]),
  (31, [(3, [1]), (2, []), (1, [1]), (0, [0])]),
  (28, [(3, [1]), (2, []), (1, [1]), (0, [0])]),
  (30, [(1, [0, 1]), (0, [0, 1])]),
  (29, [(3, [0]), (2, [0]), (1, [0]), (0, [0])]),
  (13, [(13, [4]), (4, [0, 4, 5]), (12, [0, 4, 5, 7]), (11, [0, 4, 5, 6]), (10, [0, 4, 5, 6]), (9, [0, 4, 5, 6]), (8, [0, 4, 5, 6]), (7, []), (6, [0, 4, 5, 6]), (5, [0, 4, 5]), (3, [0, 4, 5]), (2, [0, 4]), (1, [0]), (0, [0])]),
  (12, [(15, [4]), (14, [4, 13, 14, 15]), (13, [4, 7, 13, 14, 15]), (12, [4, 6, 13, 14, 15]), (11, [4, 6, 13, 14, 15]), (10, [4, 6, 13, 14, 15]), (9, [4, 6, 13, 14, 15]), (8, [4, 6, 13, 14, 15]), (7, [4, 6, 13, 14, 15]), (6, []), (5, [4, 6, 13, 14, 15]), (4, [4, 13, 14, 15]), (3, [4, 13, 14, 15]), (2, [0, 4]), (1, [0]), (0, [0])]),
  (4, [(10, [5, 8]), (9, [0, 5]), (7, [0, 3, 5, 7]), (8, [0, 3, 5, 7]), (6, [0, 3, 5, 7]), (5, [0, 3, 5]), (4, []), (3, [0, 3, 4, 5, 6]), (2, [0, 3, 4]), (1, [0]), (0, [0])])],
  [(98, [(0, [4])]),
  (95, [(0, [6, 7]), (1, [1, 2, 6, 7, 26, 27, 28])]),
  (72, []),
  (73, []),
  (115, []),
  (69, [(0, [2])]),
  (75, []),
  (96, []),
  (100, []),
  (9, []),
  (36, [(0, [1, 6]), (1, [1, 2, 3, 6, 7])]),
  (37, [(0, [1, 2, 3]), (1, [1, 2, 3, 4])]),
  (61, []),
  (63, [(2, [4]), (3, [3, 4, 74, 75, 76]), (0, [2, 3, 4]), (1, [2, 3, 4, 63, 64, 65])]),
  (104, [(0, [1, 4])]),
  (70, []),
  (64, [(0, [2]), (1, [0, 2, 5, 6])]),
  (48, [(0, [4]), (1, [2, 3, 4, 5])]),
  (15, []),
  (68, [(0, [3]), (1, [0, 3, 4])]),
  (39, [(0, [2, 3]), (1, [2, 3, 7])]),
  (23, []),
  (45, [(0, [2]), (1, [2, 3, 4])]),
  (97, []),
  (38, []),
  (74, []),
  (44, []),
  (62, [(1, [2]), (2, [1, 2, 95, 96, 97]), (0, [1, 2])]),
  (47, [(1, [2]), (2, [1, 2, 3]), (0, [1, 2])]),
  (34, []),
  (22, []),
  (35, [(0, [4])]),
  (16, [(0, [2])]),
  (20, []),
  (6, [(0, [3]), (1, [0, 3, 4])]),
  (26, [(0, [0, 3]), (1, [0, 3])]),
  (93, []),
  (29, []),
  (94, []),
  (26, [(0, [0, 3]), (1, [0, 3])]),
  (27, []),
  (92, []),
  (59, [(1, [0]), (2, [0, 56, 57, 58]), (0, [0, 3, 4])]),
  (60, [(1, [3]), (2, [1, 3, 4]), (0, [1, 2, 3])]),
  (59, [(1, [0]), (2, [0, 56, 57, 58]), (0, [0, 3, 4])]),
  (31, []),
  (28, []),
  (30, []),
  (29, []),
  (13, [(0, [2, 3, 4]), (1, [0, 2, 3, 4, 5])]),
  (12, [(0, [2, 3, 4]), (1, [2, 3, 4, 13, 14, 15])]),
  (4, [(0, [0, 5]), (1, [0, 3, 5, 7])])],
  [(37, [(2, [(1, 4, false)])])],
  [(95, [(3, [5]), (9, [5])]), (72, [(1, [2])]), (73, [(1, [3])]), (69, [(1, [3]), (2, [3]), (5, [3]), (6, [3]), (7, [3])]), (96, [(1, [3])]), (36, [(2, [3])]), (61, [(2, [4])]), (104, [(5, [3]), (8, [3]), (15, [3])]), (70, [(1, [11])]), (64, [(4, [5])]), (39, [(8, [3])]), (45, [(2, [4])]), (97, [(1, [4, 8])]), (38, [(1, [4, 8])]), (74, [(1, [3, 7])]), (44, [(1, [3, 7])]), (62, [(1, [4]), (5, [2]), (7, [2]), (11, [4, 9]), (15, [4, 9])]), (35, [(2, [2])]), (16, [(7, [4])]), (20, [(5, [4, 9])])],
  [95, 59, 30], [], gl, oddT, [], fun _ => none, [], []⟩
theorem oddOk : OddSound Tryz.prog gl (tabs gl).odd := oddT_sound
theorem methOk : MethSound Tryz.prog gl (tabs gl).meth := MethSound.none
noncomputable def tS0 : Tab := [(11, e11), (155, e155), (50, e50), (170, e170), (101, e101), (99, e99), (180, e180), (42, e42)]
theorem okS0 (hl : LibFits gl) : TabOk Tryz.prog gl tS0 := libAll hl
theorem mixed : Tryz.prog.follows .mixedOrders = true := Tryz.checked.mixed
def d98 (ds : List D) : Option (Bool × Bool) := match ds with
  | [.val (.bool a0), .val (.bool a1)] => some (a0, a1)
  | _ => none
def r98 (v : AV) : Option (Int) := match toPR v with
  | some (.one (.val (.int .i64 a2))) => some a2
  | _ => none
def n98 : Bool × Bool → Option (Int) := fun (a0, a1) => (bif a0 then (some (-1)) else (bif a1 then (some 1) else (some 0)))
def e98 : PureE := mkE d98 n98 (fun a2 => .one (.val (.int .i64 a2)))
def g98 {σ : Type} : Nat → Option (SegE σ)
  | _ => none
theorem N98 : ∀ a, n98 a = bodyK (cfgOf Tryz.prog (tabs gl) tS0) (toldOf tS0) noY (inlN (cfgOf Tryz.prog (tabs gl) tS0) (toldOf tS0) noY) g98 98 Tryz.f98 (((fun (a0, a1) => [.val (.bool a0), .val (.bool a1)] : (Bool × Bool) → List D) a).map .d) [] [] () (retK fun v _ _ _ => r98 v) := by
  intro a
  obtain ⟨a0, a1⟩ := a
  kernel_rfl
noncomputable def t98 : Tab := (98, e98) :: tS0
theorem ok98 (hl : LibFits gl) : TabOk Tryz.prog gl t98 :=
  told_fn (okS0 hl) mixed oddOk methOk Tryz.func98 (by kernel_rfl) (by kernel_rfl) (by kernel_rfl) (segs_no (by kernel_rfl))
    (args := fun (a0, a1) => [.val (.bool a0), .val (.bool a1)]) (res := r98)
    (fun ds a h => by
      unfold d98 at h
      split at h
      · cases h; rfl
      · cases h)
    (fun v r h => by
      unfold r98 at h
      split at h
      · rename_i hv; cases h; exact hv
      · cases h)
    N98
abbrev A95_0 := Int × Int × List D × Int × Int × Int × Int × Int × Int × ByteArray × List D
inductive O95_0 where
  | x0 (o32 : Int) (o33 : Int) (o34 : Int) (o35 : Int) (o36 : Int) (o37 : Int) (o38 : ByteArray) (o39 : List D)
  | x1 (o40 : Int) (o41 : Int) (o42 : Int) (o43 : Int) (o44 : Int) (o45 : ByteArray) (o46 : List D)
def l95_0 : LoopS A95_0 O95_0 where
  n := 50
  ks := [1, 2, 7, 26, 27, 28]
  kso := [6, 7]
  m := 2
  mt := 0
  decV := fun vs bs ts => match vs, bs, ts with
    | [.d (.val (.int .i64 v9)), .ptr 0 0, .d (.val (.int .i64 v10)), .d (.slice v11), .d (.val (.int .i64 v12)), .d (.val (.int .i64 v13))], [.cells (some 3) [.d (.val (.int .i64 v14))], .cells none [.d (.val (.int .i64 v15)), .d (.val (.int .i64 v16)), .d (.val (.int .i64 v17)), .d (.val (.string v18)), .d (.slice v19)]], [] => some (v9, v10, v11, v12, v13, v14, v15, v16, v17, v18, v19)
    | _, _, _ => none
  encV := fun (v9, v10, v11, v12, v13, v14, v15, v16, v17, v18, v19) => [.d (.val (.int .i64 v9)), .ptr 0 0, .d (.val (.int .i64 v10)), .d (.slice v11), .d (.val (.int .i64 v12)), .d (.val (.int .i64 v13))]
  encB := fun (v9, v10, v11, v12, v13, v14, v15, v16, v17, v18, v19) => [.cells (some 3) [.d (.val (.int .i64 v14))], .cells none [.d (.val (.int .i64 v15)), .d (.val (.int .i64 v16)), .d (.val (.int .i64 v17)), .d (.val (.string v18)), .d (.slice v19)]]
  tk := fun _ => []
  decO := fun ex vs bs ts => match ex, vs, bs, ts with
    | .ret, [.d (.val (.int .i64 o32)), .d (.val (.int .i64 o33))], [.cells (some 3) [.d (.val (.int .i64 o34))], .cells none [.d (.val (.int .i64 o35)), .d (.val (.int .i64 o36)), .d (.val (.int .i64 o37)), .d (.val (.string o38)), .d (.slice o39)]], [] => some (.x0 o32 o33 o34 o35 o36 o37 o38 o39)
    | .normal, [.undef, .d (.val (.int .i64 o40))], [.cells (some 3) [.d (.val (.int .i64 o41))], .cells none [.d (.val (.int .i64 o42)), .d (.val (.int .i64 o43)), .d (.val (.int .i64 o44)), .d (.val (.string o45)), .d (.slice o46)]], [] => some (.x1 o40 o41 o42 o43 o44 o45 o46)
    | _, _, _, _ => none
  exO := fun x => match x with
    | .x0 o32 o33 o34 o35 o36 o37 o38 o39 => .ret
    | .x1 o40 o41 o42 o43 o44 o45 o46 => .normal
  outV := fun x => match x with
    | .x0 o32 o33 o34 o35 o36 o37 o38 o39 => [.d (.val (.int .i64 o32)), .d (.val (.int .i64 o33))]
    | .x1 o40 o41 o42 o43 o44 o45 o46 => [.undef, .d (.val (.int .i64 o40))]
  outB := fun x => match x with
    | .x0 o32 o33 o34 o35 o36 o37 o38 o39 => [.cells (some 3) [.d (.val (.int .i64 o34))], .cells none [.d (.val (.int .i64 o35)), .d (.val (.int .i64 o36)), .d (.val (.int .i64 o37)), .d (.val (.string o38)), .d (.slice o39)]]
    | .x1 o40 o41 o42 o43 o44 o45 o46 => [.cells (some 3) [.d (.val (.int .i64 o41))], .cells none [.d (.val (.int .i64 o42)), .d (.val (.int .i64 o43)), .d (.val (.int .i64 o44)), .d (.val (.string o45)), .d (.slice o46)]]
  tkO := fun x => match x with
    | .x0 o32 o33 o34 o35 o36 o37 o38 o39 => []
    | .x1 o40 o41 o42 o43 o44 o45 o46 => []
  elim := fun x k => match x with
    | .x0 o32 o33 o34 o35 o36 o37 o38 o39 => k .ret [.d (.val (.int .i64 o32)), .d (.val (.int .i64 o33))] [.cells (some 3) [.d (.val (.int .i64 o34))], .cells none [.d (.val (.int .i64 o35)), .d (.val (.int .i64 o36)), .d (.val (.int .i64 o37)), .d (.val (.string o38)), .d (.slice o39)]] []
    | .x1 o40 o41 o42 o43 o44 o45 o46 => k .normal [.undef, .d (.val (.int .i64 o40))] [.cells (some 3) [.d (.val (.int .i64 o41))], .cells none [.d (.val (.int .i64 o42)), .d (.val (.int .i64 o43)), .d (.val (.int .i64 o44)), .d (.val (.string o45)), .d (.slice o46)]] []
theorem k95_0 : l95_0.Ok where
  ok1 := by kernel_rfl
  ok2 := by kernel_rfl
  dec := by
    intro vs bs ts a h
    simp only [l95_0] at h ⊢
    split at h
    · cases h; exact ⟨rfl, rfl⟩
    · cases h
  out := by
    intro ex vs bs ts o h
    simp only [l95_0] at h ⊢
    split at h
    · cases h; exact ⟨rfl, rfl, rfl⟩
    · cases h; exact ⟨rfl, rfl, rfl⟩
    · cases h
  len := fun _ => ⟨rfl, rfl⟩
  elim := fun β o k => by cases o <;> rfl
def L95_0 {σ : Type} (F : Int × Int × Int × Int × ByteArray × List D × Int → Option (Int × Int)) : Nat → A95_0 → σ → Option (O95_0 × σ)
  | 0, _, _ => none
  | n+1, (v9, v10, v11, v12, v13, v14, v15, v16, v17, v18, v19), s => (bif (decide (v13 < v12)) then ((lidx v11 v13).bind fun d20 => ask (d20.cells.length = 5) ((cellAt 0 d20).bind fun x21 => (asInt .i64 x21).bind fun x22 => ((cellAt 1 d20).bind fun x23 => (asInt .i64 x23).bind fun x24 => ((cellAt 2 d20).bind fun x25 => (asInt .i64 x25).bind fun x26 => ((cellAt 3 d20).bind fun x27 => (asStr x27).bind fun x28 => ((cellAt 4 d20).bind fun x29 => (asRow x29).bind fun x30 => ((F (v14, x22, x24, x26, x28, x30, (w64 (v9 + 1)))).bind fun y31 => (bif (bif (decide (y31.2 > 4096)) then true else (decide ((if y31.1 > v10 then y31.1 else v10) > 16))) then (some (O95_0.x0 (if y31.1 > v10 then y31.1 else v10) (if y31.1 > v10 then y31.1 else v10) y31.2 v15 v16 v17 v18 v19, s)) else (L95_0 F n (v9, (if y31.1 > v10 then y31.1 else v10), v11, v12, (w64 (v13 + 1)), y31.2, v15, v16, v17, v18, v19) s))))))))) else (some (O95_0.x1 v10 v14 v15 v16 v17 v18 v19, s)))
def dM95 (av : List AV) (bs : List Box) (ts : List Nat) : Option (Int × Int × Int × Int × ByteArray × List D × Int) := match av, bs, ts with
  | [.d (.agg [.val (.int .i64 a0), .val (.int .i64 a1), .val (.int .i64 a2), .val (.string a3), .slice a4]), .d (.val (.int .i64 a5)), .ptr 0 0], [.cells (some 3) [.d (.val (.int .i64 a6))]], [] => some (a6, a0, a1, a2, a3, a4, a5)
  | _, _, _ => none
def aM95 : (Int × Int × Int × Int × ByteArray × List D × Int) → List AV := fun (a6, a0, a1, a2, a3, a4, a5) => [.d (.agg [.val (.int .i64 a0), .val (.int .i64 a1), .val (.int .i64 a2), .val (.string a3), .slice a4]), .d (.val (.int .i64 a5)), .ptr 0 0]
def bM95 : (Int × Int × Int × Int × ByteArray × List D × Int) → List Box := fun (a6, a0, a1, a2, a3, a4, a5) => [.cells (some 3) [.d (.val (.int .i64 a6))]]
def tM95 : (Int × Int × Int × Int × ByteArray × List D × Int) → List Nat := fun (a6, a0, a1, a2, a3, a4, a5) => []
def vM95 : (Int × Int) → AV := fun (a7, p8) => .d (.val (.int .i64 a7))
def cM95 : (Int × Int) → List Box := fun (a7, p8) => [.cells (some 3) [.d (.val (.int .i64 p8))]]
def kM95 : (Int × Int) → List Nat := fun (a7, p8) => []
def rM95 (v : AV) (bs : List Box) (ts : List Nat) : Option (Int × Int) := match v, bs, ts with
  | .d (.val (.int .i64 a7)), [.cells (some 3) [.d (.val (.int .i64 p8))]], [] => some (a7, p8)
  | _, _, _ => none
def n95 : Nat → Int × Int × Int × Int × ByteArray × List D × Int → Option (Int × Int)
  | 0, _ => none
  | k + 1, (a6, a0, a1, a2, a3, a4, a5) => (bif (bif (decide ((w64 (a6 + 1)) > 4096)) then true else (decide (a5 > 16))) then (some (a5, (w64 (a6 + 1)))) else ((L95_0 (n95 k) 1000000000000 (a5, a5, a4, ((a4.length : Nat) : Int), 0, (w64 (a6 + 1)), a0, a1, a2, a3, a4) ()).bind fun p47 => match p47.1 with | .x0 z48 z49 z50 z51 z52 z53 z54 z55 => (some (z48, z50)) | .x1 z56 z57 z58 z59 z60 z61 z62 => (some (z56, z57))))
def g95 (k : Nat) {σ : Type} : Nat → Option (SegE σ)
  | 0 => some (l95_0.seg σ (L95_0 (n95 k) 1000000000000))
  | _ => none
noncomputable def tabsR95 (gl : Nat → Option (List D)) (k : Nat) : Tabs := oddAt (tabs gl) 95 (methE 95 dM95 (n95 k) (fun _ => vM95) (fun _ => cM95) (fun _ => kM95))
theorem E95_0 {σ : Type} (k : Nat) (Y : Yd σ) : ∀ n a (s : σ), L95_0 (n95 k) (n + 1) a s = evK (cfgOf Tryz.prog (tabsR95 gl k) tS0) (toldOf tS0) Y (inlN (cfgOf Tryz.prog (tabsR95 gl k) tS0) (toldOf tS0) Y) (g95 k) 95 (loopAt Tryz.f95 0) ((l95_0.toT σ).enc a s) (fun ex st' => l95_0.next (cfgOf Tryz.prog (tabsR95 gl k) tS0) 95 0 (L95_0 (n95 k) n) ex st') := by
  intro n ⟨v9, v10, v11, v12, v13, v14, v15, v16, v17, v18, v19⟩ s
  kernel_rfl
theorem Q95_0 {σ : Type} (hl : LibFits gl) (k : Nat) (Y : Yd σ) (rnd : Bool) : SegOk (cfgOf Tryz.prog (tabsR95 gl k) tS0) (evFn (cfgOf Tryz.prog (tabsR95 gl k) tS0) 9) 95 rnd Y (l95_0.seg σ (L95_0 (n95 k) 1000000000000)) (.block 0 (.loop (loopAt Tryz.f95 0))) :=
  told_loop (okS0 hl) k95_0 (by kernel_rfl) (by kernel_rfl) (fun _ _ => rfl) (segs_no (by kernel_rfl)) (E95_0 k Y) (hr := by kernel_rfl)
theorem N95 : ∀ k a, n95 (k + 1) a = bodyK (cfgOf Tryz.prog (tabsR95 gl k) tS0) (toldOf tS0) noY (inlN (cfgOf Tryz.prog (tabsR95 gl k) tS0) (toldOf tS0) noY) (g95 k) 95 Tryz.f95 (aM95 a) (bM95 a) (tM95 a) () (retK fun v b tk _ => rM95 v b tk) := by
  intro k a
  obtain ⟨a6, a0, a1, a2, a3, a4, a5⟩ := a
  kernel_rfl
theorem om95 (hl : LibFits gl) (k : Nat) : OddSound Tryz.prog gl (fun g => bif Nat.beq g 95 then some (methE 95 dM95 (n95 k) (fun _ => vM95) (fun _ => cM95) (fun _ => kM95)) else (tabs gl).odd g) :=
  told_methRec (t := tabs gl) (okS0 hl) mixed oddOk methOk Tryz.func95 (by kernel_rfl) (by kernel_rfl) (nat := n95) (argsOf := aM95) (boxOf := bM95) (tokOf := tM95) (res := fun _ => rM95) (seg := fun k => (g95 k)) (by kernel_rfl) (fun k => (fun p hp e he => by
    have hq : segsOf (σ := Unit) (g95 k (σ := Unit)) (bodyOf Tryz.f95) = [(0, .loop (loopAt Tryz.f95 0))] := by kernel_rfl
    rw [hq] at hp
    simp only [List.mem_cons, List.not_mem_nil, or_false] at hp
    subst hp
    cases he
    exact Q95_0 hl k _ _))
    (fun av bs ts a h => by
      unfold dM95 at h
      split at h
      · cases h; exact ⟨rfl, rfl, rfl⟩
      · cases h)
    (fun _ v b tk o h => by
      unfold rM95 at h
      split at h
      · cases h; exact ⟨rfl, rfl, rfl⟩
      · cases h)
    (fun _ => rfl) N95 k
def d72 (ds : List D) : Option (Int × Int × Int × ByteArray × List D × Bool × Bool × Bool × Bool) := match ds with
  | [.agg [.val (.int .i64 a0), .val (.int .i64 a1), .val (.int .i64 a2), .val (.string a3), .slice a4], .val (.bool a5), .val (.bool a6), .val (.bool a7), .val (.bool a8)] => some (a0, a1, a2, a3, a4, a5, a6, a7, a8)
  | _ => none
def r72 (v : AV) : Option (Bool) := match toPR v with
  | some (.one (.val (.bool a9))) => some a9
  | _ => none
def n72 : Int × Int × Int × ByteArray × List D × Bool × Bool × Bool × Bool → Option (Bool) := fun (a0, a1, a2, a3, a4, a5, a6, a7, a8) => (bif (bif a5 then true else (a1 == 0)) then (bif a6 then (bif a7 then (bif a8 then (some true) else (some (((a4.length : Nat) : Int) == 0))) else (bif (sEq a3 (⟨#[]⟩ : ByteArray)) then (bif a8 then (some true) else (some (((a4.length : Nat) : Int) == 0))) else (some false))) else (bif (a2 == 0) then (bif a7 then (bif a8 then (some true) else (some (((a4.length : Nat) : Int) == 0))) else (bif (sEq a3 (⟨#[]⟩ : ByteArray)) then (bif a8 then (some true) else (some (((a4.length : Nat) : Int) == 0))) else (some false))) else (some false))) else (some false))
def e72 : PureE := mkE d72 n72 (fun a9 => .one (.val (.bool a9)))
def g72 {σ : Type} : Nat → Option (SegE σ)
  | _ => none
theorem N72 : ∀ a, n72 a = bodyK (cfgOf Tryz.prog (tabs gl) tS0) (toldOf tS0) noY (inlN (cfgOf Tryz.prog (tabs gl) tS0) (toldOf tS0) noY) g72 72 Tryz.f72 (((fun (a0, a1, a2, a3, a4, a5, a6, a7, a8) => [.agg [.val (.int .i64 a0), .val (.int .i64 a1), .val (.int .i64 a2), .val (.string a3), .slice a4], .val (.bool a5), .val (.bool a6), .val (.bool a7), .val (.bool a8)] : (Int × Int × Int × ByteArray × List D × Bool × Bool × Bool × Bool) → List D) a).map .d) [] [] () (retK fun v _ _ _ => r72 v) := by
  intro a
  obtain ⟨a0, a1, a2, a3, a4, a5, a6, a7, a8⟩ := a
  kernel_rfl
noncomputable def t72 : Tab := (72, e72) :: tS0
theorem ok72 (hl : LibFits gl) : TabOk Tryz.prog gl t72 :=
  told_fn (okS0 hl) mixed oddOk methOk Tryz.func72 (by kernel_rfl) (by kernel_rfl) (by kernel_rfl) (segs_no (by kernel_rfl))
    (args := fun (a0, a1, a2, a3, a4, a5, a6, a7, a8) => [.agg [.val (.int .i64 a0), .val (.int .i64 a1), .val (.int .i64 a2), .val (.string a3), .slice a4], .val (.bool a5), .val (.bool a6), .val (.bool a7), .val (.bool a8)]) (res := r72)
    (fun ds a h => by
      unfold d72 at h
      split at h
      · cases h; rfl
      · cases h)
    (fun v r h => by
      unfold r72 at h
      split at h
      · rename_i hv; cases h; exact hv
      · cases h)
    N72
def d73 (ds : List D) : Option (Int) := match ds with
  | [.val (.int .i64 a0)] => some a0
  | _ => none
def r73 (v : AV) : Option (Bool) := match toPR v with
  | some (.one (.val (.bool a1))) => some a1
  | _ => none
def n73 : Int → Option (Bool) := fun a0 => (some (bif (decide (a0 ≥ (-1048576))) then (decide (a0 ≤ 1048576)) else false))
def e73 : PureE := mkE d73 n73 (fun a1 => .one (.val (.bool a1)))
def g73 {σ : Type} : Nat → Option (SegE σ)
  | _ => none
theorem N73 : ∀ a, n73 a = bodyK (cfgOf Tryz.prog (tabs gl) tS0) (toldOf tS0) noY (inlN (cfgOf Tryz.prog (tabs gl) tS0) (toldOf tS0) noY) g73 73 Tryz.f73 (((fun a0 => [.val (.int .i64 a0)] : (Int) → List D) a).map .d) [] [] () (retK fun v _ _ _ => r73 v) := by
  intro a0
  kernel_rfl
noncomputable def t73 : Tab := (73, e73) :: tS0
theorem ok73 (hl : LibFits gl) : TabOk Tryz.prog gl t73 :=
  told_fn (okS0 hl) mixed oddOk methOk Tryz.func73 (by kernel_rfl) (by kernel_rfl) (by kernel_rfl) (segs_no (by kernel_rfl))
    (args := fun a0 => [.val (.int .i64 a0)]) (res := r73)
    (fun ds a h => by
      unfold d73 at h
      split at h
      · cases h; rfl
      · cases h)
    (fun v r h => by
      unfold r73 at h
      split at h
      · rename_i hv; cases h; exact hv
      · cases h)
    N73
def d115 (ds : List D) : Option (ByteArray × Int × Int × Int) := match ds with
  | [.val (.string a0), .val (.int .i64 a1), .val (.int .u8 a2), .val (.int .u8 a3)] => some (a0, a1, a2, a3)
  | _ => none
def r115 (v : AV) : Option (Bool) := match toPR v with
  | some (.one (.val (.bool a4))) => some a4
  | _ => none
def n115 : ByteArray × Int × Int × Int → Option (Bool) := fun (a0, a1, a2, a3) => (bif (decide (a1 < (a0.size : Int))) then ((sidx a0 a1).bind fun c5 => (bif (decide ((c5.toNat : Int) ≥ a2)) then ((sidx a0 a1).bind fun c6 => (some (decide ((c6.toNat : Int) ≤ a3)))) else (some false))) else (some false))
def e115 : PureE := mkE d115 n115 (fun a4 => .one (.val (.bool a4)))
def g115 {σ : Type} : Nat → Option (SegE σ)
  | _ => none
theorem N115 : ∀ a, n115 a = bodyK (cfgOf Tryz.prog (tabs gl) tS0) (toldOf tS0) noY (inlN (cfgOf Tryz.prog (tabs gl) tS0) (toldOf tS0) noY) g115 115 Tryz.f115 (((fun (a0, a1, a2, a3) => [.val (.string a0), .val (.int .i64 a1), .val (.int .u8 a2), .val (.int .u8 a3)] : (ByteArray × Int × Int × Int) → List D) a).map .d) [] [] () (retK fun v _ _ _ => r115 v) := by
  intro a
  obtain ⟨a0, a1, a2, a3⟩ := a
  kernel_rfl
noncomputable def t115 : Tab := (115, e115) :: tS0
theorem ok115 (hl : LibFits gl) : TabOk Tryz.prog gl t115 :=
  told_fn (okS0 hl) mixed oddOk methOk Tryz.func115 (by kernel_rfl) (by kernel_rfl) (by kernel_rfl) (segs_no (by kernel_rfl))
    (args := fun (a0, a1, a2, a3) => [.val (.string a0), .val (.int .i64 a1), .val (.int .u8 a2), .val (.int .u8 a3)]) (res := r115)
    (fun ds a h => by
      unfold d115 at h
      split at h
      · cases h; rfl
      · cases h)
    (fun v r h => by
      unfold r115 at h
      split at h
      · rename_i hv; cases h; exact hv
      · cases h)
    N115
def d69 (ds : List D) : Option (Int) := match ds with
  | [.val (.int .i64 a0)] => some a0
  | _ => none
def r69 (v : AV) : Option (Bool) := match toPR v with
  | some (.one (.val (.bool a1))) => some a1
  | _ => none
def n69 : Int → Option (Bool) := fun a0 => (bif (bif (decide (a0 ≥ 97)) then (decide (a0 ≤ 122)) else false) then (some true) else (bif (bif (decide (a0 ≥ 65)) then (decide (a0 ≤ 90)) else false) then (some true) else (bif (a0 == 95) then (some true) else (bif (bif (decide (a0 ≥ 192)) then (decide (a0 ≤ 591)) else false) then (some (bif (a0 != 215) then (a0 != 247) else false)) else (bif (bif (decide (a0 ≥ 913)) then (decide (a0 ≤ 969)) else false) then (some (a0 != 930)) else (some false))))))
def e69 : PureE := mkE d69 n69 (fun a1 => .one (.val (.bool a1)))
def g69 {σ : Type} : Nat → Option (SegE σ)
  | _ => none
theorem N69 : ∀ a, n69 a = bodyK (cfgOf Tryz.prog (tabs gl) tS0) (toldOf tS0) noY (inlN (cfgOf Tryz.prog (tabs gl) tS0) (toldOf tS0) noY) g69 69 Tryz.f69 (((fun a0 => [.val (.int .i64 a0)] : (Int) → List D) a).map .d) [] [] () (retK fun v _ _ _ => r69 v) := by
  intro a0
  kernel_rfl
noncomputable def t69 : Tab := (69, e69) :: tS0
theorem ok69 (hl : LibFits gl) : TabOk Tryz.prog gl t69 :=
  told_fn (okS0 hl) mixed oddOk methOk Tryz.func69 (by kernel_rfl) (by kernel_rfl) (by kernel_rfl) (segs_no (by kernel_rfl))
    (args := fun a0 => [.val (.int .i64 a0)]) (res := r69)
    (fun ds a h => by
      unfold d69 at h
      split at h
      · cases h; rfl
      · cases h)
    (fun v r h => by
      unfold r69 at h
      split at h
      · rename_i hv; cases h; exact hv
      · cases h)
    N69
def d75 (ds : List D) : Option (Bool × Bool) := match ds with
  | [.val (.bool a0), .val (.bool a1)] => some (a0, a1)
  | _ => none
def r75 (v : AV) : Option (Int) := match toPR v with
  | some (.one (.val (.int .i64 a2))) => some a2
  | _ => none
def n75 : Bool × Bool → Option (Int) := fun (a0, a1) => (bif a0 then (some (-1)) else (bif a1 then (some 1) else (some 0)))
def e75 : PureE := mkE d75 n75 (fun a2 => .one (.val (.int .i64 a2)))
def g75 {σ : Type} : Nat → Option (SegE σ)
  | _ => none
theorem N75 : ∀ a, n75 a = bodyK (cfgOf Tryz.prog (tabs gl) tS0) (toldOf tS0) noY (inlN (cfgOf Tryz.prog (tabs gl) tS0) (toldOf tS0) noY) g75 75 Tryz.f75 (((fun (a0, a1) => [.val (.bool a0), .val (.bool a1)] : (Bool × Bool) → List D) a).map .d) [] [] () (retK fun v _ _ _ => r75 v) := by
  intro a
  obtain ⟨a0, a1⟩ := a
  kernel_rfl
noncomputable def t75 : Tab := (75, e75) :: tS0
theorem ok75 (hl : LibFits gl) : TabOk Tryz.prog gl t75 :=
  told_fn (okS0 hl) mixed oddOk methOk Tryz.func75 (by kernel_rfl) (by kernel_rfl) (by kernel_rfl) (segs_no (by kernel_rfl))
    (args := fun (a0, a1) => [.val (.bool a0), .val (.bool a1)]) (res := r75)
    (fun ds a h => by
      unfold d75 at h
      split at h
      · cases h; rfl
      · cases h)
    (fun v r h => by
      unfold r75 at h
      split at h
      · rename_i hv; cases h; exact hv
      · cases h)
    N75
def d96 (ds : List D) : Option (Int) := match ds with
  | [.val (.int .i64 a0)] => some a0
  | _ => none
def r96 (v : AV) : Option (Bool) := match toPR v with
  | some (.one (.val (.bool a1))) => some a1
  | _ => none
def n96 : Int → Option (Bool) := fun a0 => (some (bif (decide (a0 ≥ (-1048576))) then (decide (a0 ≤ 1048576)) else false))
def e96 : PureE := mkE d96 n96 (fun a1 => .one (.val (.bool a1)))
def g96 {σ : Type} : Nat → Option (SegE σ)
  | _ => none
theorem N96 : ∀ a, n96 a = bodyK (cfgOf Tryz.prog (tabs gl) tS0) (toldOf tS0) noY (inlN (cfgOf Tryz.prog (tabs gl) tS0) (toldOf tS0) noY) g96 96 Tryz.f96 (((fun a0 => [.val (.int .i64 a0)] : (Int) → List D) a).map .d) [] [] () (retK fun v _ _ _ => r96 v) := by
  intro a0
  kernel_rfl
noncomputable def t96 : Tab := (96, e96) :: tS0
theorem ok96 (hl : LibFits gl) : TabOk Tryz.prog gl t96 :=
  told_fn (okS0 hl) mixed oddOk methOk Tryz.func96 (by kernel_rfl) (by kernel_rfl) (by kernel_rfl) (segs_no (by kernel_rfl))
    (args := fun a0 => [.val (.int .i64 a0)]) (res := r96)
    (fun ds a h => by
      unfold d96 at h
      split at h
      · cases h; rfl
      · cases h)
    (fun v r h => by
      unfold r96 at h
      split at h
      · rename_i hv; cases h; exact hv
      · cases h)
    N96
def d100 (ds : List D) : Option (Unit) := match ds with
  | [] => some ()
  | _ => none
def r100 (v : AV) : Option (Int × Int × Int × Int × Int × Int × Int × Int × Int × Int × Int × Int × Int × Int × Int × Int) := match toPR v with
  | some (.one (.agg [.val (.int .i32 a0), .val (.int .i32 a1), .val (.int .i32 a2), .val (.int .i32 a3), .val (.int .i32 a4), .val (.int .i32 a5), .val (.int .i32 a6), .val (.int .i32 a7), .val (.int .i32 a8), .val (.int .i32 a9), .val (.int .i32 a10), .val (.int .i32 a11), .val (.int .i32 a12), .val (.int .i32 a13), .val (.int .i32 a14), .val (.int .i32 a15)])) => some (a0, a1, a2, a3, a4, a5, a6, a7, a8, a9, a10, a11, a12, a13, a14, a15)
  | _ => none
def n100 : Unit → Option (Int × Int × Int × Int × Int × Int × Int × Int × Int × Int × Int × Int × Int × Int × Int × Int) := fun () => (some (97, 122, 65, 90, 95, 95, 192, 214, 216, 246, 248, 591, 913, 929, 931, 969))
def e100 : PureE := mkE d100 n100 (fun (a0, a1, a2, a3, a4, a5, a6, a7, a8, a9, a10, a11, a12, a13, a14, a15) => .one (.agg [.val (.int .i32 a0), .val (.int .i32 a1), .val (.int .i32 a2), .val (.int .i32 a3), .val (.int .i32 a4), .val (.int .i32 a5), .val (.int .i32 a6), .val (.int .i32 a7), .val (.int .i32 a8), .val (.int .i32 a9), .val (.int .i32 a10), .val (.int .i32 a11), .val (.int .i32 a12), .val (.int .i32 a13), .val (.int .i32 a14), .val (.int .i32 a15)]))
def g100 {σ : Type} : Nat → Option (SegE σ)
  | _ => none
theorem N100 : ∀ a, n100 a = bodyK (cfgOf Tryz.prog (tabs gl) tS0) (toldOf tS0) noY (inlN (cfgOf Tryz.prog (tabs gl) tS0) (toldOf tS0) noY) g100 100 Tryz.f100 (((fun () => [] : (Unit) → List D) a).map .d) [] [] () (retK fun v _ _ _ => r100 v) := by
  intro a
  kernel_rfl
noncomputable def t100 : Tab := (100, e100) :: tS0
theorem ok100 (hl : LibFits gl) : TabOk Tryz.prog gl t100 :=
  told_fn (okS0 hl) mixed oddOk methOk Tryz.func100 (by kernel_rfl) (by kernel_rfl) (by kernel_rfl) (segs_no (by kernel_rfl))
    (args := fun () => []) (res := r100)
    (fun ds a h => by
      unfold d100 at h
      split at h
      · cases h; rfl
      · cases h)
    (fun v r h => by
      unfold r100 at h
      split at h
      · rename_i hv; cases h; exact hv
      · cases h)
    N100
def d9 (ds : List D) : Option (Int) := match ds with
  | [.val (.int .i64 a0)] => some a0
  | _ => none
def r9 (v : AV) : Option (Int) := match toPR v with
  | some (.one (.val (.int .i64 a1))) => some a1
  | _ => none
def n9 : Int → Option (Int) := fun a0 => (some a0)
def e9 : PureE := mkE d9 n9 (fun a1 => .one (.val (.int .i64 a1)))
def g9 {σ : Type} : Nat → Option (SegE σ)
  | _ => none
theorem N9 : ∀ a, n9 a = bodyK (cfgOf Tryz.prog (tabs gl) tS0) (toldOf tS0) noY (inlN (cfgOf Tryz.prog (tabs gl) tS0) (toldOf tS0) noY) g9 9 Tryz.f9 (((fun a0 => [.val (.int .i64 a0)] : (Int) → List D) a).map .d) [] [] () (retK fun v _ _ _ => r9 v) := by
  intro a0
  kernel_rfl
noncomputable def t9 : Tab := (9, e9) :: tS0
theorem ok9 (hl : LibFits gl) : TabOk Tryz.prog gl t9 :=
  told_fn (okS0 hl) mixed oddOk methOk Tryz.func9 (by kernel_rfl) (by kernel_rfl) (by kernel_rfl) (segs_no (by kernel_rfl))
    (args := fun a0 => [.val (.int .i64 a0)]) (res := r9)
    (fun ds a h => by
      unfold d9 at h
      split at h
      · cases h; rfl
      · cases h)
    (fun v r h => by
      unfold r9 at h
      split at h
      · rename_i hv; cases h; exact hv
      · cases h)
    N9
abbrev A36_0 := Int × Int × Int × Int × Int × Int × ByteArray × List D
inductive O36_0 where
  | x0 (o28 : Int) (o29 : Int) (o30 : Int) (o31 : Int) (o32 : Int) (o33 : ByteArray) (o34 : List D)
  | x1 (o35 : Int) (o36 : Int) (o37 : Int) (o38 : Int) (o39 : ByteArray) (o40 : List D)
def l36_0 : LoopS A36_0 O36_0 where
  n := 36
  ks := [1, 2, 3, 7]
  kso := [1, 6]
  m := 1
  mt := 0
  decV := fun vs bs ts => match vs, bs, ts with
    | [.d (.val (.int .i64 v8)), .d (.val (.int .i64 v9)), .ptr 0 0, .d (.val (.int .i64 v10))], [.cells none [.d (.val (.int .i64 v11)), .d (.val (.int .i64 v12)), .d (.val (.int .i64 v13)), .d (.val (.string v14)), .d (.slice v15)]], [] => some (v8, v9, v10, v11, v12, v13, v14, v15)
    | _, _, _ => none
  encV := fun (v8, v9, v10, v11, v12, v13, v14, v15) => [.d (.val (.int .i64 v8)), .d (.val (.int .i64 v9)), .ptr 0 0, .d (.val (.int .i64 v10))]
  encB := fun (v8, v9, v10, v11, v12, v13, v14, v15) => [.cells none [.d (.val (.int .i64 v11)), .d (.val (.int .i64 v12)), .d (.val (.int .i64 v13)), .d (.val (.string v14)), .d (.slice v15)]]
  tk := fun _ => []
  decO := fun ex vs bs ts => match ex, vs, bs, ts with
    | .ret, [.d (.val (.int .i64 o28)), .d (.val (.int .i64 o29))], [.cells none [.d (.val (.int .i64 o30)), .d (.val (.int .i64 o31)), .d (.val (.int .i64 o32)), .d (.val (.string o33)), .d (.slice o34)]], [] => some (.x0 o28 o29 o30 o31 o32 o33 o34)
    | .normal, [.d (.val (.int .i64 o35)), .undef], [.cells none [.d (.val (.int .i64 o36)), .d (.val (.int .i64 o37)), .d (.val (.int .i64 o38)), .d (.val (.string o39)), .d (.slice o40)]], [] => some (.x1 o35 o36 o37 o38 o39 o40)
    | _, _, _, _ => none
  exO := fun x => match x with
    | .x0 o28 o29 o30 o31 o32 o33 o34 => .ret
    | .x1 o35 o36 o37 o38 o39 o40 => .normal
  outV := fun x => match x with
    | .x0 o28 o29 o30 o31 o32 o33 o34 => [.d (.val (.int .i64 o28)), .d (.val (.int .i64 o29))]
    | .x1 o35 o36 o37 o38 o39 o40 => [.d (.val (.int .i64 o35)), .undef]
  outB := fun x => match x with
    | .x0 o28 o29 o30 o31 o32 o33 o34 => [.cells none [.d (.val (.int .i64 o30)), .d (.val (.int .i64 o31)), .d (.val (.int .i64 o32)), .d (.val (.string o33)), .d (.slice o34)]]
    | .x1 o35 o36 o37 o38 o39 o40 => [.cells none [.d (.val (.int .i64 o36)), .d (.val (.int .i64 o37)), .d (.val (.int .i64 o38)), .d (.val (.string o39)), .d (.slice o40)]]
  tkO := fun x => match x with
    | .x0 o28 o29 o30 o31 o32 o33 o34 => []
    | .x1 o35 o36 o37 o38 o39 o40 => []
  elim := fun x k => match x with
    | .x0 o28 o29 o30 o31 o32 o33 o34 => k .ret [.d (.val (.int .i64 o28)), .d (.val (.int .i64 o29))] [.cells none [.d (.val (.int .i64 o30)), .d (.val (.int .i64 o31)), .d (.val (.int .i64 o32)), .d (.val (.string o33)), .d (.slice o34)]] []
    | .x1 o35 o36 o37 o38 o39 o40 => k .normal [.d (.val (.int .i64 o35)), .undef] [.cells none [.d (.val (.int .i64 o36)), .d (.val (.int .i64 o37)), .d (.val (.int .i64 o38)), .d (.val (.string o39)), .d (.slice o40)]] []
theorem k36_0 : l36_0.Ok where
  ok1 := by kernel_rfl
  ok2 := by kernel_rfl
  dec := by
    intro vs bs ts a h
    simp only [l36_0] at h ⊢
    split at h
    · cases h; exact ⟨rfl, rfl⟩
    · cases h
  out := by
    intro ex vs bs ts o h
    simp only [l36_0] at h ⊢
    split at h
    · cases h; exact ⟨rfl, rfl, rfl⟩
    · cases h; exact ⟨rfl, rfl, rfl⟩
    · cases h
  len := fun _ => ⟨rfl, rfl⟩
  elim := fun β o k => by cases o <;> rfl
def L36_0 {σ : Type} (F : Int × Int × Int × ByteArray × List D × Int × Int → Option (Int)) : Nat → A36_0 → σ → Option (O36_0 × σ)
  | 0, _, _ => none
  | n+1, (v8, v9, v10, v11, v12, v13, v14, v15), s => (bif (decide (v10 < ((v15.length : Nat) : Int))) then ((lidx v15 v10).bind fun d16 => ask (d16.cells.length = 5) ((cellAt 0 d16).bind fun x17 => (asInt .i64 x17).bind fun x18 => ((cellAt 1 d16).bind fun x19 => (asInt .i64 x19).bind fun x20 => ((cellAt 2 d16).bind fun x21 => (asInt .i64 x21).bind fun x22 => ((cellAt 3 d16).bind fun x23 => (asStr x23).bind fun x24 => ((cellAt 4 d16).bind fun x25 => (asRow x25).bind fun x26 => ((F (x18, x20, x22, x24, x26, v8, (w64 (v9 + 1)))).bind fun y27 => (bif (decide (y27 > 4096)) then (some (O36_0.x0 y27 y27 v11 v12 v13 v14 v15, s)) else (L36_0 F n (y27, v9, (w64 (v10 + 1)), v11, v12, v13, v14, v15) s))))))))) else (some (O36_0.x1 v8 v11 v12 v13 v14 v15, s)))
def d36 (ds : List D) : Option (Int × Int × Int × ByteArray × List D × Int × Int) := match ds with
  | [.agg [.val (.int .i64 a0), .val (.int .i64 a1), .val (.int .i64 a2), .val (.string a3), .slice a4], .val (.int .i64 a5), .val (.int .i64 a6)] => some (a0, a1, a2, a3, a4, a5, a6)
  | _ => none
def r36 (v : AV) : Option (Int) := match toPR v with
  | some (.one (.val (.int .i64 a7))) => some a7
  | _ => none
def n36 : Nat → Int × Int × Int × ByteArray × List D × Int × Int → Option (Int)
  | 0, _ => none
  | k + 1, (a0, a1, a2, a3, a4, a5, a6) => (bif (bif (decide ((w64 (a5 + 1)) > 4096)) then true else (decide (a6 > 16))) then (some 4097) else ((L36_0 (n36 k) 1000000000000 ((w64 (a5 + 1)), a6, 0, a0, a1, a2, a3, a4) ()).bind fun p41 => match p41.1 with | .x0 z42 z43 z44 z45 z46 z47 z48 => (some z43) | .x1 z49 z50 z51 z52 z53 z54 => (some z49)))
def e36 : PureE := mkE d36 (n36 64) (fun a7 => .one (.val (.int .i64 a7)))
def g36 (k : Nat) {σ : Type} : Nat → Option (SegE σ)
  | 0 => some (l36_0.seg σ (L36_0 (n36 k) 1000000000000))
  | _ => none
theorem E36_0 {σ : Type} (k : Nat) (Y : Yd σ) : ∀ n a (s : σ), L36_0 (n36 k) (n + 1) a s = evK (cfgOf Tryz.prog (tabs gl) (((36, mkE d36 (n36 k) (fun a7 => .one (.val (.int .i64 a7)))) :: tS0) : Tab)) (toldOf (((36, mkE d36 (n36 k) (fun a7 => .one (.val (.int .i64 a7)))) :: tS0) : Tab)) Y (inlN (cfgOf Tryz.prog (tabs gl) (((36, mkE d36 (n36 k) (fun a7 => .one (.val (.int .i64 a7)))) :: tS0) : Tab)) (toldOf (((36, mkE d36 (n36 k) (fun a7 => .one (.val (.int .i64 a7)))) :: tS0) : Tab)) Y) (g36 k) 36 (loopAt Tryz.f36 0) ((l36_0.toT σ).enc a s) (fun ex st' => l36_0.next (cfgOf Tryz.prog (tabs gl) (((36, mkE d36 (n36 k) (fun a7 => .one (.val (.int .i64 a7)))) :: tS0) : Tab)) 36 0 (L36_0 (n36 k) n) ex st') := by
  intro n ⟨v8, v9, v10, v11, v12, v13, v14, v15⟩ s
  kernel_rfl
theorem Q36_0 {σ : Type} (hl : LibFits gl) (k : Nat) (hk : TabOk Tryz.prog gl (((36, mkE d36 (n36 k) (fun a7 => .one (.val (.int .i64 a7)))) :: tS0) : Tab)) (Y : Yd σ) (rnd : Bool) : SegOk (cfgOf Tryz.prog (tabs gl) (((36, mkE d36 (n36 k) (fun a7 => .one (.val (.int .i64 a7)))) :: tS0) : Tab)) (evFn (cfgOf Tryz.prog (tabs gl) (((36, mkE d36 (n36 k) (fun a7 => .one (.val (.int .i64 a7)))) :: tS0) : Tab)) 9) 36 rnd Y (l36_0.seg σ (L36_0 (n36 k) 1000000000000)) (.block 0 (.loop (loopAt Tryz.f36 0))) :=
  told_loop hk k36_0 (by kernel_rfl) (by kernel_rfl) (fun _ _ => rfl) (segs_no (by kernel_rfl)) (E36_0 k Y) (hr := by kernel_rfl)
theorem N36 : ∀ k a, n36 (k + 1) a = bodyK (cfgOf Tryz.prog (tabs gl) (((36, mkE d36 (n36 k) (fun a7 => .one (.val (.int .i64 a7)))) :: tS0) : Tab)) (toldOf (((36, mkE d36 (n36 k) (fun a7 => .one (.val (.int .i64 a7)))) :: tS0) : Tab)) noY (inlN (cfgOf Tryz.prog (tabs gl) (((36, mkE d36 (n36 k) (fun a7 => .one (.val (.int .i64 a7)))) :: tS0) : Tab)) (toldOf (((36, mkE d36 (n36 k) (fun a7 => .one (.val (.int .i64 a7)))) :: tS0) : Tab)) noY) (g36 k) 36 Tryz.f36 (((fun (a0, a1, a2, a3, a4, a5, a6) => [.agg [.val (.int .i64 a0), .val (.int .i64 a1), .val (.int .i64 a2), .val (.string a3), .slice a4], .val (.int .i64 a5), .val (.int .i64 a6)] : (Int × Int × Int × ByteArray × List D × Int × Int) → List D) a).map .d) [] [] () (retK fun v _ _ _ => r36 v) := by
  intro k a
  obtain ⟨a0, a1, a2, a3, a4, a5, a6⟩ := a
  kernel_rfl
noncomputable def t36 : Tab := (36, e36) :: tS0
theorem ok36 (hl : LibFits gl) : TabOk Tryz.prog gl t36 :=
  told_rec (t := tabs gl) (okS0 hl) mixed oddOk methOk Tryz.func36 (by kernel_rfl) (nat := n36) (seg := fun k => g36 k) (by kernel_rfl) (fun k hk => (fun p hp e he => by
    have hq : segsOf (σ := Unit) (g36 k (σ := Unit)) (bodyOf Tryz.f36) = [(0, .loop (loopAt Tryz.f36 0))] := by kernel_rfl
    rw [hq] at hp
    simp only [List.mem_cons, List.not_mem_nil, or_false] at hp
    subst hp
    cases he
    exact Q36_0 hl k hk _ _))
    (args := fun (a0, a1, a2, a3, a4, a5, a6) => [.agg [.val (.int .i64 a0), .val (.int .i64 a1), .val (.int .i64 a2), .val (.string a3), .slice a4], .val (.int .i64 a5), .val (.int .i64 a6)]) (res := r36)
    (fun ds a h => by
      unfold d36 at h
      split at h
      · cases h; rfl
      · cases h)
    (fun v r h => by
      unfold r36 at h
      split at h
      · rename_i hv; cases h; exact hv
      · cases h)
    (fun _ => rfl) N36 64
abbrev A37_0 := List D × Int × Int × Int × Int × ByteArray × List D × Int × Int × Int × ByteArray × List D
inductive O37_0 where
  | x0 (o34 : List D) (o35 : Int) (o36 : Int) (o37 : Int) (o38 : ByteArray) (o39 : List D) (o40 : Int) (o41 : Int) (o42 : Int) (o43 : ByteArray) (o44 : List D)
def l37_0 : LoopS A37_0 O37_0 where
  n := 24
  ks := [1, 2, 3, 4]
  kso := [1, 2, 3]
  m := 2
  mt := 2
  decV := fun vs bs ts => match vs, bs, ts with
    | [.ptr 0 0, .ptr 1 0, .osl 0 v10, .d (.val (.int .i64 v11))], [.cells none [.d (.val (.int .i64 v12)), .d (.val (.int .i64 v13)), .d (.val (.int .i64 v14)), .d (.val (.string v15)), .d (.slice v16)], .cells (some 42) [.d (.val (.int .i64 v17)), .d (.val (.int .i64 v18)), .d (.val (.int .i64 v19)), .d (.val (.string v20)), .osl 1 v21]], [_, _] => some (v10, v11, v12, v13, v14, v15, v16, v17, v18, v19, v20, v21)
    | _, _, _ => none
  encV := fun (v10, v11, v12, v13, v14, v15, v16, v17, v18, v19, v20, v21) => [.ptr 0 0, .ptr 1 0, .osl 0 v10, .d (.val (.int .i64 v11))]
  encB := fun (v10, v11, v12, v13, v14, v15, v16, v17, v18, v19, v20, v21) => [.cells none [.d (.val (.int .i64 v12)), .d (.val (.int .i64 v13)), .d (.val (.int .i64 v14)), .d (.val (.string v15)), .d (.slice v16)], .cells (some 42) [.d (.val (.int .i64 v17)), .d (.val (.int .i64 v18)), .d (.val (.int .i64 v19)), .d (.val (.string v20)), .osl 1 v21]]
  tk := fun (v10, v11, v12, v13, v14, v15, v16, v17, v18, v19, v20, v21) => [v10.length, v21.length]
  decO := fun ex vs bs ts => match ex, vs, bs, ts with
    | .normal, [.ptr 0 0, .ptr 1 0, .osl 0 o34], [.cells none [.d (.val (.int .i64 o35)), .d (.val (.int .i64 o36)), .d (.val (.int .i64 o37)), .d (.val (.string o38)), .d (.slice o39)], .cells (some 42) [.d (.val (.int .i64 o40)), .d (.val (.int .i64 o41)), .d (.val (.int .i64 o42)), .d (.val (.string o43)), .osl 1 o44]], [_, _] => some (.x0 o34 o35 o36 o37 o38 o39 o40 o41 o42 o43 o44)
    | _, _, _, _ => none
  exO := fun x => match x with
    | .x0 o34 o35 o36 o37 o38 o39 o40 o41 o42 o43 o44 => .normal
  outV := fun x => match x with
    | .x0 o34 o35 o36 o37 o38 o39 o40 o41 o42 o43 o44 => [.ptr 0 0, .ptr 1 0, .osl 0 o34]
  outB := fun x => match x with
    | .x0 o34 o35 o36 o37 o38 o39 o40 o41 o42 o43 o44 => [.cells none [.d (.val (.int .i64 o35)), .d (.val (.int .i64 o36)), .d (.val (.int .i64 o37)), .d (.val (.string o38)), .d (.slice o39)], .cells (some 42) [.d (.val (.int .i64 o40)), .d (.val (.int .i64 o41)), .d (.val (.int .i64 o42)), .d (.val (.string o43)), .osl 1 o44]]
  tkO := fun x => match x with
    | .x0 o34 o35 o36 o37 o38 o39 o40 o41 o42 o43 o44 => [o34.length, o44.length]
  elim := fun x k => match x with
    | .x0 o34 o35 o36 o37 o38 o39 o40 o41 o42 o43 o44 => k .normal [.ptr 0 0, .ptr 1 0, .osl 0 o34] [.cells none [.d (.val (.int .i64 o35)), .d (.val (.int .i64 o36)), .d (.val (.int .i64 o37)), .d (.val (.string o38)), .d (.slice o39)], .cells (some 42) [.d (.val (.int .i64 o40)), .d (.val (.int .i64 o41)), .d (.val (.int .i64 o42)), .d (.val (.string o43)), .osl 1 o44]] [o34.length, o44.length]
theorem k37_0 : l37_0.Ok where
  ok1 := by kernel_rfl
  ok2 := by kernel_rfl
  dec := by
    intro vs bs ts a h
    simp only [l37_0] at h ⊢
    split at h
    · cases h; exact ⟨rfl, rfl⟩
    · cases h
  out := by
    intro ex vs bs ts o h
    simp only [l37_0] at h ⊢
    split at h
    · cases h; exact ⟨rfl, rfl, rfl⟩
    · cases h
  len := fun _ => ⟨rfl, rfl⟩
  elim := fun β o k => by cases o <;> rfl
def L37_0 {σ : Type} (F : Int × Int × Int × ByteArray × List D → Option (Int × Int × Int × ByteArray × List D)) : Nat → A37_0 → σ → Option (O37_0 × σ)
  | 0, _, _ => none
  | n+1, (v10, v11, v12, v13, v14, v15, v16, v17, v18, v19, v20, v21), s => (bif (decide (v11 < ((v16.length : Nat) : Int))) then ((lidx v16 v11).bind fun d22 => ask (d22.cells.length = 5) ((cellAt 0 d22).bind fun x23 => (asInt .i64 x23).bind fun x24 => ((cellAt 1 d22).bind fun x25 => (asInt .i64 x25).bind fun x26 => ((cellAt 2 d22).bind fun x27 => (asInt .i64 x27).bind fun x28 => ((cellAt 3 d22).bind fun x29 => (asStr x29).bind fun x30 => ((cellAt 4 d22).bind fun x31 => (asRow x31).bind fun x32 => ((F (x24, x26, x28, x30, x32)).bind fun y33 => (ask (addOk v10.length v10 ([.agg [.val (.int .i64 y33.1), .val (.int .i64 y33.2.1), .val (.int .i64 y33.2.2.1), .val (.string y33.2.2.2.1), .slice y33.2.2.2.2]] : List D) 5 64) (ask (([(v10.length + ([.agg [.val (.int .i64 y33.1), .val (.int .i64 y33.2.1), .val (.int .i64 y33.2.2.1), .val (.string y33.2.2.2.1), .slice y33.2.2.2.2]] : List D).length), v21.length] : List Nat) = [(v10 ++ ([.agg [.val (.int .i64 y33.1), .val (.int .i64 y33.2.1), .val (.int .i64 y33.2.2.1), .val (.string y33.2.2.2.1), .slice y33.2.2.2.2]] : List D)).length, v21.length]) (L37_0 F n ((v10 ++ ([.agg [.val (.int .i64 y33.1), .val (.int .i64 y33.2.1), .val (.int .i64 y33.2.2.1), .val (.string y33.2.2.2.1), .slice y33.2.2.2.2]] : List D)), (w64 (v11 + 1)), v12, v13, v14, v15, v16, v17, v18, v19, v20, v21) s)))))))))) else (ask (([v10.length, v21.length] : List Nat) = [v10.length, v21.length]) (some (O37_0.x0 v10 v12 v13 v14 v15 v16 v17 v18 v19 v20 v21, s))))
def d37 (ds : List D) : Option (Int × Int × Int × ByteArray × List D) := match ds with
  | [.agg [.val (.int .i64 a0), .val (.int .i64 a1), .val (.int .i64 a2), .val (.string a3), .slice a4]] => some (a0, a1, a2, a3, a4)
  | _ => none
def r37 (v : AV) : Option (Int × Int × Int × ByteArray × List D) := match toPR v with
  | some (.one (.agg [.val (.int .i64 a5), .val (.int .i64 a6), .val (.int .i64 a7), .val (.string a8), .slice a9])) => some (a5, a6, a7, a8, a9)
  | _ => none
def n37 : Nat → Int × Int × Int × ByteArray × List D → Option (Int × Int × Int × ByteArray × List D)
  | 0, _ => none
  | k + 1, (a0, a1, a2, a3, a4) => (ask (([0, 0] : List Nat) = [([] : List D).length, ([] : List D).length]) ((L37_0 (n37 k) 1000000000000 (([] : List D), 0, a0, a1, a2, a3, a4, 0, 0, 0, (⟨#[]⟩ : ByteArray), ([] : List D)) ()).bind fun p45 => match p45.1 with | .x0 z46 z47 z48 z49 z50 z51 z52 z53 z54 z55 z56 => (some (z47, z48, z49, z50, z46))))
def e37 : PureE := mkE d37 (n37 64) (fun (a5, a6, a7, a8, a9) => .one (.agg [.val (.int .i64 a5), .val (.int .i64 a6), .val (.int .i64 a7), .val (.string a8), .slice a9]))
def g37 (k : Nat) {σ : Type} : Nat → Option (SegE σ)
  | 0 => some (l37_0.seg σ (L37_0 (n37 k) 1000000000000))
  | _ => none
theorem E37_0 {σ : Type} (k : Nat) (Y : Yd σ) : ∀ n a (s : σ), L37_0 (n37 k) (n + 1) a s = evK (cfgOf Tryz.prog (tabs gl) (((37, mkE d37 (n37 k) (fun (a5, a6, a7, a8, a9) => .one (.agg [.val (.int .i64 a5), .val (.int .i64 a6), .val (.int .i64 a7), .val (.string a8), .slice a9]))) :: tS0) : Tab)) (toldOf (((37, mkE d37 (n37 k) (fun (a5, a6, a7, a8, a9) => .one (.agg [.val (.int .i64 a5), .val (.int .i64 a6), .val (.int .i64 a7), .val (.string a8), .slice a9]))) :: tS0) : Tab)) Y (inlN (cfgOf Tryz.prog (tabs gl) (((37, mkE d37 (n37 k) (fun (a5, a6, a7, a8, a9) => .one (.agg [.val (.int .i64 a5), .val (.int .i64 a6), .val (.int .i64 a7), .val (.string a8), .slice a9]))) :: tS0) : Tab)) (toldOf (((37, mkE d37 (n37 k) (fun (a5, a6, a7, a8, a9) => .one (.agg [.val (.int .i64 a5), .val (.int .i64 a6), .val (.int .i64 a7), .val (.string a8), .slice a9]))) :: tS0) : Tab)) Y) (g37 k) 37 (loopAt Tryz.f37 0) ((l37_0.toT σ).enc a s) (fun ex st' => l37_0.next (cfgOf Tryz.prog (tabs gl) (((37, mkE d37 (n37 k) (fun (a5, a6, a7, a8, a9) => .one (.agg [.val (.int .i64 a5), .val (.int .i64 a6), .val (.int .i64 a7), .val (.string a8), .slice a9]))) :: tS0) : Tab)) 37 0 (L37_0 (n37 k) n) ex st') := by
  intro n ⟨v10, v11, v12, v13, v14, v15, v16, v17, v18, v19, v20, v21⟩ s
  kernel_rfl
theorem Q37_0 {σ : Type} (hl : LibFits gl) (k : Nat) (hk : TabOk Tryz.prog gl (((37, mkE d37 (n37 k) (fun (a5, a6, a7, a8, a9) => .one (.agg [.val (.int .i64 a5), .val (.int .i64 a6), .val (.int .i64 a7), .val (.string a8), .slice a9]))) :: tS0) : Tab)) (Y : Yd σ) (rnd : Bool) : SegOk (cfgOf Tryz.prog (tabs gl) (((37, mkE d37 (n37 k) (fun (a5, a6, a7, a8, a9) => .one (.agg [.val (.int .i64 a5), .val (.int .i64 a6), .val (.int .i64 a7), .val (.string a8), .slice a9]))) :: tS0) : Tab)) (evFn (cfgOf Tryz.prog (tabs gl) (((37, mkE d37 (n37 k) (fun (a5, a6, a7, a8, a9) => .one (.agg [.val (.int .i64 a5), .val (.int .i64 a6), .val (.int .i64 a7), .val (.string a8), .slice a9]))) :: tS0) : Tab)) 9) 37 rnd Y (l37_0.seg σ (L37_0 (n37 k) 1000000000000)) (.block 0 (.loop (loopAt Tryz.f37 0))) :=
  told_loop hk k37_0 (by kernel_rfl) (by kernel_rfl) (fun _ _ => rfl) (segs_no (by kernel_rfl)) (E37_0 k Y) (hr := by kernel_rfl)
theorem N37 : ∀ k a, n37 (k + 1) a = bodyK (cfgOf Tryz.prog (tabs gl) (((37, mkE d37 (n37 k) (fun (a5, a6, a7, a8, a9) => .one (.agg [.val (.int .i64 a5), .val (.int .i64 a6), .val (.int .i64 a7), .val (.string a8), .slice a9]))) :: tS0) : Tab)) (toldOf (((37, mkE d37 (n37 k) (fun (a5, a6, a7, a8, a9) => .one (.agg [.val (.int .i64 a5), .val (.int .i64 a6), .val (.int .i64 a7), .val (.string a8), .slice a9]))) :: tS0) : Tab)) noY (inlN (cfgOf Tryz.prog (tabs gl) (((37, mkE d37 (n37 k) (fun (a5, a6, a7, a8, a9) => .one (.agg [.val (.int .i64 a5), .val (.int .i64 a6), .val (.int .i64 a7), .val (.string a8), .slice a9]))) :: tS0) : Tab)) (toldOf (((37, mkE d37 (n37 k) (fun (a5, a6, a7, a8, a9) => .one (.agg [.val (.int .i64 a5), .val (.int .i64 a6), .val (.int .i64 a7), .val (.string a8), .slice a9]))) :: tS0) : Tab)) noY) (g37 k) 37 Tryz.f37 (((fun (a0, a1, a2, a3, a4) => [.agg [.val (.int .i64 a0), .val (.int .i64 a1), .val (.int .i64 a2), .val (.string a3), .slice a4]] : (Int × Int × Int × ByteArray × List D) → List D) a).map .d) [] [] () (retK fun v _ _ _ => r37 v) := by
  intro k a
  obtain ⟨a0, a1, a2, a3, a4⟩ := a
  kernel_rfl
noncomputable def t37 : Tab := (37, e37) :: tS0
theorem ok37 (hl : LibFits gl) : TabOk Tryz.prog gl t37 :=
  told_rec (t := tabs gl) (okS0 hl) mixed oddOk methOk Tryz.func37 (by kernel_rfl) (nat := n37) (seg := fun k => g37 k) (by kernel_rfl) (fun k hk => (fun p hp e he => by
    have hq : segsOf (σ := Unit) (g37 k (σ := Unit)) (bodyOf Tryz.f37) = [(0, .loop (loopAt Tryz.f37 0))] := by kernel_rfl
    rw [hq] at hp
    simp only [List.mem_cons, List.not_mem_nil, or_false] at hp
    subst hp
    cases he
    exact Q37_0 hl k hk _ _))
    (args := fun (a0, a1, a2, a3, a4) => [.agg [.val (.int .i64 a0), .val (.int .i64 a1), .val (.int .i64 a2), .val (.string a3), .slice a4]]) (res := r37)
    (fun ds a h => by
      unfold d37 at h
      split at h
      · cases h; rfl
      · cases h)
    (fun v r h => by
      unfold r37 at h
      split at h
      · rename_i hv; cases h; exact hv
      · cases h)
    (fun _ => rfl) N37 64
noncomputable def tabsS1 (gl : Nat → Option (List D)) : Tabs := { tabs gl with odd := fun g => bif Nat.beq g 95 then some (methE 95 dM95 (n95 64) (fun _ => vM95) (fun _ => cM95) (fun _ => kM95)) else ((tabs gl).odd g) }
theorem oddOkS1 (hl : LibFits gl) : OddSound Tryz.prog gl (tabsS1 gl).odd := OddSound.join (om95 hl 64) (oddOk)
noncomputable def tS1 : Tab := (98, e98) :: (72, e72) :: (73, e73) :: (115, e115) :: (69, e69) :: (75, e75) :: (96, e96) :: (100, e100) :: (9, e9) :: (36, e36) :: (37, e37) :: tS0
theorem okS1 (hl : LibFits gl) : TabOk Tryz.prog gl tS1 :=
  TabOk.cons (TabOk.cons (TabOk.cons (TabOk.cons (TabOk.cons (TabOk.cons (TabOk.cons (TabOk.cons (TabOk.cons (TabOk.cons (TabOk.cons (okS0 hl) ((ok37 hl).fair (37, e37) (List.mem_cons_self (l := tS0))) ((ok37 hl).spec (37, e37) (List.mem_cons_self (l := tS0)))) ((ok36 hl).fair (36, e36) (List.mem_cons_self (l := tS0))) ((ok36 hl).spec (36, e36) (List.mem_cons_self (l := tS0)))) ((ok9 hl).fair (9, e9) (List.mem_cons_self (l := tS0))) ((ok9 hl).spec (9, e9) (List.mem_cons_self (l := tS0)))) ((ok100 hl).fair (100, e100) (List.mem_cons_self (l := tS0))) ((ok100 hl).spec (100, e100) (List.mem_cons_self (l := tS0)))) ((ok96 hl).fair (96, e96) (List.mem_cons_self (l := tS0))) ((ok96 hl).spec (96, e96) (List.mem_cons_self (l := tS0)))) ((ok75 hl).fair (75, e75) (List.mem_cons_self (l := tS0))) ((ok75 hl).spec (75, e75) (List.mem_cons_self (l := tS0)))) ((ok69 hl).fair (69, e69) (List.mem_cons_self (l := tS0))) ((ok69 hl).spec (69, e69) (List.mem_cons_self (l := tS0)))) ((ok115 hl).fair (115, e115) (List.mem_cons_self (l := tS0))) ((ok115 hl).spec (115, e115) (List.mem_cons_self (l := tS0)))) ((ok73 hl).fair (73, e73) (List.mem_cons_self (l := tS0))) ((ok73 hl).spec (73, e73) (List.mem_cons_self (l := tS0)))) ((ok72 hl).fair (72, e72) (List.mem_cons_self (l := tS0))) ((ok72 hl).spec (72, e72) (List.mem_cons_self (l := tS0)))) ((ok98 hl).fair (98, e98) (List.mem_cons_self (l := tS0))) ((ok98 hl).spec (98, e98) (List.mem_cons_self (l := tS0)))
def d61 (ds : List D) : Option (Int × Int × Int × ByteArray × List D) := match ds with
  | [.agg [.val (.int .i64 a0), .val (.int .i64 a1), .val (.int .i64 a2), .val (.string a3), .slice a4]] => some (a0, a1, a2, a3, a4)
  | _ => none
def r61 (v : AV) : Option (Bool) := match toPR v with
  | some (.one (.val (.bool a5))) => some a5
  | _ => none
def n61 : Int × Int × Int × ByteArray × List D → Option (Bool) := fun (a0, a1, a2, a3, a4) => ((n95 64 (0, a0, a1, a2, a3, a4, 1)).bind fun y6 => (some (bif (decide (y6.1 ≤ 16)) then (decide (y6.2 ≤ 4096)) else false)))
def e61 : PureE := mkE d61 n61 (fun a5 => .one (.val (.bool a5)))
def g61 {σ : Type} : Nat → Option (SegE σ)
  | _ => none
theorem N61 : ∀ a, n61 a = bodyK (cfgOf Tryz.prog (tabsS1 gl) tS1) (toldOf tS1) noY (inlN (cfgOf Tryz.prog (tabsS1 gl) tS1) (toldOf tS1) noY) g61 61 Tryz.f61 (((fun (a0, a1, a2, a3, a4) => [.agg [.val (.int .i64 a0), .val (.int .i64 a1), .val (.int .i64 a2), .val (.string a3), .slice a4]] : (Int × Int × Int × ByteArray × List D) → List D) a).map .d) [] [] () (retK fun v _ _ _ => r61 v) := by
  intro a
  obtain ⟨a0, a1, a2, a3, a4⟩ := a
  kernel_rfl
noncomputable def t61 : Tab := (61, e61) :: tS1
theorem ok61 (hl : LibFits gl) : TabOk Tryz.prog gl t61 :=
  told_fn (okS1 hl) mixed (oddOkS1 hl) methOk Tryz.func61 (by kernel_rfl) (by kernel_rfl) (by kernel_rfl) (segs_no (by kernel_rfl))
    (args := fun (a0, a1, a2, a3, a4) => [.agg [.val (.int .i64 a0), .val (.int .i64 a1), .val (.int .i64 a2), .val (.string a3), .slice a4]]) (res := r61)
    (fun ds a h => by
      unfold d61 at h
      split at h
      · cases h; rfl
      · cases h)
    (fun v r h => by
      unfold r61 at h
      split at h
      · rename_i hv; cases h; exact hv
      · cases h)
    N61
abbrev A63_0 := List D × Int × Int × Int × Int × Int × ByteArray × List D × Int × Int × Int × ByteArray × List D
inductive O63_0 where
  | x0 (o32 : Int) (o33 : Int) (o34 : Int) (o35 : Int) (o36 : ByteArray) (o37 : List D) (o38 : Int) (o39 : Int) (o40 : Int) (o41 : ByteArray) (o42 : List D) (q43 : Nat)
  | x1 (o44 : Int) (o45 : Int) (o46 : Int) (o47 : ByteArray) (o48 : List D) (o49 : Int) (o50 : Int) (o51 : Int) (o52 : ByteArray) (o53 : List D) (q54 : Nat)
def l63_0 : LoopS A63_0 O63_0 where
  n := 92
  ks := [2, 3, 63, 64, 65]
  kso := [2, 3, 4]
  m := 2
  mt := 1
  decV := fun vs bs ts => match vs, bs, ts with
    | [.ptr 0 0, .ptr 1 0, .osl 0 v16, .d (.val (.int .i64 v17)), .d (.val (.int .i64 v18))], [.cells none [.d (.val (.int .i64 v19)), .d (.val (.int .i64 v20)), .d (.val (.int .i64 v21)), .d (.val (.string v22)), .d (.slice v23)], .cells none [.d (.val (.int .i64 v24)), .d (.val (.int .i64 v25)), .d (.val (.int .i64 v26)), .d (.val (.string v27)), .d (.slice v28)]], [_] => some (v16, v17, v18, v19, v20, v21, v22, v23, v24, v25, v26, v27, v28)
    | _, _, _ => none
  encV := fun (v16, v17, v18, v19, v20, v21, v22, v23, v24, v25, v26, v27, v28) => [.ptr 0 0, .ptr 1 0, .osl 0 v16, .d (.val (.int .i64 v17)), .d (.val (.int .i64 v18))]
  encB := fun (v16, v17, v18, v19, v20, v21, v22, v23, v24, v25, v26, v27, v28) => [.cells none [.d (.val (.int .i64 v19)), .d (.val (.int .i64 v20)), .d (.val (.int .i64 v21)), .d (.val (.string v22)), .d (.slice v23)], .cells none [.d (.val (.int .i64 v24)), .d (.val (.int .i64 v25)), .d (.val (.int .i64 v26)), .d (.val (.string v27)), .d (.slice v28)]]
  tk := fun (v16, v17, v18, v19, v20, v21, v22, v23, v24, v25, v26, v27, v28) => [v16.length]
  decO := fun ex vs bs ts => match ex, vs, bs, ts with
    | .ret, [.undef, .undef, .d (.val (.int .i64 o32))], [.cells none [.d (.val (.int .i64 o33)), .d (.val (.int .i64 o34)), .d (.val (.int .i64 o35)), .d (.val (.string o36)), .d (.slice o37)], .cells none [.d (.val (.int .i64 o38)), .d (.val (.int .i64 o39)), .d (.val (.int .i64 o40)), .d (.val (.string o41)), .d (.slice o42)]], [q43] => some (.x0 o32 o33 o34 o35 o36 o37 o38 o39 o40 o41 o42 q43)
    | .normal, [.ptr 0 0, .ptr 1 0, .undef], [.cells none [.d (.val (.int .i64 o44)), .d (.val (.int .i64 o45)), .d (.val (.int .i64 o46)), .d (.val (.string o47)), .d (.slice o48)], .cells none [.d (.val (.int .i64 o49)), .d (.val (.int .i64 o50)), .d (.val (.int .i64 o51)), .d (.val (.string o52)), .d (.slice o53)]], [q54] => some (.x1 o44 o45 o46 o47 o48 o49 o50 o51 o52 o53 q54)
    | _, _, _, _ => none
  exO := fun x => match x with
    | .x0 o32 o33 o34 o35 o36 o37 o38 o39 o40 o41 o42 q43 => .ret
    | .x1 o44 o45 o46 o47 o48 o49 o50 o51 o52 o53 q54 => .normal
  outV := fun x => match x with
    | .x0 o32 o33 o34 o35 o36 o37 o38 o39 o40 o41 o42 q43 => [.undef, .undef, .d (.val (.int .i64 o32))]
    | .x1 o44 o45 o46 o47 o48 o49 o50 o51 o52 o53 q54 => [.ptr 0 0, .ptr 1 0, .undef]
  outB := fun x => match x with
    | .x0 o32 o33 o34 o35 o36 o37 o38 o39 o40 o41 o42 q43 => [.cells none [.d (.val (.int .i64 o33)), .d (.val (.int .i64 o34)), .d (.val (.int .i64 o35)), .d (.val (.string o36)), .d (.slice o37)], .cells none [.d (.val (.int .i64 o38)), .d (.val (.int .i64 o39)), .d (.val (.int .i64 o40)), .d (.val (.string o41)), .d (.slice o42)]]
    | .x1 o44 o45 o46 o47 o48 o49 o50 o51 o52 o53 q54 => [.cells none [.d (.val (.int .i64 o44)), .d (.val (.int .i64 o45)), .d (.val (.int .i64 o46)), .d (.val (.string o47)), .d (.slice o48)], .cells none [.d (.val (.int .i64 o49)), .d (.val (.int .i64 o50)), .d (.val (.int .i64 o51)), .d (.val (.string o52)), .d (.slice o53)]]
  tkO := fun x => match x with
    | .x0 o32 o33 o34 o35 o36 o37 o38 o39 o40 o41 o42 q43 => [q43]
    | .x1 o44 o45 o46 o47 o48 o49 o50 o51 o52 o53 q54 => [q54]
  elim := fun x k => match x with
    | .x0 o32 o33 o34 o35 o36 o37 o38 o39 o40 o41 o42 q43 => k .ret [.undef, .undef, .d (.val (.int .i64 o32))] [.cells none [.d (.val (.int .i64 o33)), .d (.val (.int .i64 o34)), .d (.val (.int .i64 o35)), .d (.val (.string o36)), .d (.slice o37)], .cells none [.d (.val (.int .i64 o38)), .d (.val (.int .i64 o39)), .d (.val (.int .i64 o40)), .d (.val (.string o41)), .d (.slice o42)]] [q43]
    | .x1 o44 o45 o46 o47 o48 o49 o50 o51 o52 o53 q54 => k .normal [.ptr 0 0, .ptr 1 0, .undef] [.cells none [.d (.val (.int .i64 o44)), .d (.val (.int .i64 o45)), .d (.val (.int .i64 o46)), .d (.val (.string o47)), .d (.slice o48)], .cells none [.d (.val (.int .i64 o49)), .d (.val (.int .i64 o50)), .d (.val (.int .i64 o51)), .d (.val (.string o52)), .d (.slice o53)]] [q54]
theorem k63_0 : l63_0.Ok where
  ok1 := by kernel_rfl
  ok2 := by kernel_rfl
  dec := by
    intro vs bs ts a h
    simp only [l63_0] at h ⊢
    split at h
    · cases h; exact ⟨rfl, rfl⟩
    · cases h
  out := by
    intro ex vs bs ts o h
    simp only [l63_0] at h ⊢
    split at h
    · cases h; exact ⟨rfl, rfl, rfl⟩
    · cases h; exact ⟨rfl, rfl, rfl⟩
    · cases h
  len := fun _ => ⟨rfl, rfl⟩
  elim := fun β o k => by cases o <;> rfl
def L63_0 {σ : Type} (F : Int × Int × Int × ByteArray × List D × Int × Int × Int × ByteArray × List D → Option (Int)) : Nat → A63_0 → σ → Option (O63_0 × σ)
  | 0, _, _ => none
  | n+1, (v16, v17, v18, v19, v20, v21, v22, v23, v24, v25, v26, v27, v28), s => (bif (decide (v18 < v17)) then ((lidx v16 v18).bind fun d29 => ask (d29.cells.length = 1) ((cellAt 0 d29).bind fun x30 => (asInt .i64 x30).bind fun x31 => (bif (x31 != 0) then (ask (([v16.length] : List Nat) = [v16.length]) (some (O63_0.x0 x31 v19 v20 v21 v22 v23 v24 v25 v26 v27 v28 v16.length, s))) else (ask (([v16.length] : List Nat) = [v16.length]) (L63_0 F n (v16, v17, (w64 (v18 + 1)), v19, v20, v21, v22, v23, v24, v25, v26, v27, v28) s))))) else (ask (([v16.length] : List Nat) = [v16.length]) (some (O63_0.x1 v19 v20 v21 v22 v23 v24 v25 v26 v27 v28 v16.length, s))))
abbrev A63_2 := List D × Int × Int × Int × Int × Int × ByteArray × List D × Int × Int × Int × ByteArray × List D × Nat
inductive O63_2 where
  | x0 (o116 : Int) (o117 : Int) (o118 : Int) (o119 : Int) (o120 : ByteArray) (o121 : List D) (o122 : Int) (o123 : Int) (o124 : Int) (o125 : ByteArray) (o126 : List D) (q127 : Nat)
  | x1 (o128 : Int) (o129 : Int) (o130 : Int) (o131 : ByteArray) (o132 : List D) (o133 : Int) (o134 : Int) (o135 : Int) (o136 : ByteArray) (o137 : List D) (q138 : Nat)
def l63_2 : LoopS A63_2 O63_2 where
  n := 92
  ks := [3, 74, 75, 76]
  kso := [4]
  m := 2
  mt := 1
  decV := fun vs bs ts => match vs, bs, ts with
    | [.ptr 1 0, .d (.slice v79), .d (.val (.int .i64 v80)), .d (.val (.int .i64 v81))], [.cells none [.d (.val (.int .i64 v82)), .d (.val (.int .i64 v83)), .d (.val (.int .i64 v84)), .d (.val (.string v85)), .d (.slice v86)], .cells none [.d (.val (.int .i64 v87)), .d (.val (.int .i64 v88)), .d (.val (.int .i64 v89)), .d (.val (.string v90)), .d (.slice v91)]], [k92] => some (v79, v80, v81, v82, v83, v84, v85, v86, v87, v88, v89, v90, v91, k92)
    | _, _, _ => none
  encV := fun (v79, v80, v81, v82, v83, v84, v85, v86, v87, v88, v89, v90, v91, k92) => [.ptr 1 0, .d (.slice v79), .d (.val (.int .i64 v80)), .d (.val (.int .i64 v81))]
  encB := fun (v79, v80, v81, v82, v83, v84, v85, v86, v87, v88, v89, v90, v91, k92) => [.cells none [.d (.val (.int .i64 v82)), .d (.val (.int .i64 v83)), .d (.val (.int .i64 v84)), .d (.val (.string v85)), .d (.slice v86)], .cells none [.d (.val (.int .i64 v87)), .d (.val (.int .i64 v88)), .d (.val (.int .i64 v89)), .d (.val (.string v90)), .d (.slice v91)]]
  tk := fun (v79, v80, v81, v82, v83, v84, v85, v86, v87, v88, v89, v90, v91, k92) => [k92]
  decO := fun ex vs bs ts => match ex, vs, bs, ts with
    | .ret, [.d (.val (.int .i64 o116))], [.cells none [.d (.val (.int .i64 o117)), .d (.val (.int .i64 o118)), .d (.val (.int .i64 o119)), .d (.val (.string o120)), .d (.slice o121)], .cells none [.d (.val (.int .i64 o122)), .d (.val (.int .i64 o123)), .d (.val (.int .i64 o124)), .d (.val (.string o125)), .d (.slice o126)]], [q127] => some (.x0 o116 o117 o118 o119 o120 o121 o122 o123 o124 o125 o126 q127)
    | .normal, [.undef], [.cells none [.d (.val (.int .i64 o128)), .d (.val (.int .i64 o129)), .d (.val (.int .i64 o130)), .d (.val (.string o131)), .d (.slice o132)], .cells none [.d (.val (.int .i64 o133)), .d (.val (.int .i64 o134)), .d (.val (.int .i64 o135)), .d (.val (.string o136)), .d (.slice o137)]], [q138] => some (.x1 o128 o129 o130 o131 o132 o133 o134 o135 o136 o137 q138)
    | _, _, _, _ => none
  exO := fun x => match x with
    | .x0 o116 o117 o118 o119 o120 o121 o122 o123 o124 o125 o126 q127 => .ret
    | .x1 o128 o129 o130 o131 o132 o133 o134 o135 o136 o137 q138 => .normal
  outV := fun x => match x with
    | .x0 o116 o117 o118 o119 o120 o121 o122 o123 o124 o125 o126 q127 => [.d (.val (.int .i64 o116))]
    | .x1 o128 o129 o130 o131 o132 o133 o134 o135 o136 o137 q138 => [.undef]
  outB := fun x => match x with
    | .x0 o116 o117 o118 o119 o120 o121 o122 o123 o124 o125 o126 q127 => [.cells none [.d (.val (.int .i64 o117)), .d (.val (.int .i64 o118)), .d (.val (.int .i64 o119)), .d (.val (.string o120)), .d (.slice o121)], .cells none [.d (.val (.int .i64 o122)), .d (.val (.int .i64 o123)), .d (.val (.int .i64 o124)), .d (.val (.string o125)), .d (.slice o126)]]
    | .x1 o128 o129 o130 o131 o132 o133 o134 o135 o136 o137 q138 => [.cells none [.d (.val (.int .i64 o128)), .d (.val (.int .i64 o129)), .d (.val (.int .i64 o130)), .d (.val (.string o131)), .d (.slice o132)], .cells none [.d (.val (.int .i64 o133)), .d (.val (.int .i64 o134)), .d (.val (.int .i64 o135)), .d (.val (.string o136)), .d (.slice o137)]]
  tkO := fun x => match x with
    | .x0 o116 o117 o118 o119 o120 o121 o122 o123 o124 o125 o126 q127 => [q127]
    | .x1 o128 o129 o130 o131 o132 o133 o134 o135 o136 o137 q138 => [q138]
  elim := fun x k => match x with
    | .x0 o116 o117 o118 o119 o120 o121 o122 o123 o124 o125 o126 q127 => k .ret [.d (.val (.int .i64 o116))] [.cells none [.d (.val (.int .i64 o117)), .d (.val (.int .i64 o118)), .d (.val (.int .i64 o119)), .d (.val (.string o120)), .d (.slice o121)], .cells none [.d (.val (.int .i64 o122)), .d (.val (.int .i64 o123)), .d (.val (.int .i64 o124)), .d (.val (.string o125)), .d (.slice o126)]] [q127]
    | .x1 o128 o129 o130 o131 o132 o133 o134 o135 o136 o137 q138 => k .normal [.undef] [.cells none [.d (.val (.int .i64 o128)), .d (.val (.int .i64 o129)), .d (.val (.int .i64 o130)), .d (.val (.string o131)), .d (.slice o132)], .cells none [.d (.val (.int .i64 o133)), .d (.val (.int .i64 o134)), .d (.val (.int .i64 o135)), .d (.val (.string o136)), .d (.slice o137)]] [q138]
theorem k63_2 : l63_2.Ok where
  ok1 := by kernel_rfl
  ok2 := by kernel_rfl
  dec := by
    intro vs bs ts a h
    simp only [l63_2] at h ⊢
    split at h
    · cases h; exact ⟨rfl, rfl⟩
    · cases h
  out := by
    intro ex vs bs ts o h
    simp only [l63_2] at h ⊢
    split at h
    · cases h; exact ⟨rfl, rfl, rfl⟩
    · cases h; exact ⟨rfl, rfl, rfl⟩
    · cases h
  len := fun _ => ⟨rfl, rfl⟩
  elim := fun β o k => by cases o <;> rfl
def L63_2 {σ : Type} (F : Int × Int × Int × ByteArray × List D × Int × Int × Int × ByteArray × List D → Option (Int)) : Nat → A63_2 → σ → Option (O63_2 × σ)
  | 0, _, _ => none
  | n+1, (v79, v80, v81, v82, v83, v84, v85, v86, v87, v88, v89, v90, v91, k92), s => (bif (decide (v81 < v80)) then ((lidx v79 v81).bind fun d93 => ask (d93.cells.length = 5) ((cellAt 0 d93).bind fun x94 => (asInt .i64 x94).bind fun x95 => ((cellAt 1 d93).bind fun x96 => (asInt .i64 x96).bind fun x97 => ((cellAt 2 d93).bind fun x98 => (asInt .i64 x98).bind fun x99 => ((cellAt 3 d93).bind fun x100 => (asStr x100).bind fun x101 => ((cellAt 4 d93).bind fun x102 => (asRow x102).bind fun x103 => ((lidx v91 v81).bind fun d104 => ask (d104.cells.length = 5) ((cellAt 0 d104).bind fun x105 => (asInt .i64 x105).bind fun x106 => ((cellAt 1 d104).bind fun x107 => (asInt .i64 x107).bind fun x108 => ((cellAt 2 d104).bind fun x109 => (asInt .i64 x109).bind fun x110 => ((cellAt 3 d104).bind fun x111 => (asStr x111).bind fun x112 => ((cellAt 4 d104).bind fun x113 => (asRow x113).bind fun x114 => ((F (x95, x97, x99, x101, x103, x106, x108, x110, x112, x114)).bind fun y115 => (bif (y115 != 0) then (ask (([k92] : List Nat) = [k92]) (some (O63_2.x0 y115 v82 v83 v84 v85 v86 v87 v88 v89 v90 v91 k92, s))) else (ask (([k92] : List Nat) = [k92]) (L63_2 F n (v79, v80, (w64 (v81 + 1)), v82, v83, v84, v85, v86, v87, v88, v89, v90, v91, k92) s)))))))))))))))) else (ask (([k92] : List Nat) = [k92]) (some (O63_2.x1 v82 v83 v84 v85 v86 v87 v88 v89 v90 v91 k92, s))))
def d63 (ds : List D) : Option (Int × Int × Int × ByteArray × List D × Int × Int × Int × ByteArray × List D) := match ds with
  | [.agg [.val (.int .i64 a0), .val (.int .i64 a1), .val (.int .i64 a2), .val (.string a3), .slice a4], .agg [.val (.int .i64 a5), .val (.int .i64 a6), .val (.int .i64 a7), .val (.string a8), .slice a9]] => some (a0, a1, a2, a3, a4, a5, a6, a7, a8, a9)
  | _ => none
def r63 (v : AV) : Option (Int) := match toPR v with
  | some (.one (.val (.int .i64 a10))) => some a10
  | _ => none
def n63 : Nat → Int × Int × Int × ByteArray × List D × Int × Int × Int × ByteArray × List D → Option (Int)
  | 0, _ => none
  | k + 1, (a0, a1, a2, a3, a4, a5, a6, a7, a8, a9) => (bif (a0 != a5) then ((n98 ((decide (a0 < a5)), true)).bind fun y11 => (some y11)) else (bif (((a4.length : Nat) : Int) != ((a9.length : Nat) : Int)) then ((n98 ((decide (((a4.length : Nat) : Int) < ((a9.length : Nat) : Int))), true)).bind fun y12 => (some y12)) else ((n98 ((decide (a1 < a6)), (decide (a1 > a6)))).bind fun y13 => ((n98 ((decide (a2 < a7)), (decide (a2 > a7)))).bind fun y14 => ((n99 (a3, a8)).bind fun y15 => (ask (([3] : List Nat) = [([.val (.int .i64 y13), .val (.int .i64 y14), .val (.int .i64 y15)] : List D).length]) ((L63_0 (n63 k) 1000000000000 (([.val (.int .i64 y13), .val (.int .i64 y14), .val (.int .i64 y15)] : List D), ((([.val (.int .i64 y13), .val (.int .i64 y14), .val (.int .i64 y15)] : List D).length : Nat) : Int), 0, a0, a1, a2, a3, a4, a5, a6, a7, a8, a9) ()).bind fun p55 => match p55.1 with | .x0 z56 z57 z58 z59 z60 z61 z62 z63 z64 z65 z66 z67 => (some z56) | .x1 z68 z69 z70 z71 z72 z73 z74 z75 z76 z77 z78 => (ask (([z78] : List Nat) = [z78]) ((L63_2 (n63 k) 1000000000000 (z72, ((z72.length : Nat) : Int), 0, z68, z69, z70, z71, z72, z73, z74, z75, z76, z77, z78) p55.2).bind fun p139 => match p139.1 with | .x0 z140 z141 z142 z143 z144 z145 z146 z147 z148 z149 z150 z151 => (some z140) | .x1 z152 z153 z154 z155 z156 z157 z158 z159 z160 z161 z162 => (some 0))))))))))
def e63 : PureE := mkE d63 (n63 64) (fun a10 => .one (.val (.int .i64 a10)))
def g63 (k : Nat) {σ : Type} : Nat → Option (SegE σ)
  | 0 => some (l63_0.seg σ (L63_0 (n63 k) 1000000000000))
  | 2 => some (l63_2.seg σ (L63_2 (n63 k) 1000000000000))
  | _ => none
theorem E63_0 {σ : Type} (k : Nat) (Y : Yd σ) : ∀ n a (s : σ), L63_0 (n63 k) (n + 1) a s = evK (cfgOf Tryz.prog (tabsS1 gl) (((63, mkE d63 (n63 k) (fun a10 => .one (.val (.int .i64 a10)))) :: tS1) : Tab)) (toldOf (((63, mkE d63 (n63 k) (fun a10 => .one (.val (.int .i64 a10)))) :: tS1) : Tab)) Y (inlN (cfgOf Tryz.prog (tabsS1 gl) (((63, mkE d63 (n63 k) (fun a10 => .one (.val (.int .i64 a10)))) :: tS1) : Tab)) (toldOf (((63, mkE d63 (n63 k) (fun a10 => .one (.val (.int .i64 a10)))) :: tS1) : Tab)) Y) (g63 k) 63 (loopAt Tryz.f63 0) ((l63_0.toT σ).enc a s) (fun ex st' => l63_0.next (cfgOf Tryz.prog (tabsS1 gl) (((63, mkE d63 (n63 k) (fun a10 => .one (.val (.int .i64 a10)))) :: tS1) : Tab)) 63 0 (L63_0 (n63 k) n) ex st') := by
  intro n ⟨v16, v17, v18, v19, v20, v21, v22, v23, v24, v25, v26, v27, v28⟩ s
  kernel_rfl
theorem Q63_0 {σ : Type} (hl : LibFits gl) (k : Nat) (hk : TabOk Tryz.prog gl (((63, mkE d63 (n63 k) (fun a10 => .one (.val (.int .i64 a10)))) :: tS1) : Tab)) (Y : Yd σ) (rnd : Bool) : SegOk (cfgOf Tryz.prog (tabsS1 gl) (((63, mkE d63 (n63 k) (fun a10 => .one (.val (.int .i64 a10)))) :: tS1) : Tab)) (evFn (cfgOf Tryz.prog (tabsS1 gl) (((63, mkE d63 (n63 k) (fun a10 => .one (.val (.int .i64 a10)))) :: tS1) : Tab)) 9) 63 rnd Y (l63_0.seg σ (L63_0 (n63 k) 1000000000000)) (.block 0 (.loop (loopAt Tryz.f63 0))) :=
  told_loop hk k63_0 (by kernel_rfl) (by kernel_rfl) (fun _ _ => rfl) (segs_no (by kernel_rfl)) (E63_0 k Y) (hr := by kernel_rfl)
theorem E63_2 {σ : Type} (k : Nat) (Y : Yd σ) : ∀ n a (s : σ), L63_2 (n63 k) (n + 1) a s = evK (cfgOf Tryz.prog (tabsS1 gl) (((63, mkE d63 (n63 k) (fun a10 => .one (.val (.int .i64 a10)))) :: tS1) : Tab)) (toldOf (((63, mkE d63 (n63 k) (fun a10 => .one (.val (.int .i64 a10)))) :: tS1) : Tab)) Y (inlN (cfgOf Tryz.prog (tabsS1 gl) (((63, mkE d63 (n63 k) (fun a10 => .one (.val (.int .i64 a10)))) :: tS1) : Tab)) (toldOf (((63, mkE d63 (n63 k) (fun a10 => .one (.val (.int .i64 a10)))) :: tS1) : Tab)) Y) (g63 k) 63 (loopAt Tryz.f63 2) ((l63_2.toT σ).enc a s) (fun ex st' => l63_2.next (cfgOf Tryz.prog (tabsS1 gl) (((63, mkE d63 (n63 k) (fun a10 => .one (.val (.int .i64 a10)))) :: tS1) : Tab)) 63 2 (L63_2 (n63 k) n) ex st') := by
  intro n ⟨v79, v80, v81, v82, v83, v84, v85, v86, v87, v88, v89, v90, v91, k92⟩ s
  kernel_rfl
theorem Q63_2 {σ : Type} (hl : LibFits gl) (k : Nat) (hk : TabOk Tryz.prog gl (((63, mkE d63 (n63 k) (fun a10 => .one (.val (.int .i64 a10)))) :: tS1) : Tab)) (Y : Yd σ) (rnd : Bool) : SegOk (cfgOf Tryz.prog (tabsS1 gl) (((63, mkE d63 (n63 k) (fun a10 => .one (.val (.int .i64 a10)))) :: tS1) : Tab)) (evFn (cfgOf Tryz.prog (tabsS1 gl) (((63, mkE d63 (n63 k) (fun a10 => .one (.val (.int .i64 a10)))) :: tS1) : Tab)) 9) 63 rnd Y (l63_2.seg σ (L63_2 (n63 k) 1000000000000)) (.block 2 (.loop (loopAt Tryz.f63 2))) :=
  told_loop hk k63_2 (by kernel_rfl) (by kernel_rfl) (fun _ _ => rfl) (segs_no (by kernel_rfl)) (E63_2 k Y) (hr := by kernel_rfl)
theorem N63 : ∀ k a, n63 (k + 1) a = bodyK (cfgOf Tryz.prog (tabsS1 gl) (((63, mkE d63 (n63 k) (fun a10 => .one (.val (.int .i64 a10)))) :: tS1) : Tab)) (toldOf (((63, mkE d63 (n63 k) (fun a10 => .one (.val (.int .i64 a10)))) :: tS1) : Tab)) noY (inlN (cfgOf Tryz.prog (tabsS1 gl) (((63, mkE d63 (n63 k) (fun a10 => .one (.val (.int .i64 a10)))) :: tS1) : Tab)) (toldOf (((63, mkE d63 (n63 k) (fun a10 => .one (.val (.int .i64 a10)))) :: tS1) : Tab)) noY) (g63 k) 63 Tryz.f63 (((fun (a0, a1, a2, a3, a4, a5, a6, a7, a8, a9) => [.agg [.val (.int .i64 a0), .val (.int .i64 a1), .val (.int .i64 a2), .val (.string a3), .slice a4], .agg [.val (.int .i64 a5), .val (.int .i64 a6), .val (.int .i64 a7), .val (.string a8), .slice a9]] : (Int × Int × Int × ByteArray × List D × Int × Int × Int × ByteArray × List D) → List D) a).map .d) [] [] () (retK fun v _ _ _ => r63 v) := by
  intro k a
  obtain ⟨a0, a1, a2, a3, a4, a5, a6, a7, a8, a9⟩ := a
  kernel_rfl
noncomputable def t63 : Tab := (63, e63) :: tS1
theorem ok63 (hl : LibFits gl) : TabOk Tryz.prog gl t63 :=
  told_rec (t := tabsS1 gl) (okS1 hl) mixed (oddOkS1 hl) methOk Tryz.func63 (by kernel_rfl) (nat := n63) (seg := fun k => g63 k) (by kernel_rfl) (fun k hk => (fun p hp e he => by
    have hq : segsOf (σ := Unit) (g63 k (σ := Unit)) (bodyOf Tryz.f63) = [(0, .loop (loopAt Tryz.f63 0)), (2, .loop (loopAt Tryz.f63 2))] := by kernel_rfl
    rw [hq] at hp
    simp only [List.mem_cons, List.not_mem_nil, or_false] at hp
    rcases hp with rfl | rfl
    · cases he; exact Q63_0 hl k hk _ _
    · cases he; exact Q63_2 hl k hk _ _
    ))
    (args := fun (a0, a1, a2, a3, a4, a5, a6, a7, a8, a9) => [.agg [.val (.int .i64 a0), .val (.int .i64 a1), .val (.int .i64 a2), .val (.string a3), .slice a4], .agg [.val (.int .i64 a5), .val (.int .i64 a6), .val (.int .i64 a7), .val (.string a8), .slice a9]]) (res := r63)
    (fun ds a h => by
      unfold d63 at h
      split at h
      · cases h; rfl
      · cases h)
    (fun v r h => by
      unfold r63 at h
      split at h
      · rename_i hv; cases h; exact hv
      · cases h)
    (fun _ => rfl) N63 64
def d104 (ds : List D) : Option (ByteArray × Int) := match ds with
  | [.val (.string a0), .val (.int .i64 a1)] => some (a0, a1)
  | _ => none
def r104 (v : AV) : Option (Int × Int × Int) := match toPR v with
  | some (.one (.agg [.val (.int .i64 a2), .val (.int .i64 a3), .val (.int .i64 a4)])) => some (a2, a3, a4)
  | _ => none
def n104 : ByteArray × Int → Option (Int × Int × Int) := fun (a0, a1) => ((sidx a0 a1).bind fun c5 => (bif (decide ((c5.toNat : Int) < 128)) then (some ((w64 (c5.toNat : Int)), a1, 1)) else (bif (bif (decide ((c5.toNat : Int) ≥ 194)) then (decide ((c5.toNat : Int) ≤ 223)) else false) then ((n115 (a0, (w64 (a1 + 1)), 128, 191)).bind fun y6 => (bif y6 then ((sidx a0 (w64 (a1 + 1))).bind fun c7 => (some ((bOr .i64 (w64 ((w64 (bAnd .u8 (c5.toNat : Int) 31)) * 2 ^ (min (Int.toNat 6) 64))) (w64 (bAnd .u8 (c7.toNat : Int) 63))), a1, 2))) else (some ((-1), a1, 1)))) else (bif (bif (decide ((c5.toNat : Int) ≥ 224)) then (decide ((c5.toNat : Int) ≤ 239)) else false) then (bif ((c5.toNat : Int) == 224) then (bif ((c5.toNat : Int) == 237) then ((n115 (a0, (w64 (a1 + 1)), 160, 159)).bind fun y8 => (bif y8 then ((n115 (a0, (w64 (a1 + 2)), 128, 191)).bind fun y9 => (bif y9 then ((sidx a0 (w64 (a1 + 1))).bind fun c10 => ((sidx a0 (w64 (a1 + 2))).bind fun c11 => (some ((bOr .i64 (bOr .i64 (w64 ((w64 (bAnd .u8 (c5.toNat : Int) 15)) * 2 ^ (min (Int.toNat 12) 64))) (w64 ((w64 (bAnd .u8 (c10.toNat : Int) 63)) * 2 ^ (min (Int.toNat 6) 64)))) (w64 (bAnd .u8 (c11.toNat : Int) 63))), a1, 3)))) else (some ((-1), a1, 1)))) else (some ((-1), a1, 1)))) else ((n115 (a0, (w64 (a1 + 1)), 160, 191)).bind fun y12 => (bif y12 then ((n115 (a0, (w64 (a1 + 2)), 128, 191)).bind fun y13 => (bif y13 then ((sidx a0 (w64 (a1 + 1))).bind fun c14 => ((sidx a0 (w64 (a1 + 2))).bind fun c15 => (some ((bOr .i64 (bOr .i64 (w64 ((w64 (bAnd .u8 (c5.toNat : Int) 15)) * 2 ^ (min (Int.toNat 12) 64))) (w64 ((w64 (bAnd .u8 (c14.toNat : Int) 63)) * 2 ^ (min (Int.toNat 6) 64)))) (w64 (bAnd .u8 (c15.toNat : Int) 63))), a1, 3)))) else (some ((-1), a1, 1)))) else (some ((-1), a1, 1))))) else (bif ((c5.toNat : Int) == 237) then ((n115 (a0, (w64 (a1 + 1)), 128, 159)).bind fun y16 => (bif y16 then ((n115 (a0, (w64 (a1 + 2)), 128, 191)).bind fun y17 => (bif y17 then ((sidx a0 (w64 (a1 + 1))).bind fun c18 => ((sidx a0 (w64 (a1 + 2))).bind fun c19 => (some ((bOr .i64 (bOr .i64 (w64 ((w64 (bAnd .u8 (c5.toNat : Int) 15)) * 2 ^ (min (Int.toNat 12) 64))) (w64 ((w64 (bAnd .u8 (c18.toNat : Int) 63)) * 2 ^ (min (Int.toNat 6) 64)))) (w64 (bAnd .u8 (c19.toNat : Int) 63))), a1, 3)))) else (some ((-1), a1, 1)))) else (some ((-1), a1, 1)))) else ((n115 (a0, (w64 (a1 + 1)), 128, 191)).bind fun y20 => (bif y20 then ((n115 (a0, (w64 (a1 + 2)), 128, 191)).bind fun y21 => (bif y21 then ((sidx a0 (w64 (a1 + 1))).bind fun c22 => ((sidx a0 (w64 (a1 + 2))).bind fun c23 => (some ((bOr .i64 (bOr .i64 (w64 ((w64 (bAnd .u8 (c5.toNat : Int) 15)) * 2 ^ (min (Int.toNat 12) 64))) (w64 ((w64 (bAnd .u8 (c22.toNat : Int) 63)) * 2 ^ (min (Int.toNat 6) 64)))) (w64 (bAnd .u8 (c23.toNat : Int) 63))), a1, 3)))) else (some ((-1), a1, 1)))) else (some ((-1), a1, 1)))))) else (bif (bif (decide ((c5.toNat : Int) ≥ 240)) then (decide ((c5.toNat : Int) ≤ 244)) else false) then (bif ((c5.toNat : Int) == 240) then (bif ((c5.toNat : Int) == 244) then ((n115 (a0, (w64 (a1 + 1)), 144, 143)).bind fun y24 => (bif y24 then ((n115 (a0, (w64 (a1 + 2)), 128, 191)).bind fun y25 => (bif y25 then ((n115 (a0, (w64 (a1 + 3)), 128, 191)).bind fun y26 => (bif y26 then ((sidx a0 (w64 (a1 + 1))).bind fun c27 => ((sidx a0 (w64 (a1 + 2))).bind fun c28 => ((sidx a0 (w64 (a1 + 3))).bind fun c29 => (some ((bOr .i64 (bOr .i64 (bOr .i64 (w64 ((w64 (bAnd .u8 (c5.toNat : Int) 7)) * 2 ^ (min (Int.toNat 18) 64))) (w64 ((w64 (bAnd .u8 (c27.toNat : Int) 63)) * 2 ^ (min (Int.toNat 12) 64)))) (w64 ((w64 (bAnd .u8 (c28.toNat : Int) 63)) * 2 ^ (min (Int.toNat 6) 64)))) (w64 (bAnd .u8 (c29.toNat : Int) 63))), a1, 4))))) else (some ((-1), a1, 1)))) else (some ((-1), a1, 1)))) else (some ((-1), a1, 1)))) else ((n115 (a0, (w64 (a1 + 1)), 144, 191)).bind fun y30 => (bif y30 then ((n115 (a0, (w64 (a1 + 2)), 128, 191)).bind fun y31 => (bif y31 then ((n115 (a0, (w64 (a1 + 3)), 128, 191)).bind fun y32 => (bif y32 then ((sidx a0 (w64 (a1 + 1))).bind fun c33 => ((sidx a0 (w64 (a1 + 2))).bind fun c34 => ((sidx a0 (w64 (a1 + 3))).bind fun c35 => (some ((bOr .i64 (bOr .i64 (bOr .i64 (w64 ((w64 (bAnd .u8 (c5.toNat : Int) 7)) * 2 ^ (min (Int.toNat 18) 64))) (w64 ((w64 (bAnd .u8 (c33.toNat : Int) 63)) * 2 ^ (min (Int.toNat 12) 64)))) (w64 ((w64 (bAnd .u8 (c34.toNat : Int) 63)) * 2 ^ (min (Int.toNat 6) 64)))) (w64 (bAnd .u8 (c35.toNat : Int) 63))), a1, 4))))) else (some ((-1), a1, 1)))) else (some ((-1), a1, 1)))) else (some ((-1), a1, 1))))) else (bif ((c5.toNat : Int) == 244) then ((n115 (a0, (w64 (a1 + 1)), 128, 143)).bind fun y36 => (bif y36 then ((n115 (a0, (w64 (a1 + 2)), 128, 191)).bind fun y37 => (bif y37 then ((n115 (a0, (w64 (a1 + 3)), 128, 191)).bind fun y38 => (bif y38 then ((sidx a0 (w64 (a1 + 1))).bind fun c39 => ((sidx a0 (w64 (a1 + 2))).bind fun c40 => ((sidx a0 (w64 (a1 + 3))).bind fun c41 => (some ((bOr .i64 (bOr .i64 (bOr .i64 (w64 ((w64 (bAnd .u8 (c5.toNat : Int) 7)) * 2 ^ (min (Int.toNat 18) 64))) (w64 ((w64 (bAnd .u8 (c39.toNat : Int) 63)) * 2 ^ (min (Int.toNat 12) 64)))) (w64 ((w64 (bAnd .u8 (c40.toNat : Int) 63)) * 2 ^ (min (Int.toNat 6) 64)))) (w64 (bAnd .u8 (c41.toNat : Int) 63))), a1, 4))))) else (some ((-1), a1, 1)))) else (some ((-1), a1, 1)))) else (some ((-1), a1, 1)))) else ((n115 (a0, (w64 (a1 + 1)), 128, 191)).bind fun y42 => (bif y42 then ((n115 (a0, (w64 (a1 + 2)), 128, 191)).bind fun y43 => (bif y43 then ((n115 (a0, (w64 (a1 + 3)), 128, 191)).bind fun y44 => (bif y44 then ((sidx a0 (w64 (a1 + 1))).bind fun c45 => ((sidx a0 (w64 (a1 + 2))).bind fun c46 => ((sidx a0 (w64 (a1 + 3))).bind fun c47 => (some ((bOr .i64 (bOr .i64 (bOr .i64 (w64 ((w64 (bAnd .u8 (c5.toNat : Int) 7)) * 2 ^ (min (Int.toNat 18) 64))) (w64 ((w64 (bAnd .u8 (c45.toNat : Int) 63)) * 2 ^ (min (Int.toNat 12) 64)))) (w64 ((w64 (bAnd .u8 (c46.toNat : Int) 63)) * 2 ^ (min (Int.toNat 6) 64)))) (w64 (bAnd .u8 (c47.toNat : Int) 63))), a1, 4))))) else (some ((-1), a1, 1)))) else (some ((-1), a1, 1)))) else (some ((-1), a1, 1)))))) else (some ((-1), a1, 1)))))))
def e104 : PureE := mkE d104 n104 (fun (a2, a3, a4) => .one (.agg [.val (.int .i64 a2), .val (.int .i64 a3), .val (.int .i64 a4)]))
def g104 {σ : Type} : Nat → Option (SegE σ)
  | _ => none
theorem N104 : ∀ a, n104 a = bodyK (cfgOf Tryz.prog (tabsS1 gl) tS1) (toldOf tS1) noY (inlN (cfgOf Tryz.prog (tabsS1 gl) tS1) (toldOf tS1) noY) g104 104 Tryz.f104 (((fun (a0, a1) => [.val (.string a0), .val (.int .i64 a1)] : (ByteArray × Int) → List D) a).map .d) [] [] () (retK fun v _ _ _ => r104 v) := by
  intro a
  obtain ⟨a0, a1⟩ := a
  kernel_rfl
noncomputable def t104 : Tab := (104, e104) :: tS1
theorem ok104 (hl : LibFits gl) : TabOk Tryz.prog gl t104 :=
  told_fn (okS1 hl) mixed (oddOkS1 hl) methOk Tryz.func104 (by kernel_rfl) (by kernel_rfl) (by kernel_rfl) (segs_no (by kernel_rfl))
    (args := fun (a0, a1) => [.val (.string a0), .val (.int .i64 a1)]) (res := r104)
    (fun ds a h => by
      unfold d104 at h
      split at h
      · cases h; rfl
      · cases h)
    (fun v r h => by
      unfold r104 at h
      split at h
      · rename_i hv; cases h; exact hv
      · cases h)
    N104
def d70 (ds : List D) : Option (Int) := match ds with
  | [.val (.int .i64 a0)] => some a0
  | _ => none
def r70 (v : AV) : Option (Bool) := match toPR v with
  | some (.one (.val (.bool a1))) => some a1
  | _ => none
def n70 : Int → Option (Bool) := fun a0 => ((n69 a0).bind fun y2 => (bif y2 then (some true) else (bif (decide (a0 ≥ 48)) then (some (bif (decide (a0 ≤ 57)) then true else (a0 == 39))) else (some (a0 == 39)))))
def e70 : PureE := mkE d70 n70 (fun a1 => .one (.val (.bool a1)))
def g70 {σ : Type} : Nat → Option (SegE σ)
  | _ => none
theorem N70 : ∀ a, n70 a = bodyK (cfgOf Tryz.prog (tabsS1 gl) tS1) (toldOf tS1) noY (inlN (cfgOf Tryz.prog (tabsS1 gl) tS1) (toldOf tS1) noY) g70 70 Tryz.f70 (((fun a0 => [.val (.int .i64 a0)] : (Int) → List D) a).map .d) [] [] () (retK fun v _ _ _ => r70 v) := by
  intro a0
  kernel_rfl
noncomputable def t70 : Tab := (70, e70) :: tS1
theorem ok70 (hl : LibFits gl) : TabOk Tryz.prog gl t70 :=
  told_fn (okS1 hl) mixed (oddOkS1 hl) methOk Tryz.func70 (by kernel_rfl) (by kernel_rfl) (by kernel_rfl) (segs_no (by kernel_rfl))
    (args := fun a0 => [.val (.int .i64 a0)]) (res := r70)
    (fun ds a h => by
      unfold d70 at h
      split at h
      · cases h; rfl
      · cases h)
    (fun v r h => by
      unfold r70 at h
      split at h
      · rename_i hv; cases h; exact hv
      · cases h)
    N70
def d64 (ds : List D) : Option (Int) := match ds with
  | [.val (.int .i32 a0)] => some a0
  | _ => none
def r64 (v : AV) : Option (Bool) := match toPR v with
  | some (.one (.val (.bool a1))) => some a1
  | _ => none
def n64 : Int → Option (Bool) := fun a0 => ((n100 ()).bind fun y2 => (bif (bif (decide (a0 ≥ y2.1)) then (decide (a0 ≤ y2.2.1)) else false) then (some true) else (bif (bif (decide (a0 ≥ y2.2.2.1)) then (decide (a0 ≤ y2.2.2.2.1)) else false) then (some true) else (bif (bif (decide (a0 ≥ y2.2.2.2.2.1)) then (decide (a0 ≤ y2.2.2.2.2.2.1)) else false) then (some true) else (bif (bif (decide (a0 ≥ y2.2.2.2.2.2.2.1)) then (decide (a0 ≤ y2.2.2.2.2.2.2.2.1)) else false) then (some true) else (bif (bif (decide (a0 ≥ y2.2.2.2.2.2.2.2.2.1)) then (decide (a0 ≤ y2.2.2.2.2.2.2.2.2.2.1)) else false) then (some true) else (bif (bif (decide (a0 ≥ y2.2.2.2.2.2.2.2.2.2.2.1)) then (decide (a0 ≤ y2.2.2.2.2.2.2.2.2.2.2.2.1)) else false) then (some true) else (bif (bif (decide (a0 ≥ y2.2.2.2.2.2.2.2.2.2.2.2.2.1)) then (decide (a0 ≤ y2.2.2.2.2.2.2.2.2.2.2.2.2.2.1)) else false) then (some true) else (bif (bif (decide (a0 ≥ y2.2.2.2.2.2.2.2.2.2.2.2.2.2.2.1)) then (decide (a0 ≤ y2.2.2.2.2.2.2.2.2.2.2.2.2.2.2.2)) else false) then (some true) else (some false))))))))))
def e64 : PureE := mkE d64 n64 (fun a1 => .one (.val (.bool a1)))
def g64 {σ : Type} : Nat → Option (SegE σ)
  | _ => none
theorem N64 : ∀ a, n64 a = bodyK (cfgOf Tryz.prog (tabsS1 gl) tS1) (toldOf tS1) noY (inlN (cfgOf Tryz.prog (tabsS1 gl) tS1) (toldOf tS1) noY) g64 64 Tryz.f64 (((fun a0 => [.val (.int .i32 a0)] : (Int) → List D) a).map .d) [] [] () (retK fun v _ _ _ => r64 v) := by
  intro a0
  kernel_rfl
noncomputable def t64 : Tab := (64, e64) :: tS1
theorem ok64 (hl : LibFits gl) : TabOk Tryz.prog gl t64 :=
  told_fn (okS1 hl) mixed (oddOkS1 hl) methOk Tryz.func64 (by kernel_rfl) (by kernel_rfl) (by kernel_rfl) (segs_no (by kernel_rfl))
    (args := fun a0 => [.val (.int .i32 a0)]) (res := r64)
    (fun ds a h => by
      unfold d64 at h
      split at h
      · cases h; rfl
      · cases h)
    (fun v r h => by
      unfold r64 at h
      split at h
      · rename_i hv; cases h; exact hv
      · cases h)
    N64
abbrev A48_0 := Int × Int × Int × Int × ByteArray × List D × Int × Int × Int × ByteArray × List D
inductive O48_0 where
  | x0 (o50 : Int) (o51 : Int) (o52 : Int) (o53 : Int) (o54 : ByteArray) (o55 : List D) (o56 : Int) (o57 : Int) (o58 : Int) (o59 : ByteArray) (o60 : List D)
  | x1 (o61 : Int) (o62 : Int) (o63 : Int) (o64 : ByteArray) (o65 : List D) (o66 : Int) (o67 : Int) (o68 : Int) (o69 : ByteArray) (o70 : List D)
def l48_0 : LoopS A48_0 O48_0 where
  n := 114
  ks := [2, 3, 5]
  kso := [4]
  m := 2
  mt := 0
  decV := fun vs bs ts => match vs, bs, ts with
    | [.ptr 0 0, .ptr 1 0, .d (.val (.int .i64 v16))], [.cells none [.d (.val (.int .i64 v17)), .d (.val (.int .i64 v18)), .d (.val (.int .i64 v19)), .d (.val (.string v20)), .d (.slice v21)], .cells none [.d (.val (.int .i64 v22)), .d (.val (.int .i64 v23)), .d (.val (.int .i64 v24)), .d (.val (.string v25)), .d (.slice v26)]], [] => some (v16, v17, v18, v19, v20, v21, v22, v23, v24, v25, v26)
    | _, _, _ => none
  encV := fun (v16, v17, v18, v19, v20, v21, v22, v23, v24, v25, v26) => [.ptr 0 0, .ptr 1 0, .d (.val (.int .i64 v16))]
  encB := fun (v16, v17, v18, v19, v20, v21, v22, v23, v24, v25, v26) => [.cells none [.d (.val (.int .i64 v17)), .d (.val (.int .i64 v18)), .d (.val (.int .i64 v19)), .d (.val (.string v20)), .d (.slice v21)], .cells none [.d (.val (.int .i64 v22)), .d (.val (.int .i64 v23)), .d (.val (.int .i64 v24)), .d (.val (.string v25)), .d (.slice v26)]]
  tk := fun _ => []
  decO := fun ex vs bs ts => match ex, vs, bs, ts with
    | .ret, [.d (.val (.int .i64 o50))], [.cells none [.d (.val (.int .i64 o51)), .d (.val (.int .i64 o52)), .d (.val (.int .i64 o53)), .d (.val (.string o54)), .d (.slice o55)], .cells none [.d (.val (.int .i64 o56)), .d (.val (.int .i64 o57)), .d (.val (.int .i64 o58)), .d (.val (.string o59)), .d (.slice o60)]], [] => some (.x0 o50 o51 o52 o53 o54 o55 o56 o57 o58 o59 o60)
    | .normal, [.undef], [.cells none [.d (.val (.int .i64 o61)), .d (.val (.int .i64 o62)), .d (.val (.int .i64 o63)), .d (.val (.string o64)), .d (.slice o65)], .cells none [.d (.val (.int .i64 o66)), .d (.val (.int .i64 o67)), .d (.val (.int .i64 o68)), .d (.val (.string o69)), .d (.slice o70)]], [] => some (.x1 o61 o62 o63 o64 o65 o66 o67 o68 o69 o70)
    | _, _, _, _ => none
  exO := fun x => match x with
    | .x0 o50 o51 o52 o53 o54 o55 o56 o57 o58 o59 o60 => .ret
    | .x1 o61 o62 o63 o64 o65 o66 o67 o68 o69 o70 => .normal
  outV := fun x => match x with
    | .x0 o50 o51 o52 o53 o54 o55 o56 o57 o58 o59 o60 => [.d (.val (.int .i64 o50))]
    | .x1 o61 o62 o63 o64 o65 o66 o67 o68 o69 o70 => [.undef]
  outB := fun x => match x with
    | .x0 o50 o51 o52 o53 o54 o55 o56 o57 o58 o59 o60 => [.cells none [.d (.val (.int .i64 o51)), .d (.val (.int .i64 o52)), .d (.val (.int .i64 o53)), .d (.val (.string o54)), .d (.slice o55)], .cells none [.d (.val (.int .i64 o56)), .d (.val (.int .i64 o57)), .d (.val (.int .i64 o58)), .d (.val (.string o59)), .d (.slice o60)]]
    | .x1 o61 o62 o63 o64 o65 o66 o67 o68 o69 o70 => [.cells none [.d (.val (.int .i64 o61)), .d (.val (.int .i64 o62)), .d (.val (.int .i64 o63)), .d (.val (.string o64)), .d (.slice o65)], .cells none [.d (.val (.int .i64 o66)), .d (.val (.int .i64 o67)), .d (.val (.int .i64 o68)), .d (.val (.string o69)), .d (.slice o70)]]
  tkO := fun x => match x with
    | .x0 o50 o51 o52 o53 o54 o55 o56 o57 o58 o59 o60 => []
    | .x1 o61 o62 o63 o64 o65 o66 o67 o68 o69 o70 => []
  elim := fun x k => match x with
    | .x0 o50 o51 o52 o53 o54 o55 o56 o57 o58 o59 o60 => k .ret [.d (.val (.int .i64 o50))] [.cells none [.d (.val (.int .i64 o51)), .d (.val (.int .i64 o52)), .d (.val (.int .i64 o53)), .d (.val (.string o54)), .d (.slice o55)], .cells none [.d (.val (.int .i64 o56)), .d (.val (.int .i64 o57)), .d (.val (.int .i64 o58)), .d (.val (.string o59)), .d (.slice o60)]] []
    | .x1 o61 o62 o63 o64 o65 o66 o67 o68 o69 o70 => k .normal [.undef] [.cells none [.d (.val (.int .i64 o61)), .d (.val (.int .i64 o62)), .d (.val (.int .i64 o63)), .d (.val (.string o64)), .d (.slice o65)], .cells none [.d (.val (.int .i64 o66)), .d (.val (.int .i64 o67)), .d (.val (.int .i64 o68)), .d (.val (.string o69)), .d (.slice o70)]] []
theorem k48_0 : l48_0.Ok where
  ok1 := by kernel_rfl
  ok2 := by kernel_rfl
  dec := by
    intro vs bs ts a h
    simp only [l48_0] at h ⊢
    split at h
    · cases h; exact ⟨rfl, rfl⟩
    · cases h
  out := by
    intro ex vs bs ts o h
    simp only [l48_0] at h ⊢
    split at h
    · cases h; exact ⟨rfl, rfl, rfl⟩
    · cases h; exact ⟨rfl, rfl, rfl⟩
    · cases h
  len := fun _ => ⟨rfl, rfl⟩
  elim := fun β o k => by cases o <;> rfl
def L48_0 {σ : Type} (F : Int × Int × Int × ByteArray × List D × Int × Int × Int × ByteArray × List D → Option (Int)) : Nat → A48_0 → σ → Option (O48_0 × σ)
  | 0, _, _ => none
  | n+1, (v16, v17, v18, v19, v20, v21, v22, v23, v24, v25, v26), s => (bif (decide (v16 < ((v21.length : Nat) : Int))) then ((lidx v21 v16).bind fun d27 => ask (d27.cells.length = 5) ((cellAt 0 d27).bind fun x28 => (asInt .i64 x28).bind fun x29 => ((cellAt 1 d27).bind fun x30 => (asInt .i64 x30).bind fun x31 => ((cellAt 2 d27).bind fun x32 => (asInt .i64 x32).bind fun x33 => ((cellAt 3 d27).bind fun x34 => (asStr x34).bind fun x35 => ((cellAt 4 d27).bind fun x36 => (asRow x36).bind fun x37 => ((lidx v26 v16).bind fun d38 => ask (d38.cells.length = 5) ((cellAt 0 d38).bind fun x39 => (asInt .i64 x39).bind fun x40 => ((cellAt 1 d38).bind fun x41 => (asInt .i64 x41).bind fun x42 => ((cellAt 2 d38).bind fun x43 => (asInt .i64 x43).bind fun x44 => ((cellAt 3 d38).bind fun x45 => (asStr x45).bind fun x46 => ((cellAt 4 d38).bind fun x47 => (asRow x47).bind fun x48 => ((F (x29, x31, x33, x35, x37, x40, x42, x44, x46, x48)).bind fun y49 => (bif (y49 != 0) then (some (O48_0.x0 y49 v17 v18 v19 v20 v21 v22 v23 v24 v25 v26, s)) else (L48_0 F n ((w64 (v16 + 1)), v17, v18, v19, v20, v21, v22, v23, v24, v25, v26) s))))))))))))))) else (some (O48_0.x1 v17 v18 v19 v20 v21 v22 v23 v24 v25 v26, s)))
def d48 (ds : List D) : Option (Int × Int × Int × ByteArray × List D × Int × Int × Int × ByteArray × List D) := match ds with
  | [.agg [.val (.int .i64 a0), .val (.int .i64 a1), .val (.int .i64 a2), .val (.string a3), .slice a4], .agg [.val (.int .i64 a5), .val (.int .i64 a6), .val (.int .i64 a7), .val (.string a8), .slice a9]] => some (a0, a1, a2, a3, a4, a5, a6, a7, a8, a9)
  | _ => none
def r48 (v : AV) : Option (Int) := match toPR v with
  | some (.one (.val (.int .i64 a10))) => some a10
  | _ => none
def n48 : Nat → Int × Int × Int × ByteArray × List D × Int × Int × Int × ByteArray × List D → Option (Int)
  | 0, _ => none
  | k + 1, (a0, a1, a2, a3, a4, a5, a6, a7, a8, a9) => (bif (a0 != a5) then ((n75 ((decide (a0 < a5)), (decide (a0 > a5)))).bind fun y11 => (some y11)) else (bif (a1 != a6) then ((n75 ((decide (a1 < a6)), (decide (a1 > a6)))).bind fun y12 => (some y12)) else (bif (a2 != a7) then ((n75 ((decide (a2 < a7)), (decide (a2 > a7)))).bind fun y13 => (some y13)) else (bif (!(sEq a3 a8)) then ((n75 ((sLt a3 a8), (!(sLt a3 a8 || sEq a3 a8)))).bind fun y14 => (some y14)) else (bif (((a4.length : Nat) : Int) != ((a9.length : Nat) : Int)) then ((n75 ((decide (((a4.length : Nat) : Int) < ((a9.length : Nat) : Int))), (decide (((a4.length : Nat) : Int) > ((a9.length : Nat) : Int))))).bind fun y15 => (some y15)) else ((L48_0 (n48 k) 1000000000000 (0, a0, a1, a2, a3, a4, a5, a6, a7, a8, a9) ()).bind fun p71 => match p71.1 with | .x0 z72 z73 z74 z75 z76 z77 z78 z79 z80 z81 z82 => (some z72) | .x1 z83 z84 z85 z86 z87 z88 z89 z90 z91 z92 => (some 0)))))))
def e48 : PureE := mkE d48 (n48 64) (fun a10 => .one (.val (.int .i64 a10)))
def g48 (k : Nat) {σ : Type} : Nat → Option (SegE σ)
  | 0 => some (l48_0.seg σ (L48_0 (n48 k) 1000000000000))
  | _ => none
theorem E48_0 {σ : Type} (k : Nat) (Y : Yd σ) : ∀ n a (s : σ), L48_0 (n48 k) (n + 1) a s = evK (cfgOf Tryz.prog (tabsS1 gl) (((48, mkE d48 (n48 k) (fun a10 => .one (.val (.int .i64 a10)))) :: tS1) : Tab)) (toldOf (((48, mkE d48 (n48 k) (fun a10 => .one (.val (.int .i64 a10)))) :: tS1) : Tab)) Y (inlN (cfgOf Tryz.prog (tabsS1 gl) (((48, mkE d48 (n48 k) (fun a10 => .one (.val (.int .i64 a10)))) :: tS1) : Tab)) (toldOf (((48, mkE d48 (n48 k) (fun a10 => .one (.val (.int .i64 a10)))) :: tS1) : Tab)) Y) (g48 k) 48 (loopAt Tryz.f48 0) ((l48_0.toT σ).enc a s) (fun ex st' => l48_0.next (cfgOf Tryz.prog (tabsS1 gl) (((48, mkE d48 (n48 k) (fun a10 => .one (.val (.int .i64 a10)))) :: tS1) : Tab)) 48 0 (L48_0 (n48 k) n) ex st') := by
  intro n ⟨v16, v17, v18, v19, v20, v21, v22, v23, v24, v25, v26⟩ s
  kernel_rfl
theorem Q48_0 {σ : Type} (hl : LibFits gl) (k : Nat) (hk : TabOk Tryz.prog gl (((48, mkE d48 (n48 k) (fun a10 => .one (.val (.int .i64 a10)))) :: tS1) : Tab)) (Y : Yd σ) (rnd : Bool) : SegOk (cfgOf Tryz.prog (tabsS1 gl) (((48, mkE d48 (n48 k) (fun a10 => .one (.val (.int .i64 a10)))) :: tS1) : Tab)) (evFn (cfgOf Tryz.prog (tabsS1 gl) (((48, mkE d48 (n48 k) (fun a10 => .one (.val (.int .i64 a10)))) :: tS1) : Tab)) 9) 48 rnd Y (l48_0.seg σ (L48_0 (n48 k) 1000000000000)) (.block 0 (.loop (loopAt Tryz.f48 0))) :=
  told_loop hk k48_0 (by kernel_rfl) (by kernel_rfl) (fun _ _ => rfl) (segs_no (by kernel_rfl)) (E48_0 k Y) (hr := by kernel_rfl)
theorem N48 : ∀ k a, n48 (k + 1) a = bodyK (cfgOf Tryz.prog (tabsS1 gl) (((48, mkE d48 (n48 k) (fun a10 => .one (.val (.int .i64 a10)))) :: tS1) : Tab)) (toldOf (((48, mkE d48 (n48 k) (fun a10 => .one (.val (.int .i64 a10)))) :: tS1) : Tab)) noY (inlN (cfgOf Tryz.prog (tabsS1 gl) (((48, mkE d48 (n48 k) (fun a10 => .one (.val (.int .i64 a10)))) :: tS1) : Tab)) (toldOf (((48, mkE d48 (n48 k) (fun a10 => .one (.val (.int .i64 a10)))) :: tS1) : Tab)) noY) (g48 k) 48 Tryz.f48 (((fun (a0, a1, a2, a3, a4, a5, a6, a7, a8, a9) => [.agg [.val (.int .i64 a0), .val (.int .i64 a1), .val (.int .i64 a2), .val (.string a3), .slice a4], .agg [.val (.int .i64 a5), .val (.int .i64 a6), .val (.int .i64 a7), .val (.string a8), .slice a9]] : (Int × Int × Int × ByteArray × List D × Int × Int × Int × ByteArray × List D) → List D) a).map .d) [] [] () (retK fun v _ _ _ => r48 v) := by
  intro k a
  obtain ⟨a0, a1, a2, a3, a4, a5, a6, a7, a8, a9⟩ := a
  kernel_rfl
noncomputable def t48 : Tab := (48, e48) :: tS1
theorem ok48 (hl : LibFits gl) : TabOk Tryz.prog gl t48 :=
  told_rec (t := tabsS1 gl) (okS1 hl) mixed (oddOkS1 hl) methOk Tryz.func48 (by kernel_rfl) (nat := n48) (seg := fun k => g48 k) (by kernel_rfl) (fun k hk => (fun p hp e he => by
    have hq : segsOf (σ := Unit) (g48 k (σ := Unit)) (bodyOf Tryz.f48) = [(0, .loop (loopAt Tryz.f48 0))] := by kernel_rfl
    rw [hq] at hp
    simp only [List.mem_cons, List.not_mem_nil, or_false] at hp
    subst hp
    cases he
    exact Q48_0 hl k hk _ _))
    (args := fun (a0, a1, a2, a3, a4, a5, a6, a7, a8, a9) => [.agg [.val (.int .i64 a0), .val (.int .i64 a1), .val (.int .i64 a2), .val (.string a3), .slice a4], .agg [.val (.int .i64 a5), .val (.int .i64 a6), .val (.int .i64 a7), .val (.string a8), .slice a9]]) (res := r48)
    (fun ds a h => by
      unfold d48 at h
      split at h
      · cases h; rfl
      · cases h)
    (fun v r h => by
      unfold r48 at h
      split at h
      · rename_i hv; cases h; exact hv
      · cases h)
    (fun _ => rfl) N48 64
def d15 (ds : List D) : Option (Int × Int × Int × ByteArray × List D) := match ds with
  | [.agg [.val (.int .i64 a0), .val (.int .i64 a1), .val (.int .i64 a2), .val (.string a3), .slice a4]] => some (a0, a1, a2, a3, a4)
  | _ => none
def r15 (v : AV) : Option (Int × Int × Int × ByteArray × List D) := match toPR v with
  | some (.one (.agg [.val (.int .i64 a5), .val (.int .i64 a6), .val (.int .i64 a7), .val (.string a8), .slice a9])) => some (a5, a6, a7, a8, a9)
  | _ => none
def n15 : Int × Int × Int × ByteArray × List D → Option (Int × Int × Int × ByteArray × List D) := fun (a0, a1, a2, a3, a4) => ((n36 64 (a0, a1, a2, a3, a4, 0, 1)).bind fun y10 => (bif (decide (y10 > 4096)) then (some (a0, a1, a2, a3, a4)) else ((n37 64 (a0, a1, a2, a3, a4)).bind fun y11 => (some (y11.1, y11.2.1, y11.2.2.1, y11.2.2.2.1, y11.2.2.2.2)))))
def e15 : PureE := mkE d15 n15 (fun (a5, a6, a7, a8, a9) => .one (.agg [.val (.int .i64 a5), .val (.int .i64 a6), .val (.int .i64 a7), .val (.string a8), .slice a9]))
def g15 {σ : Type} : Nat → Option (SegE σ)
  | _ => none
theorem N15 : ∀ a, n15 a = bodyK (cfgOf Tryz.prog (tabsS1 gl) tS1) (toldOf tS1) noY (inlN (cfgOf Tryz.prog (tabsS1 gl) tS1) (toldOf tS1) noY) g15 15 Tryz.f15 (((fun (a0, a1, a2, a3, a4) => [.agg [.val (.int .i64 a0), .val (.int .i64 a1), .val (.int .i64 a2), .val (.string a3), .slice a4]] : (Int × Int × Int × ByteArray × List D) → List D) a).map .d) [] [] () (retK fun v _ _ _ => r15 v) := by
  intro a
  obtain ⟨a0, a1, a2, a3, a4⟩ := a
  kernel_rfl
noncomputable def t15 : Tab := (15, e15) :: tS1
theorem ok15 (hl : LibFits gl) : TabOk Tryz.prog gl t15 :=
  told_fn (okS1 hl) mixed (oddOkS1 hl) methOk Tryz.func15 (by kernel_rfl) (by kernel_rfl) (by kernel_rfl) (segs_no (by kernel_rfl))
    (args := fun (a0, a1, a2, a3, a4) => [.agg [.val (.int .i64 a0), .val (.int .i64 a1), .val (.int .i64 a2), .val (.string a3), .slice a4]]) (res := r15)
    (fun ds a h => by
      unfold d15 at h
      split at h
      · cases h; rfl
      · cases h)
    (fun v r h => by
      unfold r15 at h
      split at h
      · rename_i hv; cases h; exact hv
      · cases h)
    N15
noncomputable def tS2 : Tab := (61, e61) :: (63, e63) :: (104, e104) :: (70, e70) :: (64, e64) :: (48, e48) :: (15, e15) :: tS1
theorem okS2 (hl : LibFits gl) : TabOk Tryz.prog gl tS2 :=
  TabOk.cons (TabOk.cons (TabOk.cons (TabOk.cons (TabOk.cons (TabOk.cons (TabOk.cons (okS1 hl) ((ok15 hl).fair (15, e15) (List.mem_cons_self (l := tS1))) ((ok15 hl).spec (15, e15) (List.mem_cons_self (l := tS1)))) ((ok48 hl).fair (48, e48) (List.mem_cons_self (l := tS1))) ((ok48 hl).spec (48, e48) (List.mem_cons_self (l := tS1)))) ((ok64 hl).fair (64, e64) (List.mem_cons_self (l := tS1))) ((ok64 hl).spec (64, e64) (List.mem_cons_self (l := tS1)))) ((ok70 hl).fair (70, e70) (List.mem_cons_self (l := tS1))) ((ok70 hl).spec (70, e70) (List.mem_cons_self (l := tS1)))) ((ok104 hl).fair (104, e104) (List.mem_cons_self (l := tS1))) ((ok104 hl).spec (104, e104) (List.mem_cons_self (l := tS1)))) ((ok63 hl).fair (63, e63) (List.mem_cons_self (l := tS1))) ((ok63 hl).spec (63, e63) (List.mem_cons_self (l := tS1)))) ((ok61 hl).fair (61, e61) (List.mem_cons_self (l := tS1))) ((ok61 hl).spec (61, e61) (List.mem_cons_self (l := tS1)))
abbrev A68_0 := ByteArray × List D × Int × Nat
inductive O68_0 where
  | x0 (o7 : List D) (q8 : Nat)
def l68_0 : LoopS A68_0 O68_0 where
  n := 22
  ks := [0, 3, 4]
  kso := [3]
  m := 0
  mt := 2
  decV := fun vs bs ts => match vs, bs, ts with
    | [.d (.val (.string v2)), .osl 1 v3, .d (.val (.int .i64 v4))], [], [k5, _] => some (v2, v3, v4, k5)
    | _, _, _ => none
  encV := fun (v2, v3, v4, k5) => [.d (.val (.string v2)), .osl 1 v3, .d (.val (.int .i64 v4))]
  encB := fun (v2, v3, v4, k5) => []
  tk := fun (v2, v3, v4, k5) => [k5, v3.length]
  decO := fun ex vs bs ts => match ex, vs, bs, ts with
    | .normal, [.osl 1 o7], [], [q8, _] => some (.x0 o7 q8)
    | _, _, _, _ => none
  exO := fun x => match x with
    | .x0 o7 q8 => .normal
  outV := fun x => match x with
    | .x0 o7 q8 => [.osl 1 o7]
  outB := fun x => match x with
    | .x0 o7 q8 => []
  tkO := fun x => match x with
    | .x0 o7 q8 => [q8, o7.length]
  elim := fun x k => match x with
    | .x0 o7 q8 => k .normal [.osl 1 o7] [] [q8, o7.length]
theorem k68_0 : l68_0.Ok where
  ok1 := by kernel_rfl
  ok2 := by kernel_rfl
  dec := by
    intro vs bs ts a h
    simp only [l68_0] at h ⊢
    split at h
    · cases h; exact ⟨rfl, rfl⟩
    · cases h
  out := by
    intro ex vs bs ts o h
    simp only [l68_0] at h ⊢
    split at h
    · cases h; exact ⟨rfl, rfl, rfl⟩
    · cases h
  len := fun _ => ⟨rfl, rfl⟩
  elim := fun β o k => by cases o <;> rfl
def L68_0 {σ : Type} : Nat → A68_0 → σ → Option (O68_0 × σ)
  | 0, _, _ => none
  | n+1, (v2, v3, v4, k5), s => (bif (decide (v4 < (v2.size : Int))) then ((n104 (v2, v4)).bind fun y6 => (ask (addOk v3.length v3 ([.agg [.val (.int .i64 y6.1), .val (.int .i64 y6.2.1), .val (.int .i64 y6.2.2)]] : List D) 3 24) (ask (([k5, (v3.length + ([.agg [.val (.int .i64 y6.1), .val (.int .i64 y6.2.1), .val (.int .i64 y6.2.2)]] : List D).length)] : List Nat) = [k5, (v3 ++ ([.agg [.val (.int .i64 y6.1), .val (.int .i64 y6.2.1), .val (.int .i64 y6.2.2)]] : List D)).length]) (L68_0 n (v2, (v3 ++ ([.agg [.val (.int .i64 y6.1), .val (.int .i64 y6.2.1), .val (.int .i64 y6.2.2)]] : List D)), (w64 (v4 + y6.2.2)), k5) s)))) else (ask (([k5, v3.length] : List Nat) = [k5, v3.length]) (some (O68_0.x0 v3 k5, s))))
def d68 (ds : List D) : Option (ByteArray) := match ds with
  | [.val (.string a0)] => some a0
  | _ => none
def r68 (v : AV) : Option (List D) := match toPR v with
  | some (.one (.slice a1)) => some a1
  | _ => none
def n68 : ByteArray → Option (List D) := fun a0 => (ask (([0, 0] : List Nat) = [0, ([] : List D).length]) ((L68_0 1000000000000 (a0, ([] : List D), 0, 0) ()).bind fun p9 => match p9.1 with | .x0 z10 z11 => (some z10)))
def e68 : PureE := mkE d68 n68 (fun a1 => .one (.slice a1))
def g68 {σ : Type} : Nat → Option (SegE σ)
  | 0 => some (l68_0.seg σ (L68_0 1000000000000))
  | _ => none
theorem E68_0 {σ : Type} (Y : Yd σ) : ∀ n a (s : σ), L68_0 (n + 1) a s = evK (cfgOf Tryz.prog (tabsS1 gl) tS2) (toldOf tS2) Y (inlN (cfgOf Tryz.prog (tabsS1 gl) tS2) (toldOf tS2) Y) g68 68 (loopAt Tryz.f68 0) ((l68_0.toT σ).enc a s) (fun ex st' => l68_0.next (cfgOf Tryz.prog (tabsS1 gl) tS2) 68 0 (L68_0 n) ex st') := by
  intro n ⟨v2, v3, v4, k5⟩ s
  kernel_rfl
theorem Q68_0 {σ : Type} (hl : LibFits gl) (Y : Yd σ) (rnd : Bool) : SegOk (cfgOf Tryz.prog (tabsS1 gl) tS2) (evFn (cfgOf Tryz.prog (tabsS1 gl) tS2) 9) 68 rnd Y (l68_0.seg σ (L68_0 1000000000000)) (.block 0 (.loop (loopAt Tryz.f68 0))) :=
  told_loop (okS2 hl) k68_0 (by kernel_rfl) (by kernel_rfl) (fun _ _ => rfl) (segs_no (by kernel_rfl)) (E68_0 Y) (hr := by kernel_rfl)
theorem N68 : ∀ a, n68 a = bodyK (cfgOf Tryz.prog (tabsS1 gl) tS2) (toldOf tS2) noY (inlN (cfgOf Tryz.prog (tabsS1 gl) tS2) (toldOf tS2) noY) g68 68 Tryz.f68 (((fun a0 => [.val (.string a0)] : (ByteArray) → List D) a).map .d) [] [] () (retK fun v _ _ _ => r68 v) := by
  intro a0
  kernel_rfl
noncomputable def t68 : Tab := (68, e68) :: tS2
theorem ok68 (hl : LibFits gl) : TabOk Tryz.prog gl t68 :=
  told_fn (okS2 hl) mixed (oddOkS1 hl) methOk Tryz.func68 (by kernel_rfl) (by kernel_rfl) (by kernel_rfl) (fun p hp e he => by
    have hq : segsOf (σ := Unit) (g68 (σ := Unit)) (bodyOf Tryz.f68) = [(0, .loop (loopAt Tryz.f68 0))] := by kernel_rfl
    rw [hq] at hp
    simp only [List.mem_cons, List.not_mem_nil, or_false] at hp
    subst hp
    cases he
    exact Q68_0 hl _ _)
    (args := fun a0 => [.val (.string a0)]) (res := r68)
    (fun ds a h => by
      unfold d68 at h
      split at h
      · cases h; rfl
      · cases h)
    (fun v r h => by
      unfold r68 at h
      split at h
      · rename_i hv; cases h; exact hv
      · cases h)
    N68
abbrev A39_0 := Int × ByteArray × Nat
inductive O39_0 where
  | x0 (o6 : Int) (o7 : ByteArray) (o8 : Nat)
  | x1 (o9 : Int) (o10 : ByteArray) (o11 : Nat)
def l39_0 : LoopS A39_0 O39_0 where
  n := 38
  ks := [3, 7]
  kso := [2, 3]
  m := 1
  mt := 0
  decV := fun vs bs ts => match vs, bs, ts with
    | [.d (.val (.int .i64 v2)), .iter 0], [.iter v3 v4], [] => some (v2, v3, v4)
    | _, _, _ => none
  encV := fun (v2, v3, v4) => [.d (.val (.int .i64 v2)), .iter 0]
  encB := fun (v2, v3, v4) => [.iter v3 v4]
  tk := fun _ => []
  decO := fun ex vs bs ts => match ex, vs, bs, ts with
    | .ret, [.d (.val (.int .i64 o6)), .undef], [.iter o7 o8], [] => some (.x0 o6 o7 o8)
    | .normal, [.undef, .d (.val (.int .i64 o9))], [.iter o10 o11], [] => some (.x1 o9 o10 o11)
    | _, _, _, _ => none
  exO := fun x => match x with
    | .x0 o6 o7 o8 => .ret
    | .x1 o9 o10 o11 => .normal
  outV := fun x => match x with
    | .x0 o6 o7 o8 => [.d (.val (.int .i64 o6)), .undef]
    | .x1 o9 o10 o11 => [.undef, .d (.val (.int .i64 o9))]
  outB := fun x => match x with
    | .x0 o6 o7 o8 => [.iter o7 o8]
    | .x1 o9 o10 o11 => [.iter o10 o11]
  tkO := fun x => match x with
    | .x0 o6 o7 o8 => []
    | .x1 o9 o10 o11 => []
  elim := fun x k => match x with
    | .x0 o6 o7 o8 => k .ret [.d (.val (.int .i64 o6)), .undef] [.iter o7 o8] []
    | .x1 o9 o10 o11 => k .normal [.undef, .d (.val (.int .i64 o9))] [.iter o10 o11] []
theorem k39_0 : l39_0.Ok where
  ok1 := by kernel_rfl
  ok2 := by kernel_rfl
  dec := by
    intro vs bs ts a h
    simp only [l39_0] at h ⊢
    split at h
    · cases h; exact ⟨rfl, rfl⟩
    · cases h
  out := by
    intro ex vs bs ts o h
    simp only [l39_0] at h ⊢
    split at h
    · cases h; exact ⟨rfl, rfl, rfl⟩
    · cases h; exact ⟨rfl, rfl, rfl⟩
    · cases h
  len := fun _ => ⟨rfl, rfl⟩
  elim := fun β o k => by cases o <;> rfl
def L39_0 {σ : Type} : Nat → A39_0 → σ → Option (O39_0 × σ)
  | 0, _, _ => none
  | n+1, (v2, v3, v4), s => (bif decide (v4 < v3.size) then ((n64 ((Utf8.decode v3 v4).1 : Int)).bind fun y5 => (bif (!y5) then (bif ((w64 (v2 + 1)) == 1) then (some (O39_0.x0 21 v3 (v4 + (Utf8.decode v3 v4).2), s)) else (bif (((Utf8.decode v3 v4).1 : Int) != 39) then (bif (decide (((Utf8.decode v3 v4).1 : Int) < 48)) then (some (O39_0.x0 21 v3 (v4 + (Utf8.decode v3 v4).2), s)) else (bif (decide (((Utf8.decode v3 v4).1 : Int) > 57)) then (some (O39_0.x0 21 v3 (v4 + (Utf8.decode v3 v4).2), s)) else (L39_0 n ((w64 (v2 + 1)), v3, (v4 + (Utf8.decode v3 v4).2)) s))) else (L39_0 n ((w64 (v2 + 1)), v3, (v4 + (Utf8.decode v3 v4).2)) s))) else (L39_0 n ((w64 (v2 + 1)), v3, (v4 + (Utf8.decode v3 v4).2)) s))) else (some (O39_0.x1 v2 v3 v4, s)))
def d39 (ds : List D) : Option (ByteArray) := match ds with
  | [.val (.string a0)] => some a0
  | _ => none
def r39 (v : AV) : Option (Int) := match toPR v with
  | some (.one (.val (.int .i64 a1))) => some a1
  | _ => none
def n39 : ByteArray → Option (Int) := fun a0 => ((L39_0 1000000000000 (0, a0, 0) ()).bind fun p12 => match p12.1 with | .x0 z13 z14 z15 => (some z13) | .x1 z16 z17 z18 => (bif (bif (z16 == 0) then true else (decide (z16 > 32))) then (some 21) else (some 0)))
def e39 : PureE := mkE d39 n39 (fun a1 => .one (.val (.int .i64 a1)))
def g39 {σ : Type} : Nat → Option (SegE σ)
  | 0 => some (l39_0.seg σ (L39_0 1000000000000))
  | _ => none
theorem E39_0 {σ : Type} (Y : Yd σ) : ∀ n a (s : σ), L39_0 (n + 1) a s = evK (cfgOf Tryz.prog (tabsS1 gl) tS2) (toldOf tS2) Y (inlN (cfgOf Tryz.prog (tabsS1 gl) tS2) (toldOf tS2) Y) g39 39 (loopAt Tryz.f39 0) ((l39_0.toT σ).enc a s) (fun ex st' => l39_0.next (cfgOf Tryz.prog (tabsS1 gl) tS2) 39 0 (L39_0 n) ex st') := by
  intro n ⟨v2, v3, v4⟩ s
  kernel_rfl
theorem Q39_0 {σ : Type} (hl : LibFits gl) (Y : Yd σ) (rnd : Bool) : SegOk (cfgOf Tryz.prog (tabsS1 gl) tS2) (evFn (cfgOf Tryz.prog (tabsS1 gl) tS2) 9) 39 rnd Y (l39_0.seg σ (L39_0 1000000000000)) (.block 0 (.loop (loopAt Tryz.f39 0))) :=
  told_loop (okS2 hl) k39_0 (by kernel_rfl) (by kernel_rfl) (fun _ _ => rfl) (segs_no (by kernel_rfl)) (E39_0 Y) (hr := by kernel_rfl)
theorem N39 : ∀ a, n39 a = bodyK (cfgOf Tryz.prog (tabsS1 gl) tS2) (toldOf tS2) noY (inlN (cfgOf Tryz.prog (tabsS1 gl) tS2) (toldOf tS2) noY) g39 39 Tryz.f39 (((fun a0 => [.val (.string a0)] : (ByteArray) → List D) a).map .d) [] [] () (retK fun v _ _ _ => r39 v) := by
  intro a0
  kernel_rfl
noncomputable def t39 : Tab := (39, e39) :: tS2
theorem ok39 (hl : LibFits gl) : TabOk Tryz.prog gl t39 :=
  told_fn (okS2 hl) mixed (oddOkS1 hl) methOk Tryz.func39 (by kernel_rfl) (by kernel_rfl) (by kernel_rfl) (fun p hp e he => by
    have hq : segsOf (σ := Unit) (g39 (σ := Unit)) (bodyOf Tryz.f39) = [(0, .loop (loopAt Tryz.f39 0))] := by kernel_rfl
    rw [hq] at hp
    simp only [List.mem_cons, List.not_mem_nil, or_false] at hp
    subst hp
    cases he
    exact Q39_0 hl _ _)
    (args := fun a0 => [.val (.string a0)]) (res := r39)
    (fun ds a h => by
      unfold d39 at h
      split at h
      · cases h; rfl
      · cases h)
    (fun v r h => by
      unfold r39 at h
      split at h
      · rename_i hv; cases h; exact hv
      · cases h)
    N39
def d23 (ds : List D) : Option (Int × Int × Int × ByteArray × List D × Int × Int × Int × ByteArray × List D) := match ds with
  | [.agg [.val (.int .i64 a0), .val (.int .i64 a1), .val (.int .i64 a2), .val (.string a3), .slice a4], .agg [.val (.int .i64 a5), .val (.int .i64 a6), .val (.int .i64 a7), .val (.string a8), .slice a9]] => some (a0, a1, a2, a3, a4, a5, a6, a7, a8, a9)
  | _ => none
def r23 (v : AV) : Option (Bool) := match toPR v with
  | some (.one (.val (.bool a10))) => some a10
  | _ => none
def n23 : Int × Int × Int × ByteArray × List D × Int × Int × Int × ByteArray × List D → Option (Bool) := fun (a0, a1, a2, a3, a4, a5, a6, a7, a8, a9) => ((n48 64 (a0, a1, a2, a3, a4, a5, a6, a7, a8, a9)).bind fun y11 => (some (y11 == 0)))
def e23 : PureE := mkE d23 n23 (fun a10 => .one (.val (.bool a10)))
def g23 {σ : Type} : Nat → Option (SegE σ)
  | _ => none
theorem N23 : ∀ a, n23 a = bodyK (cfgOf Tryz.prog (tabsS1 gl) tS2) (toldOf tS2) noY (inlN (cfgOf Tryz.prog (tabsS1 gl) tS2) (toldOf tS2) noY) g23 23 Tryz.f23 (((fun (a0, a1, a2, a3, a4, a5, a6, a7, a8, a9) => [.agg [.val (.int .i64 a0), .val (.int .i64 a1), .val (.int .i64 a2), .val (.string a3), .slice a4], .agg [.val (.int .i64 a5), .val (.int .i64 a6), .val (.int .i64 a7), .val (.string a8), .slice a9]] : (Int × Int × Int × ByteArray × List D × Int × Int × Int × ByteArray × List D) → List D) a).map .d) [] [] () (retK fun v _ _ _ => r23 v) := by
  intro a
  obtain ⟨a0, a1, a2, a3, a4, a5, a6, a7, a8, a9⟩ := a
  kernel_rfl
noncomputable def t23 : Tab := (23, e23) :: tS2
theorem ok23 (hl : LibFits gl) : TabOk Tryz.prog gl t23 :=
  told_fn (okS2 hl) mixed (oddOkS1 hl) methOk Tryz.func23 (by kernel_rfl) (by kernel_rfl) (by kernel_rfl) (segs_no (by kernel_rfl))
    (args := fun (a0, a1, a2, a3, a4, a5, a6, a7, a8, a9) => [.agg [.val (.int .i64 a0), .val (.int .i64 a1), .val (.int .i64 a2), .val (.string a3), .slice a4], .agg [.val (.int .i64 a5), .val (.int .i64 a6), .val (.int .i64 a7), .val (.string a8), .slice a9]]) (res := r23)
    (fun ds a h => by
      unfold d23 at h
      split at h
      · cases h; rfl
      · cases h)
    (fun v r h => by
      unfold r23 at h
      split at h
      · rename_i hv; cases h; exact hv
      · cases h)
    N23
noncomputable def tS3 : Tab := (68, e68) :: (39, e39) :: (23, e23) :: tS2
theorem okS3 (hl : LibFits gl) : TabOk Tryz.prog gl tS3 :=
  TabOk.cons (TabOk.cons (TabOk.cons (okS2 hl) ((ok23 hl).fair (23, e23) (List.mem_cons_self (l := tS2))) ((ok23 hl).spec (23, e23) (List.mem_cons_self (l := tS2)))) ((ok39 hl).fair (39, e39) (List.mem_cons_self (l := tS2))) ((ok39 hl).spec (39, e39) (List.mem_cons_self (l := tS2)))) ((ok68 hl).fair (68, e68) (List.mem_cons_self (l := tS2))) ((ok68 hl).spec (68, e68) (List.mem_cons_self (l := tS2)))
abbrev A45_0 := List D × Int
inductive O45_0 where
  | x0 (o13 : Bool)
  | x1 
def l45_0 : LoopS A45_0 O45_0 where
  n := 36
  ks := [3, 4]
  kso := [2]
  m := 0
  mt := 0
  decV := fun vs bs ts => match vs, bs, ts with
    | [.d (.slice v7), .d (.val (.int .i64 v8))], [], [] => some (v7, v8)
    | _, _, _ => none
  encV := fun (v7, v8) => [.d (.slice v7), .d (.val (.int .i64 v8))]
  encB := fun (v7, v8) => []
  tk := fun _ => []
  decO := fun ex vs bs ts => match ex, vs, bs, ts with
    | .ret, [.d (.val (.bool o13))], [], [] => some (.x0 o13)
    | .normal, [.undef], [], [] => some (.x1 )
    | _, _, _, _ => none
  exO := fun x => match x with
    | .x0 o13 => .ret
    | .x1  => .normal
  outV := fun x => match x with
    | .x0 o13 => [.d (.val (.bool o13))]
    | .x1  => [.undef]
  outB := fun x => match x with
    | .x0 o13 => []
    | .x1  => []
  tkO := fun x => match x with
    | .x0 o13 => []
    | .x1  => []
  elim := fun x k => match x with
    | .x0 o13 => k .ret [.d (.val (.bool o13))] [] []
    | .x1  => k .normal [.undef] [] []
theorem k45_0 : l45_0.Ok where
  ok1 := by kernel_rfl
  ok2 := by kernel_rfl
  dec := by
    intro vs bs ts a h
    simp only [l45_0] at h ⊢
    split at h
    · cases h; exact ⟨rfl, rfl⟩
    · cases h
  out := by
    intro ex vs bs ts o h
    simp only [l45_0] at h ⊢
    split at h
    · cases h; exact ⟨rfl, rfl, rfl⟩
    · cases h; exact ⟨rfl, rfl, rfl⟩
    · cases h
  len := fun _ => ⟨rfl, rfl⟩
  elim := fun β o k => by cases o <;> rfl
def L45_0 {σ : Type} : Nat → A45_0 → σ → Option (O45_0 × σ)
  | 0, _, _ => none
  | n+1, (v7, v8), s => (bif (decide (v8 < ((v7.length : Nat) : Int))) then ((lidx v7 v8).bind fun d9 => ask (d9.cells.length = 3) ((cellAt 0 d9).bind fun x10 => (asInt .i64 x10).bind fun x11 => ((n70 x11).bind fun y12 => (bif (!y12) then (some (O45_0.x0 false, s)) else (L45_0 n (v7, (w64 (v8 + 1))) s))))) else (some (O45_0.x1 , s)))
def d45 (ds : List D) : Option (ByteArray) := match ds with
  | [.val (.string a0)] => some a0
  | _ => none
def r45 (v : AV) : Option (Bool) := match toPR v with
  | some (.one (.val (.bool a1))) => some a1
  | _ => none
def n45 : ByteArray → Option (Bool) := fun a0 => ((n68 a0).bind fun y2 => (bif (bif (decide (((y2.length : Nat) : Int) < 1)) then true else (decide (((y2.length : Nat) : Int) > 32))) then (some false) else ((lidx y2 0).bind fun d3 => ask (d3.cells.length = 3) ((cellAt 0 d3).bind fun x4 => (asInt .i64 x4).bind fun x5 => ((n69 x5).bind fun y6 => (bif (!y6) then (some false) else ((L45_0 1000000000000 (y2, 1) ()).bind fun p14 => match p14.1 with | .x0 z15 => (some z15) | .x1  => (some true))))))))
def e45 : PureE := mkE d45 n45 (fun a1 => .one (.val (.bool a1)))
def g45 {σ : Type} : Nat → Option (SegE σ)
  | 0 => some (l45_0.seg σ (L45_0 1000000000000))
  | _ => none
theorem E45_0 {σ : Type} (Y : Yd σ) : ∀ n a (s : σ), L45_0 (n + 1) a s = evK (cfgOf Tryz.prog (tabsS1 gl) tS3) (toldOf tS3) Y (inlN (cfgOf Tryz.prog (tabsS1 gl) tS3) (toldOf tS3) Y) g45 45 (loopAt Tryz.f45 0) ((l45_0.toT σ).enc a s) (fun ex st' => l45_0.next (cfgOf Tryz.prog (tabsS1 gl) tS3) 45 0 (L45_0 n) ex st') := by
  intro n ⟨v7, v8⟩ s
  kernel_rfl
theorem Q45_0 {σ : Type} (hl : LibFits gl) (Y : Yd σ) (rnd : Bool) : SegOk (cfgOf Tryz.prog (tabsS1 gl) tS3) (evFn (cfgOf Tryz.prog (tabsS1 gl) tS3) 9) 45 rnd Y (l45_0.seg σ (L45_0 1000000000000)) (.block 0 (.loop (loopAt Tryz.f45 0))) :=
  told_loop (okS3 hl) k45_0 (by kernel_rfl) (by kernel_rfl) (fun _ _ => rfl) (segs_no (by kernel_rfl)) (E45_0 Y) (hr := by kernel_rfl)
theorem N45 : ∀ a, n45 a = bodyK (cfgOf Tryz.prog (tabsS1 gl) tS3) (toldOf tS3) noY (inlN (cfgOf Tryz.prog (tabsS1 gl) tS3) (toldOf tS3) noY) g45 45 Tryz.f45 (((fun a0 => [.val (.string a0)] : (ByteArray) → List D) a).map .d) [] [] () (retK fun v _ _ _ => r45 v) := by
  intro a0
  kernel_rfl
noncomputable def t45 : Tab := (45, e45) :: tS3
theorem ok45 (hl : LibFits gl) : TabOk Tryz.prog gl t45 :=
  told_fn (okS3 hl) mixed (oddOkS1 hl) methOk Tryz.func45 (by kernel_rfl) (by kernel_rfl) (by kernel_rfl) (fun p hp e he => by
    have hq : segsOf (σ := Unit) (g45 (σ := Unit)) (bodyOf Tryz.f45) = [(0, .loop (loopAt Tryz.f45 0))] := by kernel_rfl
    rw [hq] at hp
    simp only [List.mem_cons, List.not_mem_nil, or_false] at hp
    subst hp
    cases he
    exact Q45_0 hl _ _)
    (args := fun a0 => [.val (.string a0)]) (res := r45)
    (fun ds a h => by
      unfold d45 at h
      split at h
      · cases h; rfl
      · cases h)
    (fun v r h => by
      unfold r45 at h
      split at h
      · rename_i hv; cases h; exact hv
      · cases h)
    N45
def d97 (ds : List D) : Option (ByteArray) := match ds with
  | [.val (.string a0)] => some a0
  | _ => none
def r97 (v : AV) : Option (Bool) := match toPR v with
  | some (.one (.val (.bool a1))) => some a1
  | _ => none
def n97 : ByteArray → Option (Bool) := fun a0 => ((n39 a0).bind fun y2 => (some (bif (bif (y2 == 0) then (!(sEq a0 (⟨#[116, 114, 117, 101]⟩ : ByteArray))) else false) then (!(sEq a0 (⟨#[102, 97, 108, 115, 101]⟩ : ByteArray))) else false)))
def e97 : PureE := mkE d97 n97 (fun a1 => .one (.val (.bool a1)))
def g97 {σ : Type} : Nat → Option (SegE σ)
  | _ => none
theorem N97 : ∀ a, n97 a = bodyK (cfgOf Tryz.prog (tabsS1 gl) tS3) (toldOf tS3) noY (inlN (cfgOf Tryz.prog (tabsS1 gl) tS3) (toldOf tS3) noY) g97 97 Tryz.f97 (((fun a0 => [.val (.string a0)] : (ByteArray) → List D) a).map .d) [] [] () (retK fun v _ _ _ => r97 v) := by
  intro a0
  kernel_rfl
noncomputable def t97 : Tab := (97, e97) :: tS3
theorem ok97 (hl : LibFits gl) : TabOk Tryz.prog gl t97 :=
  told_fn (okS3 hl) mixed (oddOkS1 hl) methOk Tryz.func97 (by kernel_rfl) (by kernel_rfl) (by kernel_rfl) (segs_no (by kernel_rfl))
    (args := fun a0 => [.val (.string a0)]) (res := r97)
    (fun ds a h => by
      unfold d97 at h
      split at h
      · cases h; rfl
      · cases h)
    (fun v r h => by
      unfold r97 at h
      split at h
      · rename_i hv; cases h; exact hv
      · cases h)
    N97
def d38 (ds : List D) : Option (ByteArray) := match ds with
  | [.val (.string a0)] => some a0
  | _ => none
def r38 (v : AV) : Option (Bool) := match toPR v with
  | some (.one (.val (.bool a1))) => some a1
  | _ => none
def n38 : ByteArray → Option (Bool) := fun a0 => ((n39 a0).bind fun y2 => (some (bif (bif (y2 == 0) then (!(sEq a0 (⟨#[116, 114, 117, 101]⟩ : ByteArray))) else false) then (!(sEq a0 (⟨#[102, 97, 108, 115, 101]⟩ : ByteArray))) else false)))
def e38 : PureE := mkE d38 n38 (fun a1 => .one (.val (.bool a1)))
def g38 {σ : Type} : Nat → Option (SegE σ)
  | _ => none
theorem N38 : ∀ a, n38 a = bodyK (cfgOf Tryz.prog (tabsS1 gl) tS3) (toldOf tS3) noY (inlN (cfgOf Tryz.prog (tabsS1 gl) tS3) (toldOf tS3) noY) g38 38 Tryz.f38 (((fun a0 => [.val (.string a0)] : (ByteArray) → List D) a).map .d) [] [] () (retK fun v _ _ _ => r38 v) := by
  intro a0
  kernel_rfl
noncomputable def t38 : Tab := (38, e38) :: tS3
theorem ok38 (hl : LibFits gl) : TabOk Tryz.prog gl t38 :=
  told_fn (okS3 hl) mixed (oddOkS1 hl) methOk Tryz.func38 (by kernel_rfl) (by kernel_rfl) (by kernel_rfl) (segs_no (by kernel_rfl))
    (args := fun a0 => [.val (.string a0)]) (res := r38)
    (fun ds a h => by
      unfold d38 at h
      split at h
      · cases h; rfl
      · cases h)
    (fun v r h => by
      unfold r38 at h
      split at h
      · rename_i hv; cases h; exact hv
      · cases h)
    N38
noncomputable def tS4 : Tab := (45, e45) :: (97, e97) :: (38, e38) :: tS3
theorem okS4 (hl : LibFits gl) : TabOk Tryz.prog gl tS4 :=
  TabOk.cons (TabOk.cons (TabOk.cons (okS3 hl) ((ok38 hl).fair (38, e38) (List.mem_cons_self (l := tS3))) ((ok38 hl).spec (38, e38) (List.mem_cons_self (l := tS3)))) ((ok97 hl).fair (97, e97) (List.mem_cons_self (l := tS3))) ((ok97 hl).spec (97, e97) (List.mem_cons_self (l := tS3)))) ((ok45 hl).fair (45, e45) (List.mem_cons_self (l := tS3))) ((ok45 hl).spec (45, e45) (List.mem_cons_self (l := tS3)))
def d74 (ds : List D) : Option (ByteArray) := match ds with
  | [.val (.string a0)] => some a0
  | _ => none
def r74 (v : AV) : Option (Bool) := match toPR v with
  | some (.one (.val (.bool a1))) => some a1
  | _ => none
def n74 : ByteArray → Option (Bool) := fun a0 => ((n45 a0).bind fun y2 => (some (bif (bif y2 then (!(sEq a0 (⟨#[116, 114, 117, 101]⟩ : ByteArray))) else false) then (!(sEq a0 (⟨#[102, 97, 108, 115, 101]⟩ : ByteArray))) else false)))
def e74 : PureE := mkE d74 n74 (fun a1 => .one (.val (.bool a1)))
def g74 {σ : Type} : Nat → Option (SegE σ)
  | _ => none
theorem N74 : ∀ a, n74 a = bodyK (cfgOf Tryz.prog (tabsS1 gl) tS4) (toldOf tS4) noY (inlN (cfgOf Tryz.prog (tabsS1 gl) tS4) (toldOf tS4) noY) g74 74 Tryz.f74 (((fun a0 => [.val (.string a0)] : (ByteArray) → List D) a).map .d) [] [] () (retK fun v _ _ _ => r74 v) := by
  intro a0
  kernel_rfl
noncomputable def t74 : Tab := (74, e74) :: tS4
theorem ok74 (hl : LibFits gl) : TabOk Tryz.prog gl t74 :=
  told_fn (okS4 hl) mixed (oddOkS1 hl) methOk Tryz.func74 (by kernel_rfl) (by kernel_rfl) (by kernel_rfl) (segs_no (by kernel_rfl))
    (args := fun a0 => [.val (.string a0)]) (res := r74)
    (fun ds a h => by
      unfold d74 at h
      split at h
      · cases h; rfl
      · cases h)
    (fun v r h => by
      unfold r74 at h
      split at h
      · rename_i hv; cases h; exact hv
      · cases h)
    N74
def d44 (ds : List D) : Option (ByteArray) := match ds with
  | [.val (.string a0)] => some a0
  | _ => none
def r44 (v : AV) : Option (Bool) := match toPR v with
  | some (.one (.val (.bool a1))) => some a1
  | _ => none
def n44 : ByteArray → Option (Bool) := fun a0 => ((n45 a0).bind fun y2 => (some (bif (bif y2 then (!(sEq a0 (⟨#[116, 114, 117, 101]⟩ : ByteArray))) else false) then (!(sEq a0 (⟨#[102, 97, 108, 115, 101]⟩ : ByteArray))) else false)))
def e44 : PureE := mkE d44 n44 (fun a1 => .one (.val (.bool a1)))
def g44 {σ : Type} : Nat → Option (SegE σ)
  | _ => none
theorem N44 : ∀ a, n44 a = bodyK (cfgOf Tryz.prog (tabsS1 gl) tS4) (toldOf tS4) noY (inlN (cfgOf Tryz.prog (tabsS1 gl) tS4) (toldOf tS4) noY) g44 44 Tryz.f44 (((fun a0 => [.val (.string a0)] : (ByteArray) → List D) a).map .d) [] [] () (retK fun v _ _ _ => r44 v) := by
  intro a0
  kernel_rfl
noncomputable def t44 : Tab := (44, e44) :: tS4
theorem ok44 (hl : LibFits gl) : TabOk Tryz.prog gl t44 :=
  told_fn (okS4 hl) mixed (oddOkS1 hl) methOk Tryz.func44 (by kernel_rfl) (by kernel_rfl) (by kernel_rfl) (segs_no (by kernel_rfl))
    (args := fun a0 => [.val (.string a0)]) (res := r44)
    (fun ds a h => by
      unfold d44 at h
      split at h
      · cases h; rfl
      · cases h)
    (fun v r h => by
      unfold r44 at h
      split at h
      · rename_i hv; cases h; exact hv
      · cases h)
    N44
abbrev A62_1 := List D × Int × Int × Int × Int × Int × ByteArray × List D
inductive O62_1 where
  | x0 (o29 : Bool) (o30 : Int) (o31 : Int) (o32 : Int) (o33 : ByteArray) (o34 : List D)
  | x1 (o47 : Int) (o48 : Int) (o49 : Int) (o50 : ByteArray) (o51 : List D)
def l62_1 : LoopS A62_1 O62_1 where
  n := 126
  ks := [1, 95, 96, 97]
  kso := [2]
  m := 1
  mt := 0
  decV := fun vs bs ts => match vs, bs, ts with
    | [.ptr 0 0, .d (.slice v9), .d (.val (.int .i64 v10)), .d (.val (.int .i64 v11))], [.cells none [.d (.val (.int .i64 v12)), .d (.val (.int .i64 v13)), .d (.val (.int .i64 v14)), .d (.val (.string v15)), .d (.slice v16)]], [] => some (v9, v10, v11, v12, v13, v14, v15, v16)
    | _, _, _ => none
  encV := fun (v9, v10, v11, v12, v13, v14, v15, v16) => [.ptr 0 0, .d (.slice v9), .d (.val (.int .i64 v10)), .d (.val (.int .i64 v11))]
  encB := fun (v9, v10, v11, v12, v13, v14, v15, v16) => [.cells none [.d (.val (.int .i64 v12)), .d (.val (.int .i64 v13)), .d (.val (.int .i64 v14)), .d (.val (.string v15)), .d (.slice v16)]]
  tk := fun _ => []
  decO := fun ex vs bs ts => match ex, vs, bs, ts with
    | .ret, [.d (.val (.bool o29))], [.cells none [.d (.val (.int .i64 o30)), .d (.val (.int .i64 o31)), .d (.val (.int .i64 o32)), .d (.val (.string o33)), .d (.slice o34)]], [] => some (.x0 o29 o30 o31 o32 o33 o34)
    | .normal, [.undef], [.cells none [.d (.val (.int .i64 o47)), .d (.val (.int .i64 o48)), .d (.val (.int .i64 o49)), .d (.val (.string o50)), .d (.slice o51)]], [] => some (.x1 o47 o48 o49 o50 o51)
    | _, _, _, _ => none
  exO := fun x => match x with
    | .x0 o29 o30 o31 o32 o33 o34 => .ret
    | .x1 o47 o48 o49 o50 o51 => .normal
  outV := fun x => match x with
    | .x0 o29 o30 o31 o32 o33 o34 => [.d (.val (.bool o29))]
    | .x1 o47 o48 o49 o50 o51 => [.undef]
  outB := fun x => match x with
    | .x0 o29 o30 o31 o32 o33 o34 => [.cells none [.d (.val (.int .i64 o30)), .d (.val (.int .i64 o31)), .d (.val (.int .i64 o32)), .d (.val (.string o33)), .d (.slice o34)]]
    | .x1 o47 o48 o49 o50 o51 => [.cells none [.d (.val (.int .i64 o47)), .d (.val (.int .i64 o48)), .d (.val (.int .i64 o49)), .d (.val (.string o50)), .d (.slice o51)]]
  tkO := fun x => match x with
    | .x0 o29 o30 o31 o32 o33 o34 => []
    | .x1 o47 o48 o49 o50 o51 => []
  elim := fun x k => match x with
    | .x0 o29 o30 o31 o32 o33 o34 => k .ret [.d (.val (.bool o29))] [.cells none [.d (.val (.int .i64 o30)), .d (.val (.int .i64 o31)), .d (.val (.int .i64 o32)), .d (.val (.string o33)), .d (.slice o34)]] []
    | .x1 o47 o48 o49 o50 o51 => k .normal [.undef] [.cells none [.d (.val (.int .i64 o47)), .d (.val (.int .i64 o48)), .d (.val (.int .i64 o49)), .d (.val (.string o50)), .d (.slice o51)]] []
theorem k62_1 : l62_1.Ok where
  ok1 := by kernel_rfl
  ok2 := by kernel_rfl
  dec := by
    intro vs bs ts a h
    simp only [l62_1] at h ⊢
    split at h
    · cases h; exact ⟨rfl, rfl⟩
    · cases h
  out := by
    intro ex vs bs ts o h
    simp only [l62_1] at h ⊢
    split at h
    · cases h; exact ⟨rfl, rfl, rfl⟩
    · cases h; exact ⟨rfl, rfl, rfl⟩
    · cases h
  len := fun _ => ⟨rfl, rfl⟩
  elim := fun β o k => by cases o <;> rfl
def L62_1 {σ : Type} (F : Int × Int × Int × ByteArray × List D → Option (Bool)) : Nat → A62_1 → σ → Option (O62_1 × σ)
  | 0, _, _ => none
  | n+1, (v9, v10, v11, v12, v13, v14, v15, v16), s => (bif (decide (v11 < v10)) then ((lidx v9 v11).bind fun d17 => ask (d17.cells.length = 5) ((cellAt 0 d17).bind fun x18 => (asInt .i64 x18).bind fun x19 => ((cellAt 1 d17).bind fun x20 => (asInt .i64 x20).bind fun x21 => ((cellAt 2 d17).bind fun x22 => (asInt .i64 x22).bind fun x23 => ((cellAt 3 d17).bind fun x24 => (asStr x24).bind fun x25 => ((cellAt 4 d17).bind fun x26 => (asRow x26).bind fun x27 => ((F (x19, x21, x23, x25, x27)).bind fun y28 => (bif (!y28) then (some (O62_1.x0 false v12 v13 v14 v15 v16, s)) else (bif (v12 == 7) then (bif (decide (v11 > 0)) then ((lidx v16 (w64 (v11 - 1))).bind fun d35 => ask (d35.cells.length = 5) ((cellAt 0 d35).bind fun x36 => (asInt .i64 x36).bind fun x37 => ((cellAt 1 d35).bind fun x38 => (asInt .i64 x38).bind fun x39 => ((cellAt 2 d35).bind fun x40 => (asInt .i64 x40).bind fun x41 => ((cellAt 3 d35).bind fun x42 => (asStr x42).bind fun x43 => ((cellAt 4 d35).bind fun x44 => (asRow x44).bind fun x45 => ((n63 64 (x37, x39, x41, x43, x45, x19, x21, x23, x25, x27)).bind fun y46 => (bif (decide (y46 ≥ 0)) then (some (O62_1.x0 false v12 v13 v14 v15 v16, s)) else (L62_1 F n (v9, v10, (w64 (v11 + 1)), v12, v13, v14, v15, v16) s))))))))) else (L62_1 F n (v9, v10, (w64 (v11 + 1)), v12, v13, v14, v15, v16) s)) else (L62_1 F n (v9, v10, (w64 (v11 + 1)), v12, v13, v14, v15, v16) s)))))))))) else (some (O62_1.x1 v12 v13 v14 v15 v16, s)))
def d62 (ds : List D) : Option (Int × Int × Int × ByteArray × List D) := match ds with
  | [.agg [.val (.int .i64 a0), .val (.int .i64 a1), .val (.int .i64 a2), .val (.string a3), .slice a4]] => some (a0, a1, a2, a3, a4)
  | _ => none
def r62 (v : AV) : Option (Bool) := match toPR v with
  | some (.one (.val (.bool a5))) => some a5
  | _ => none
def n62 : Nat → Int × Int × Int × ByteArray × List D → Option (Bool)
  | 0, _ => none
  | k + 1, (a0, a1, a2, a3, a4) => (bif (a0 == 1) then (bif (bif (bif (sEq a3 (⟨#[]⟩ : ByteArray)) then (((a4.length : Nat) : Int) == 0) else false) then (a2 == 0) else false) then (bif (a1 == 0) then (some true) else (some (a1 == 1))) else (some false)) else (bif (a0 == 2) then (some (bif (bif (sEq a3 (⟨#[]⟩ : ByteArray)) then (((a4.length : Nat) : Int) == 0) else false) then (a2 == 0) else false)) else (bif (a0 == 3) then (bif (bif (sEq a3 (⟨#[]⟩ : ByteArray)) then (((a4.length : Nat) : Int) == 0) else false) then ((n96 a1).bind fun y6 => (bif y6 then ((n96 a2).bind fun y7 => (some y7)) else (some false))) else (some false)) else (bif (a0 == 4) then (bif (bif (bif (a1 == 0) then (a2 == 0) else false) then (((a4.length : Nat) : Int) == 0) else false) then ((n97 a3).bind fun y8 => (some y8)) else (some false)) else (bif (a0 == 5) then (bif (bif (bif (a1 != 0) then true else (a2 != 0)) then true else (!(sEq a3 (⟨#[]⟩ : ByteArray)))) then (some false) else ((L62_1 (n62 k) 1000000000000 (a4, ((a4.length : Nat) : Int), 0, a0, a1, a2, a3, a4) ()).bind fun p52 => match p52.1 with | .x0 z53 z54 z55 z56 z57 z58 => (some z53) | .x1 z59 z60 z61 z62 z63 => (some true))) else (bif (a0 == 6) then (bif (bif (bif (a1 != 0) then true else (a2 != 0)) then true else (!(sEq a3 (⟨#[]⟩ : ByteArray)))) then (some false) else ((L62_1 (n62 k) 1000000000000 (a4, ((a4.length : Nat) : Int), 0, a0, a1, a2, a3, a4) ()).bind fun p107 => match p107.1 with | .x0 z108 z109 z110 z111 z112 z113 => (some z108) | .x1 z114 z115 z116 z117 z118 => (some true))) else (bif (a0 == 7) then (bif (bif (bif (a1 != 0) then true else (a2 != 0)) then true else (!(sEq a3 (⟨#[]⟩ : ByteArray)))) then (some false) else ((L62_1 (n62 k) 1000000000000 (a4, ((a4.length : Nat) : Int), 0, a0, a1, a2, a3, a4) ()).bind fun p162 => match p162.1 with | .x0 z163 z164 z165 z166 z167 z168 => (some z163) | .x1 z169 z170 z171 z172 z173 => (some true))) else (some false))))))))
def e62 : PureE := mkE d62 (n62 64) (fun a5 => .one (.val (.bool a5)))
def g62 (k : Nat) {σ : Type} : Nat → Option (SegE σ)
  | 1 => some (l62_1.seg σ (L62_1 (n62 k) 1000000000000))
  | _ => none
theorem E62_1 {σ : Type} (k : Nat) (Y : Yd σ) : ∀ n a (s : σ), L62_1 (n62 k) (n + 1) a s = evK (cfgOf Tryz.prog (tabsS1 gl) (((62, mkE d62 (n62 k) (fun a5 => .one (.val (.bool a5)))) :: tS4) : Tab)) (toldOf (((62, mkE d62 (n62 k) (fun a5 => .one (.val (.bool a5)))) :: tS4) : Tab)) Y (inlN (cfgOf Tryz.prog (tabsS1 gl) (((62, mkE d62 (n62 k) (fun a5 => .one (.val (.bool a5)))) :: tS4) : Tab)) (toldOf (((62, mkE d62 (n62 k) (fun a5 => .one (.val (.bool a5)))) :: tS4) : Tab)) Y) (g62 k) 62 (loopAt Tryz.f62 1) ((l62_1.toT σ).enc a s) (fun ex st' => l62_1.next (cfgOf Tryz.prog (tabsS1 gl) (((62, mkE d62 (n62 k) (fun a5 => .one (.val (.bool a5)))) :: tS4) : Tab)) 62 1 (L62_1 (n62 k) n) ex st') := by
  intro n ⟨v9, v10, v11, v12, v13, v14, v15, v16⟩ s
  kernel_rfl
theorem Q62_1 {σ : Type} (hl : LibFits gl) (k : Nat) (hk : TabOk Tryz.prog gl (((62, mkE d62 (n62 k) (fun a5 => .one (.val (.bool a5)))) :: tS4) : Tab)) (Y : Yd σ) (rnd : Bool) : SegOk (cfgOf Tryz.prog (tabsS1 gl) (((62, mkE d62 (n62 k) (fun a5 => .one (.val (.bool a5)))) :: tS4) : Tab)) (evFn (cfgOf Tryz.prog (tabsS1 gl) (((62, mkE d62 (n62 k) (fun a5 => .one (.val (.bool a5)))) :: tS4) : Tab)) 9) 62 rnd Y (l62_1.seg σ (L62_1 (n62 k) 1000000000000)) (.block 1 (.loop (loopAt Tryz.f62 1))) :=
  told_loop hk k62_1 (by kernel_rfl) (by kernel_rfl) (fun _ _ => rfl) (segs_no (by kernel_rfl)) (E62_1 k Y) (hr := by kernel_rfl)
theorem N62 : ∀ k a, n62 (k + 1) a = bodyK (cfgOf Tryz.prog (tabsS1 gl) (((62, mkE d62 (n62 k) (fun a5 => .one (.val (.bool a5)))) :: tS4) : Tab)) (toldOf (((62, mkE d62 (n62 k) (fun a5 => .one (.val (.bool a5)))) :: tS4) : Tab)) noY (inlN (cfgOf Tryz.prog (tabsS1 gl) (((62, mkE d62 (n62 k) (fun a5 => .one (.val (.bool a5)))) :: tS4) : Tab)) (toldOf (((62, mkE d62 (n62 k) (fun a5 => .one (.val (.bool a5)))) :: tS4) : Tab)) noY) (g62 k) 62 Tryz.f62 (((fun (a0, a1, a2, a3, a4) => [.agg [.val (.int .i64 a0), .val (.int .i64 a1), .val (.int .i64 a2), .val (.string a3), .slice a4]] : (Int × Int × Int × ByteArray × List D) → List D) a).map .d) [] [] () (retK fun v _ _ _ => r62 v) := by
  intro k a
  obtain ⟨a0, a1, a2, a3, a4⟩ := a
  kernel_rfl
noncomputable def t62 : Tab := (62, e62) :: tS4
theorem ok62 (hl : LibFits gl) : TabOk Tryz.prog gl t62 :=
  told_rec (t := tabsS1 gl) (okS4 hl) mixed (oddOkS1 hl) methOk Tryz.func62 (by kernel_rfl) (nat := n62) (seg := fun k => g62 k) (by kernel_rfl) (fun k hk => (fun p hp e he => by
    have hq : segsOf (σ := Unit) (g62 k (σ := Unit)) (bodyOf Tryz.f62) = [(1, .loop (loopAt Tryz.f62 1))] := by kernel_rfl
    rw [hq] at hp
    simp only [List.mem_cons, List.not_mem_nil, or_false] at hp
    subst hp
    cases he
    exact Q62_1 hl k hk _ _))
    (args := fun (a0, a1, a2, a3, a4) => [.agg [.val (.int .i64 a0), .val (.int .i64 a1), .val (.int .i64 a2), .val (.string a3), .slice a4]]) (res := r62)
    (fun ds a h => by
      unfold d62 at h
      split at h
      · cases h; rfl
      · cases h)
    (fun v r h => by
      unfold r62 at h
      split at h
      · rename_i hv; cases h; exact hv
      · cases h)
    (fun _ => rfl) N62 64
noncomputable def tS5 : Tab := (74, e74) :: (44, e44) :: (62, e62) :: tS4
theorem okS5 (hl : LibFits gl) : TabOk Tryz.prog gl tS5 :=
  TabOk.cons (TabOk.cons (TabOk.cons (okS4 hl) ((ok62 hl).fair (62, e62) (List.mem_cons_self (l := tS4))) ((ok62 hl).spec (62, e62) (List.mem_cons_self (l := tS4)))) ((ok44 hl).fair (44, e44) (List.mem_cons_self (l := tS4))) ((ok44 hl).spec (44, e44) (List.mem_cons_self (l := tS4)))) ((ok74 hl).fair (74, e74) (List.mem_cons_self (l := tS4))) ((ok74 hl).spec (74, e74) (List.mem_cons_self (l := tS4)))
abbrev A47_1 := Int × Int × Int × Int × ByteArray × List D
inductive O47_1 where
  | x0 (o32 : Bool) (o33 : Int) (o34 : Int) (o35 : Int) (o36 : ByteArray) (o37 : List D)
  | x1 (o61 : Int) (o62 : Int) (o63 : Int) (o64 : ByteArray) (o65 : List D)
def l47_1 : LoopS A47_1 O47_1 where
  n := 92
  ks := [1, 3]
  kso := [2]
  m := 1
  mt := 0
  decV := fun vs bs ts => match vs, bs, ts with
    | [.ptr 0 0, .d (.val (.int .i64 v14))], [.cells none [.d (.val (.int .i64 v15)), .d (.val (.int .i64 v16)), .d (.val (.int .i64 v17)), .d (.val (.string v18)), .d (.slice v19)]], [] => some (v14, v15, v16, v17, v18, v19)
    | _, _, _ => none
  encV := fun (v14, v15, v16, v17, v18, v19) => [.ptr 0 0, .d (.val (.int .i64 v14))]
  encB := fun (v14, v15, v16, v17, v18, v19) => [.cells none [.d (.val (.int .i64 v15)), .d (.val (.int .i64 v16)), .d (.val (.int .i64 v17)), .d (.val (.string v18)), .d (.slice v19)]]
  tk := fun _ => []
  decO := fun ex vs bs ts => match ex, vs, bs, ts with
    | .ret, [.d (.val (.bool o32))], [.cells none [.d (.val (.int .i64 o33)), .d (.val (.int .i64 o34)), .d (.val (.int .i64 o35)), .d (.val (.string o36)), .d (.slice o37)]], [] => some (.x0 o32 o33 o34 o35 o36 o37)
    | .normal, [.undef], [.cells none [.d (.val (.int .i64 o61)), .d (.val (.int .i64 o62)), .d (.val (.int .i64 o63)), .d (.val (.string o64)), .d (.slice o65)]], [] => some (.x1 o61 o62 o63 o64 o65)
    | _, _, _, _ => none
  exO := fun x => match x with
    | .x0 o32 o33 o34 o35 o36 o37 => .ret
    | .x1 o61 o62 o63 o64 o65 => .normal
  outV := fun x => match x with
    | .x0 o32 o33 o34 o35 o36 o37 => [.d (.val (.bool o32))]
    | .x1 o61 o62 o63 o64 o65 => [.undef]
  outB := fun x => match x with
    | .x0 o32 o33 o34 o35 o36 o37 => [.cells none [.d (.val (.int .i64 o33)), .d (.val (.int .i64 o34)), .d (.val (.int .i64 o35)), .d (.val (.string o36)), .d (.slice o37)]]
    | .x1 o61 o62 o63 o64 o65 => [.cells none [.d (.val (.int .i64 o61)), .d (.val (.int .i64 o62)), .d (.val (.int .i64 o63)), .d (.val (.string o64)), .d (.slice o65)]]
  tkO := fun x => match x with
    | .x0 o32 o33 o34 o35 o36 o37 => []
    | .x1 o61 o62 o63 o64 o65 => []
  elim := fun x k => match x with
    | .x0 o32 o33 o34 o35 o36 o37 => k .ret [.d (.val (.bool o32))] [.cells none [.d (.val (.int .i64 o33)), .d (.val (.int .i64 o34)), .d (.val (.int .i64 o35)), .d (.val (.string o36)), .d (.slice o37)]] []
    | .x1 o61 o62 o63 o64 o65 => k .normal [.undef] [.cells none [.d (.val (.int .i64 o61)), .d (.val (.int .i64 o62)), .d (.val (.int .i64 o63)), .d (.val (.string o64)), .d (.slice o65)]] []
theorem k47_1 : l47_1.Ok where
  ok1 := by kernel_rfl
  ok2 := by kernel_rfl
  dec := by
    intro vs bs ts a h
    simp only [l47_1] at h ⊢
    split at h
    · cases h; exact ⟨rfl, rfl⟩
    · cases h
  out := by
    intro ex vs bs ts o h
    simp only [l47_1] at h ⊢
    split at h
    · cases h; exact ⟨rfl, rfl, rfl⟩
    · cases h; exact ⟨rfl, rfl, rfl⟩
    · cases h
  len := fun _ => ⟨rfl, rfl⟩
  elim := fun β o k => by cases o <;> rfl
def L47_1 {σ : Type} (F : Int × Int × Int × ByteArray × List D → Option (Bool)) : Nat → A47_1 → σ → Option (O47_1 × σ)
  | 0, _, _ => none
  | n+1, (v14, v15, v16, v17, v18, v19), s => (bif (decide (v14 < ((v19.length : Nat) : Int))) then ((lidx v19 v14).bind fun d20 => ask (d20.cells.length = 5) ((cellAt 0 d20).bind fun x21 => (asInt .i64 x21).bind fun x22 => ((cellAt 1 d20).bind fun x23 => (asInt .i64 x23).bind fun x24 => ((cellAt 2 d20).bind fun x25 => (asInt .i64 x25).bind fun x26 => ((cellAt 3 d20).bind fun x27 => (asStr x27).bind fun x28 => ((cellAt 4 d20).bind fun x29 => (asRow x29).bind fun x30 => ((F (x22, x24, x26, x28, x30)).bind fun y31 => (bif (!y31) then (some (O47_1.x0 false v15 v16 v17 v18 v19, s)) else (bif (v15 == 7) then (bif (decide (v14 > 0)) then ((lidx v19 (w64 (v14 - 1))).bind fun d38 => ask (d38.cells.length = 5) ((cellAt 0 d38).bind fun x39 => (asInt .i64 x39).bind fun x40 => ((cellAt 1 d38).bind fun x41 => (asInt .i64 x41).bind fun x42 => ((cellAt 2 d38).bind fun x43 => (asInt .i64 x43).bind fun x44 => ((cellAt 3 d38).bind fun x45 => (asStr x45).bind fun x46 => ((cellAt 4 d38).bind fun x47 => (asRow x47).bind fun x48 => ((lidx v19 v14).bind fun d49 => ask (d49.cells.length = 5) ((cellAt 0 d49).bind fun x50 => (asInt .i64 x50).bind fun x51 => ((cellAt 1 d49).bind fun x52 => (asInt .i64 x52).bind fun x53 => ((cellAt 2 d49).bind fun x54 => (asInt .i64 x54).bind fun x55 => ((cellAt 3 d49).bind fun x56 => (asStr x56).bind fun x57 => ((cellAt 4 d49).bind fun x58 => (asRow x58).bind fun x59 => ((n48 64 (x40, x42, x44, x46, x48, x51, x53, x55, x57, x59)).bind fun y60 => (bif (decide (y60 ≥ 0)) then (some (O47_1.x0 false v15 v16 v17 v18 v19, s)) else (L47_1 F n ((w64 (v14 + 1)), v15, v16, v17, v18, v19) s))))))))))))))) else (L47_1 F n ((w64 (v14 + 1)), v15, v16, v17, v18, v19) s)) else (L47_1 F n ((w64 (v14 + 1)), v15, v16, v17, v18, v19) s)))))))))) else (some (O47_1.x1 v15 v16 v17 v18 v19, s)))
def d47 (ds : List D) : Option (Int × Int × Int × ByteArray × List D) := match ds with
  | [.agg [.val (.int .i64 a0), .val (.int .i64 a1), .val (.int .i64 a2), .val (.string a3), .slice a4]] => some (a0, a1, a2, a3, a4)
  | _ => none
def r47 (v : AV) : Option (Bool) := match toPR v with
  | some (.one (.val (.bool a5))) => some a5
  | _ => none
def n47 : Nat → Int × Int × Int × ByteArray × List D → Option (Bool)
  | 0, _ => none
  | k + 1, (a0, a1, a2, a3, a4) => (bif (a0 == 1) then ((n72 (a0, a1, a2, a3, a4, true, false, false, false)).bind fun y6 => (bif y6 then (bif (a1 == 0) then (some true) else (some (a1 == 1))) else (some false))) else (bif (a0 == 2) then ((n72 (a0, a1, a2, a3, a4, true, false, false, false)).bind fun y7 => (some y7)) else (bif (a0 == 3) then ((n72 (a0, a1, a2, a3, a4, true, true, false, false)).bind fun y8 => (bif y8 then ((n73 a1).bind fun y9 => (bif y9 then ((n73 a2).bind fun y10 => (some y10)) else (some false))) else (some false))) else (bif (a0 == 4) then ((n72 (a0, a1, a2, a3, a4, false, false, true, false)).bind fun y11 => (bif y11 then ((n74 a3).bind fun y12 => (some y12)) else (some false))) else (bif (a0 == 5) then ((n72 (a0, a1, a2, a3, a4, false, false, false, true)).bind fun y13 => (bif (!y13) then (some false) else ((L47_1 (n47 k) 1000000000000 (0, a0, a1, a2, a3, a4) ()).bind fun p66 => match p66.1 with | .x0 z67 z68 z69 z70 z71 z72 => (some z67) | .x1 z73 z74 z75 z76 z77 => (some true)))) else (bif (a0 == 6) then ((n72 (a0, a1, a2, a3, a4, false, false, false, true)).bind fun y78 => (bif (!y78) then (some false) else ((L47_1 (n47 k) 1000000000000 (0, a0, a1, a2, a3, a4) ()).bind fun p131 => match p131.1 with | .x0 z132 z133 z134 z135 z136 z137 => (some z132) | .x1 z138 z139 z140 z141 z142 => (some true)))) else (bif (a0 == 7) then ((n72 (a0, a1, a2, a3, a4, false, false, false, true)).bind fun y143 => (bif (!y143) then (some false) else ((L47_1 (n47 k) 1000000000000 (0, a0, a1, a2, a3, a4) ()).bind fun p196 => match p196.1 with | .x0 z197 z198 z199 z200 z201 z202 => (some z197) | .x1 z203 z204 z205 z206 z207 => (some true)))) else (some false))))))))
def e47 : PureE := mkE d47 (n47 64) (fun a5 => .one (.val (.bool a5)))
def g47 (k : Nat) {σ : Type} : Nat → Option (SegE σ)
  | 1 => some (l47_1.seg σ (L47_1 (n47 k) 1000000000000))
  | _ => none
theorem E47_1 {σ : Type} (k : Nat) (Y : Yd σ) : ∀ n a (s : σ), L47_1 (n47 k) (n + 1) a s = evK (cfgOf Tryz.prog (tabsS1 gl) (((47, mkE d47 (n47 k) (fun a5 => .one (.val (.bool a5)))) :: tS5) : Tab)) (toldOf (((47, mkE d47 (n47 k) (fun a5 => .one (.val (.bool a5)))) :: tS5) : Tab)) Y (inlN (cfgOf Tryz.prog (tabsS1 gl) (((47, mkE d47 (n47 k) (fun a5 => .one (.val (.bool a5)))) :: tS5) : Tab)) (toldOf (((47, mkE d47 (n47 k) (fun a5 => .one (.val (.bool a5)))) :: tS5) : Tab)) Y) (g47 k) 47 (loopAt Tryz.f47 1) ((l47_1.toT σ).enc a s) (fun ex st' => l47_1.next (cfgOf Tryz.prog (tabsS1 gl) (((47, mkE d47 (n47 k) (fun a5 => .one (.val (.bool a5)))) :: tS5) : Tab)) 47 1 (L47_1 (n47 k) n) ex st') := by
  intro n ⟨v14, v15, v16, v17, v18, v19⟩ s
  kernel_rfl
theorem Q47_1 {σ : Type} (hl : LibFits gl) (k : Nat) (hk : TabOk Tryz.prog gl (((47, mkE d47 (n47 k) (fun a5 => .one (.val (.bool a5)))) :: tS5) : Tab)) (Y : Yd σ) (rnd : Bool) : SegOk (cfgOf Tryz.prog (tabsS1 gl) (((47, mkE d47 (n47 k) (fun a5 => .one (.val (.bool a5)))) :: tS5) : Tab)) (evFn (cfgOf Tryz.prog (tabsS1 gl) (((47, mkE d47 (n47 k) (fun a5 => .one (.val (.bool a5)))) :: tS5) : Tab)) 9) 47 rnd Y (l47_1.seg σ (L47_1 (n47 k) 1000000000000)) (.block 1 (.loop (loopAt Tryz.f47 1))) :=
  told_loop hk k47_1 (by kernel_rfl) (by kernel_rfl) (fun _ _ => rfl) (segs_no (by kernel_rfl)) (E47_1 k Y) (hr := by kernel_rfl)
theorem N47 : ∀ k a, n47 (k + 1) a = bodyK (cfgOf Tryz.prog (tabsS1 gl) (((47, mkE d47 (n47 k) (fun a5 => .one (.val (.bool a5)))) :: tS5) : Tab)) (toldOf (((47, mkE d47 (n47 k) (fun a5 => .one (.val (.bool a5)))) :: tS5) : Tab)) noY (inlN (cfgOf Tryz.prog (tabsS1 gl) (((47, mkE d47 (n47 k) (fun a5 => .one (.val (.bool a5)))) :: tS5) : Tab)) (toldOf (((47, mkE d47 (n47 k) (fun a5 => .one (.val (.bool a5)))) :: tS5) : Tab)) noY) (g47 k) 47 Tryz.f47 (((fun (a0, a1, a2, a3, a4) => [.agg [.val (.int .i64 a0), .val (.int .i64 a1), .val (.int .i64 a2), .val (.string a3), .slice a4]] : (Int × Int × Int × ByteArray × List D) → List D) a).map .d) [] [] () (retK fun v _ _ _ => r47 v) := by
  intro k a
  obtain ⟨a0, a1, a2, a3, a4⟩ := a
  kernel_rfl
noncomputable def t47 : Tab := (47, e47) :: tS5
theorem ok47 (hl : LibFits gl) : TabOk Tryz.prog gl t47 :=
  told_rec (t := tabsS1 gl) (okS5 hl) mixed (oddOkS1 hl) methOk Tryz.func47 (by kernel_rfl) (nat := n47) (seg := fun k => g47 k) (by kernel_rfl) (fun k hk => (fun p hp e he => by
    have hq : segsOf (σ := Unit) (g47 k (σ := Unit)) (bodyOf Tryz.f47) = [(1, .loop (loopAt Tryz.f47 1))] := by kernel_rfl
    rw [hq] at hp
    simp only [List.mem_cons, List.not_mem_nil, or_false] at hp
    subst hp
    cases he
    exact Q47_1 hl k hk _ _))
    (args := fun (a0, a1, a2, a3, a4) => [.agg [.val (.int .i64 a0), .val (.int .i64 a1), .val (.int .i64 a2), .val (.string a3), .slice a4]]) (res := r47)
    (fun ds a h => by
      unfold d47 at h
      split at h
      · cases h; rfl
      · cases h)
    (fun v r h => by
      unfold r47 at h
      split at h
      · rename_i hv; cases h; exact hv
      · cases h)
    (fun _ => rfl) N47 64
def d34 (ds : List D) : Option (Int × Int × Int × ByteArray × List D) := match ds with
  | [.agg [.val (.int .i64 a0), .val (.int .i64 a1), .val (.int .i64 a2), .val (.string a3), .slice a4]] => some (a0, a1, a2, a3, a4)
  | _ => none
def r34 (v : AV) : Option (Int) := match toPR v with
  | some (.one (.val (.int .i64 a5))) => some a5
  | _ => none
def n34 : Int × Int × Int × ByteArray × List D → Option (Int) := fun (a0, a1, a2, a3, a4) => ((n61 (a0, a1, a2, a3, a4)).bind fun y6 => (bif (!y6) then (some 40) else ((n62 64 (a0, a1, a2, a3, a4)).bind fun y7 => (bif (!y7) then (some 40) else (some 0)))))
def e34 : PureE := mkE d34 n34 (fun a5 => .one (.val (.int .i64 a5)))
def g34 {σ : Type} : Nat → Option (SegE σ)
  | _ => none
theorem N34 : ∀ a, n34 a = bodyK (cfgOf Tryz.prog (tabsS1 gl) tS5) (toldOf tS5) noY (inlN (cfgOf Tryz.prog (tabsS1 gl) tS5) (toldOf tS5) noY) g34 34 Tryz.f34 (((fun (a0, a1, a2, a3, a4) => [.agg [.val (.int .i64 a0), .val (.int .i64 a1), .val (.int .i64 a2), .val (.string a3), .slice a4]] : (Int × Int × Int × ByteArray × List D) → List D) a).map .d) [] [] () (retK fun v _ _ _ => r34 v) := by
  intro a
  obtain ⟨a0, a1, a2, a3, a4⟩ := a
  kernel_rfl
noncomputable def t34 : Tab := (34, e34) :: tS5
theorem ok34 (hl : LibFits gl) : TabOk Tryz.prog gl t34 :=
  told_fn (okS5 hl) mixed (oddOkS1 hl) methOk Tryz.func34 (by kernel_rfl) (by kernel_rfl) (by kernel_rfl) (segs_no (by kernel_rfl))
    (args := fun (a0, a1, a2, a3, a4) => [.agg [.val (.int .i64 a0), .val (.int .i64 a1), .val (.int .i64 a2), .val (.string a3), .slice a4]]) (res := r34)
    (fun ds a h => by
      unfold d34 at h
      split at h
      · cases h; rfl
      · cases h)
    (fun v r h => by
      unfold r34 at h
      split at h
      · rename_i hv; cases h; exact hv
      · cases h)
    N34
noncomputable def tS6 : Tab := (47, e47) :: (34, e34) :: tS5
theorem okS6 (hl : LibFits gl) : TabOk Tryz.prog gl tS6 :=
  TabOk.cons (TabOk.cons (okS5 hl) ((ok34 hl).fair (34, e34) (List.mem_cons_self (l := tS5))) ((ok34 hl).spec (34, e34) (List.mem_cons_self (l := tS5)))) ((ok47 hl).fair (47, e47) (List.mem_cons_self (l := tS5))) ((ok47 hl).spec (47, e47) (List.mem_cons_self (l := tS5)))
def d22 (ds : List D) : Option (Int × Int × Int × ByteArray × List D) := match ds with
  | [.agg [.val (.int .i64 a0), .val (.int .i64 a1), .val (.int .i64 a2), .val (.string a3), .slice a4]] => some (a0, a1, a2, a3, a4)
  | _ => none
def r22 (v : AV) : Option (Bool) := match toPR v with
  | some (.one (.val (.bool a5))) => some a5
  | _ => none
def n22 : Int × Int × Int × ByteArray × List D → Option (Bool) := fun (a0, a1, a2, a3, a4) => ((n36 64 (a0, a1, a2, a3, a4, 0, 1)).bind fun y6 => (bif (decide (y6 ≤ 4096)) then ((n47 64 (a0, a1, a2, a3, a4)).bind fun y7 => (some y7)) else (some false)))
def e22 : PureE := mkE d22 n22 (fun a5 => .one (.val (.bool a5)))
def g22 {σ : Type} : Nat → Option (SegE σ)
  | _ => none
theorem N22 : ∀ a, n22 a = bodyK (cfgOf Tryz.prog (tabsS1 gl) tS6) (toldOf tS6) noY (inlN (cfgOf Tryz.prog (tabsS1 gl) tS6) (toldOf tS6) noY) g22 22 Tryz.f22 (((fun (a0, a1, a2, a3, a4) => [.agg [.val (.int .i64 a0), .val (.int .i64 a1), .val (.int .i64 a2), .val (.string a3), .slice a4]] : (Int × Int × Int × ByteArray × List D) → List D) a).map .d) [] [] () (retK fun v _ _ _ => r22 v) := by
  intro a
  obtain ⟨a0, a1, a2, a3, a4⟩ := a
  kernel_rfl
noncomputable def t22 : Tab := (22, e22) :: tS6
theorem ok22 (hl : LibFits gl) : TabOk Tryz.prog gl t22 :=
  told_fn (okS6 hl) mixed (oddOkS1 hl) methOk Tryz.func22 (by kernel_rfl) (by kernel_rfl) (by kernel_rfl) (segs_no (by kernel_rfl))
    (args := fun (a0, a1, a2, a3, a4) => [.agg [.val (.int .i64 a0), .val (.int .i64 a1), .val (.int .i64 a2), .val (.string a3), .slice a4]]) (res := r22)
    (fun ds a h => by
      unfold d22 at h
      split at h
      · cases h; rfl
      · cases h)
    (fun v r h => by
      unfold r22 at h
      split at h
      · rename_i hv; cases h; exact hv
      · cases h)
    N22
def d35 (ds : List D) : Option (Int × Int × Int × ByteArray × List D × Int × Int × Int × ByteArray × List D) := match ds with
  | [.agg [.val (.int .i64 a0), .val (.int .i64 a1), .val (.int .i64 a2), .val (.string a3), .slice a4], .agg [.val (.int .i64 a5), .val (.int .i64 a6), .val (.int .i64 a7), .val (.string a8), .slice a9]] => some (a0, a1, a2, a3, a4, a5, a6, a7, a8, a9)
  | _ => none
def r35 (v : AV) : Option (Int) := match toPR v with
  | some (.one (.val (.int .i64 a10))) => some a10
  | _ => none
def n35 : Int × Int × Int × ByteArray × List D × Int × Int × Int × ByteArray × List D → Option (Int) := fun (a0, a1, a2, a3, a4, a5, a6, a7, a8, a9) => ((n34 (a0, a1, a2, a3, a4)).bind fun y11 => ((n34 (a5, a6, a7, a8, a9)).bind fun y12 => (bif (bif (y11 == 0) then (y12 == 0) else false) then ((n63 64 (a0, a1, a2, a3, a4, a5, a6, a7, a8, a9)).bind fun y13 => (some y13)) else (bif (y11 == 0) then (some (-1)) else (bif (y12 == 0) then (some 1) else (some 0))))))
def e35 : PureE := mkE d35 n35 (fun a10 => .one (.val (.int .i64 a10)))
def g35 {σ : Type} : Nat → Option (SegE σ)
  | _ => none
theorem N35 : ∀ a, n35 a = bodyK (cfgOf Tryz.prog (tabsS1 gl) tS6) (toldOf tS6) noY (inlN (cfgOf Tryz.prog (tabsS1 gl) tS6) (toldOf tS6) noY) g35 35 Tryz.f35 (((fun (a0, a1, a2, a3, a4, a5, a6, a7, a8, a9) => [.agg [.val (.int .i64 a0), .val (.int .i64 a1), .val (.int .i64 a2), .val (.string a3), .slice a4], .agg [.val (.int .i64 a5), .val (.int .i64 a6), .val (.int .i64 a7), .val (.string a8), .slice a9]] : (Int × Int × Int × ByteArray × List D × Int × Int × Int × ByteArray × List D) → List D) a).map .d) [] [] () (retK fun v _ _ _ => r35 v) := by
  intro a
  obtain ⟨a0, a1, a2, a3, a4, a5, a6, a7, a8, a9⟩ := a
  kernel_rfl
noncomputable def t35 : Tab := (35, e35) :: tS6
theorem ok35 (hl : LibFits gl) : TabOk Tryz.prog gl t35 :=
  told_fn (okS6 hl) mixed (oddOkS1 hl) methOk Tryz.func35 (by kernel_rfl) (by kernel_rfl) (by kernel_rfl) (segs_no (by kernel_rfl))
    (args := fun (a0, a1, a2, a3, a4, a5, a6, a7, a8, a9) => [.agg [.val (.int .i64 a0), .val (.int .i64 a1), .val (.int .i64 a2), .val (.string a3), .slice a4], .agg [.val (.int .i64 a5), .val (.int .i64 a6), .val (.int .i64 a7), .val (.string a8), .slice a9]]) (res := r35)
    (fun ds a h => by
      unfold d35 at h
      split at h
      · cases h; rfl
      · cases h)
    (fun v r h => by
      unfold r35 at h
      split at h
      · rename_i hv; cases h; exact hv
      · cases h)
    N35
def d16 (ds : List D) : Option (Int × ByteArray × ByteArray × ByteArray × Int × Int × Int × ByteArray × List D × Int × Int × Int) := match ds with
  | [.agg [.val (.int .i64 a0), .val (.string a1), .val (.string a2), .val (.string a3), .val (.int .i64 a4), .val (.int .i64 a5), .val (.int .i64 a6), .val (.string a7), .slice a8, .val (.int .i64 a9), .val (.int .i64 a10), .val (.int .i64 a11)]] => some (a0, a1, a2, a3, a4, a5, a6, a7, a8, a9, a10, a11)
  | _ => none
def r16 (v : AV) : Option (Bool) := match toPR v with
  | some (.one (.val (.bool a12))) => some a12
  | _ => none
def n16 : Int × ByteArray × ByteArray × ByteArray × Int × Int × Int × ByteArray × List D × Int × Int × Int → Option (Bool) := fun (a0, a1, a2, a3, a4, a5, a6, a7, a8, a9, a10, a11) => ((n38 a1).bind fun y13 => (bif (!y13) then (some false) else ((n34 (a4, a5, a6, a7, a8)).bind fun y14 => (bif (y14 != 0) then (some false) else (bif (a0 == 1) then ((n39 a2).bind fun y15 => (bif (y15 == 0) then ((n38 a3).bind fun y16 => (some y16)) else (some false))) else (bif (a0 == 2) then (some (bif (sEq a2 (⟨#[]⟩ : ByteArray)) then (sEq a3 (⟨#[]⟩ : ByteArray)) else false)) else (some false)))))))
def e16 : PureE := mkE d16 n16 (fun a12 => .one (.val (.bool a12)))
def g16 {σ : Type} : Nat → Option (SegE σ)
  | _ => none
theorem N16 : ∀ a, n16 a = bodyK (cfgOf Tryz.prog (tabsS1 gl) tS6) (toldOf tS6) noY (inlN (cfgOf Tryz.prog (tabsS1 gl) tS6) (toldOf tS6) noY) g16 16 Tryz.f16 (((fun (a0, a1, a2, a3, a4, a5, a6, a7, a8, a9, a10, a11) => [.agg [.val (.int .i64 a0), .val (.string a1), .val (.string a2), .val (.string a3), .val (.int .i64 a4), .val (.int .i64 a5), .val (.int .i64 a6), .val (.string a7), .slice a8, .val (.int .i64 a9), .val (.int .i64 a10), .val (.int .i64 a11)]] : (Int × ByteArray × ByteArray × ByteArray × Int × Int × Int × ByteArray × List D × Int × Int × Int) → List D) a).map .d) [] [] () (retK fun v _ _ _ => r16 v) := by
  intro a
  obtain ⟨a0, a1, a2, a3, a4, a5, a6, a7, a8, a9, a10, a11⟩ := a
  kernel_rfl
noncomputable def t16 : Tab := (16, e16) :: tS6
theorem ok16 (hl : LibFits gl) : TabOk Tryz.prog gl t16 :=
  told_fn (okS6 hl) mixed (oddOkS1 hl) methOk Tryz.func16 (by kernel_rfl) (by kernel_rfl) (by kernel_rfl) (segs_no (by kernel_rfl))
    (args := fun (a0, a1, a2, a3, a4, a5, a6, a7, a8, a9, a10, a11) => [.agg [.val (.int .i64 a0), .val (.string a1), .val (.string a2), .val (.string a3), .val (.int .i64 a4), .val (.int .i64 a5), .val (.int .i64 a6), .val (.string a7), .slice a8, .val (.int .i64 a9), .val (.int .i64 a10), .val (.int .i64 a11)]]) (res := r16)
    (fun ds a h => by
      unfold d16 at h
      split at h
      · cases h; rfl
      · cases h)
    (fun v r h => by
      unfold r16 at h
      split at h
      · rename_i hv; cases h; exact hv
      · cases h)
    N16
noncomputable def tS7 : Tab := (22, e22) :: (35, e35) :: (16, e16) :: tS6
theorem okS7 (hl : LibFits gl) : TabOk Tryz.prog gl tS7 :=
  TabOk.cons (TabOk.cons (TabOk.cons (okS6 hl) ((ok16 hl).fair (16, e16) (List.mem_cons_self (l := tS6))) ((ok16 hl).spec (16, e16) (List.mem_cons_self (l := tS6)))) ((ok35 hl).fair (35, e35) (List.mem_cons_self (l := tS6))) ((ok35 hl).spec (35, e35) (List.mem_cons_self (l := tS6)))) ((ok22 hl).fair (22, e22) (List.mem_cons_self (l := tS6))) ((ok22 hl).spec (22, e22) (List.mem_cons_self (l := tS6)))
def d20 (ds : List D) : Option (Int × ByteArray × ByteArray × ByteArray × Int × Int × Int × ByteArray × List D × Int × Int × Int) := match ds with
  | [.agg [.val (.int .i64 a0), .val (.string a1), .val (.string a2), .val (.string a3), .val (.int .i64 a4), .val (.int .i64 a5), .val (.int .i64 a6), .val (.string a7), .slice a8, .val (.int .i64 a9), .val (.int .i64 a10), .val (.int .i64 a11)]] => some (a0, a1, a2, a3, a4, a5, a6, a7, a8, a9, a10, a11)
  | _ => none
def r20 (v : AV) : Option (Bool) := match toPR v with
  | some (.one (.val (.bool a12))) => some a12
  | _ => none
def n20 : Int × ByteArray × ByteArray × ByteArray × Int × Int × Int × ByteArray × List D × Int × Int × Int → Option (Bool) := fun (a0, a1, a2, a3, a4, a5, a6, a7, a8, a9, a10, a11) => ((n44 a1).bind fun y13 => (bif (!y13) then (some false) else ((n22 (a4, a5, a6, a7, a8)).bind fun y14 => (bif (!y14) then (some false) else (bif (a0 == 1) then ((n45 a2).bind fun y15 => (bif y15 then ((n44 a3).bind fun y16 => (some y16)) else (some false))) else (some (bif (bif (a0 == 2) then (sEq a2 (⟨#[]⟩ : ByteArray)) else false) then (sEq a3 (⟨#[]⟩ : ByteArray)) else false)))))))
def e20 : PureE := mkE d20 n20 (fun a12 => .one (.val (.bool a12)))
def g20 {σ : Type} : Nat → Option (SegE σ)
  | _ => none
theorem N20 : ∀ a, n20 a = bodyK (cfgOf Tryz.prog (tabsS1 gl) tS7) (toldOf tS7) noY (inlN (cfgOf Tryz.prog (tabsS1 gl) tS7) (toldOf tS7) noY) g20 20 Tryz.f20 (((fun (a0, a1, a2, a3, a4, a5, a6, a7, a8, a9, a10, a11) => [.agg [.val (.int .i64 a0), .val (.string a1), .val (.string a2), .val (.string a3), .val (.int .i64 a4), .val (.int .i64 a5), .val (.int .i64 a6), .val (.string a7), .slice a8, .val (.int .i64 a9), .val (.int .i64 a10), .val (.int .i64 a11)]] : (Int × ByteArray × ByteArray × ByteArray × Int × Int × Int × ByteArray × List D × Int × Int × Int) → List D) a).map .d) [] [] () (retK fun v _ _ _ => r20 v) := by
  intro a
  obtain ⟨a0, a1, a2, a3, a4, a5, a6, a7, a8, a9, a10, a11⟩ := a
  kernel_rfl
noncomputable def t20 : Tab := (20, e20) :: tS7
theorem ok20 (hl : LibFits gl) : TabOk Tryz.prog gl t20 :=
  told_fn (okS7 hl) mixed (oddOkS1 hl) methOk Tryz.func20 (by kernel_rfl) (by kernel_rfl) (by kernel_rfl) (segs_no (by kernel_rfl))
    (args := fun (a0, a1, a2, a3, a4, a5, a6, a7, a8, a9, a10, a11) => [.agg [.val (.int .i64 a0), .val (.string a1), .val (.string a2), .val (.string a3), .val (.int .i64 a4), .val (.int .i64 a5), .val (.int .i64 a6), .val (.string a7), .slice a8, .val (.int .i64 a9), .val (.int .i64 a10), .val (.int .i64 a11)]]) (res := r20)
    (fun ds a h => by
      unfold d20 at h
      split at h
      · cases h; rfl
      · cases h)
    (fun v r h => by
      unfold r20 at h
      split at h
      · rename_i hv; cases h; exact hv
      · cases h)
    N20
abbrev A6_0 := List D × List D × Int × Nat
inductive O6_0 where
  | x0 (o32 : List D) (q33 : Nat)
def l6_0 : LoopS A6_0 O6_0 where
  n := 25
  ks := [0, 3, 4]
  kso := [3]
  m := 0
  mt := 2
  decV := fun vs bs ts => match vs, bs, ts with
    | [.d (.slice v2), .osl 1 v3, .d (.val (.int .i64 v4))], [], [k5, _] => some (v2, v3, v4, k5)
    | _, _, _ => none
  encV := fun (v2, v3, v4, k5) => [.d (.slice v2), .osl 1 v3, .d (.val (.int .i64 v4))]
  encB := fun (v2, v3, v4, k5) => []
  tk := fun (v2, v3, v4, k5) => [k5, v3.length]
  decO := fun ex vs bs ts => match ex, vs, bs, ts with
    | .normal, [.osl 1 o32], [], [q33, _] => some (.x0 o32 q33)
    | _, _, _, _ => none
  exO := fun x => match x with
    | .x0 o32 q33 => .normal
  outV := fun x => match x with
    | .x0 o32 q33 => [.osl 1 o32]
  outB := fun x => match x with
    | .x0 o32 q33 => []
  tkO := fun x => match x with
    | .x0 o32 q33 => [q33, o32.length]
  elim := fun x k => match x with
    | .x0 o32 q33 => k .normal [.osl 1 o32] [] [q33, o32.length]
theorem k6_0 : l6_0.Ok where
  ok1 := by kernel_rfl
  ok2 := by kernel_rfl
  dec := by
    intro vs bs ts a h
    simp only [l6_0] at h ⊢
    split at h
    · cases h; exact ⟨rfl, rfl⟩
    · cases h
  out := by
    intro ex vs bs ts o h
    simp only [l6_0] at h ⊢
    split at h
    · cases h; exact ⟨rfl, rfl, rfl⟩
    · cases h
  len := fun _ => ⟨rfl, rfl⟩
  elim := fun β o k => by cases o <;> rfl
def L6_0 {σ : Type} : Nat → A6_0 → σ → Option (O6_0 × σ)
  | 0, _, _ => none
  | n+1, (v2, v3, v4, k5), s => (bif (decide (v4 < ((v2.length : Nat) : Int))) then ((lidx v2 v4).bind fun d6 => ask (d6.cells.length = 12) ((cellAt 0 d6).bind fun x7 => (asInt .i64 x7).bind fun x8 => ((cellAt 1 d6).bind fun x9 => (asStr x9).bind fun x10 => ((cellAt 2 d6).bind fun x11 => (asStr x11).bind fun x12 => ((cellAt 3 d6).bind fun x13 => (asStr x13).bind fun x14 => ((cellAt 4 d6).bind fun x15 => (asInt .i64 x15).bind fun x16 => ((cellAt 5 d6).bind fun x17 => (asInt .i64 x17).bind fun x18 => ((cellAt 6 d6).bind fun x19 => (asInt .i64 x19).bind fun x20 => ((cellAt 7 d6).bind fun x21 => (asStr x21).bind fun x22 => ((cellAt 8 d6).bind fun x23 => (asRow x23).bind fun x24 => ((cellAt 9 d6).bind fun x25 => (asInt .i64 x25).bind fun x26 => ((cellAt 10 d6).bind fun x27 => (asInt .i64 x27).bind fun x28 => ((cellAt 11 d6).bind fun x29 => (asInt .i64 x29).bind fun x30 => ((n15 (x16, x18, x20, x22, x24)).bind fun y31 => (ask (addOk v3.length v3 ([.agg [.val (.int .i64 x8), .val (.string x10), .val (.string x12), .val (.string x14), .val (.int .i64 y31.1), .val (.int .i64 y31.2.1), .val (.int .i64 y31.2.2.1), .val (.string y31.2.2.2.1), .slice y31.2.2.2.2, .val (.int .i64 x26), .val (.int .i64 x28), .val (.int .i64 x30)]] : List D) 12 144) (ask (([k5, (v3.length + ([.agg [.val (.int .i64 x8), .val (.string x10), .val (.string x12), .val (.string x14), .val (.int .i64 y31.1), .val (.int .i64 y31.2.1), .val (.int .i64 y31.2.2.1), .val (.string y31.2.2.2.1), .slice y31.2.2.2.2, .val (.int .i64 x26), .val (.int .i64 x28), .val (.int .i64 x30)]] : List D).length)] : List Nat) = [k5, (v3 ++ ([.agg [.val (.int .i64 x8), .val (.string x10), .val (.string x12), .val (.string x14), .val (.int .i64 y31.1), .val (.int .i64 y31.2.1), .val (.int .i64 y31.2.2.1), .val (.string y31.2.2.2.1), .slice y31.2.2.2.2, .val (.int .i64 x26), .val (.int .i64 x28), .val (.int .i64 x30)]] : List D)).length]) (L6_0 n (v2, (v3 ++ ([.agg [.val (.int .i64 x8), .val (.string x10), .val (.string x12), .val (.string x14), .val (.int .i64 y31.1), .val (.int .i64 y31.2.1), .val (.int .i64 y31.2.2.1), .val (.string y31.2.2.2.1), .slice y31.2.2.2.2, .val (.int .i64 x26), .val (.int .i64 x28), .val (.int .i64 x30)]] : List D)), (w64 (v4 + 1)), k5) s))))))))))))))))) else (ask (([k5, v3.length] : List Nat) = [k5, v3.length]) (some (O6_0.x0 v3 k5, s))))
def d6 (ds : List D) : Option (List D) := match ds with
  | [.slice a0] => some a0
  | _ => none
def r6 (v : AV) : Option (List D) := match toPR v with
  | some (.one (.slice a1)) => some a1
  | _ => none
def n6 : List D → Option (List D) := fun a0 => (ask (([0, 0] : List Nat) = [0, ([] : List D).length]) ((L6_0 1000000000000 (a0, ([] : List D), 0, 0) ()).bind fun p34 => match p34.1 with | .x0 z35 z36 => (some z35)))
def e6 : PureE := mkE d6 n6 (fun a1 => .one (.slice a1))
def g6 {σ : Type} : Nat → Option (SegE σ)
  | 0 => some (l6_0.seg σ (L6_0 1000000000000))
  | _ => none
theorem E6_0 {σ : Type} (Y : Yd σ) : ∀ n a (s : σ), L6_0 (n + 1) a s = evK (cfgOf Tryz.prog (tabsS1 gl) tS7) (toldOf tS7) Y (inlN (cfgOf Tryz.prog (tabsS1 gl) tS7) (toldOf tS7) Y) g6 6 (loopAt Tryz.f6 0) ((l6_0.toT σ).enc a s) (fun ex st' => l6_0.next (cfgOf Tryz.prog (tabsS1 gl) tS7) 6 0 (L6_0 n) ex st') := by
  intro n ⟨v2, v3, v4, k5⟩ s
  kernel_rfl
theorem Q6_0 {σ : Type} (hl : LibFits gl) (Y : Yd σ) (rnd : Bool) : SegOk (cfgOf Tryz.prog (tabsS1 gl) tS7) (evFn (cfgOf Tryz.prog (tabsS1 gl) tS7) 9) 6 rnd Y (l6_0.seg σ (L6_0 1000000000000)) (.block 0 (.loop (loopAt Tryz.f6 0))) :=
  told_loop (okS7 hl) k6_0 (by kernel_rfl) (by kernel_rfl) (fun _ _ => rfl) (segs_no (by kernel_rfl)) (E6_0 Y) (hr := by kernel_rfl)
theorem N6 : ∀ a, n6 a = bodyK (cfgOf Tryz.prog (tabsS1 gl) tS7) (toldOf tS7) noY (inlN (cfgOf Tryz.prog (tabsS1 gl) tS7) (toldOf tS7) noY) g6 6 Tryz.f6 (((fun a0 => [.slice a0] : (List D) → List D) a).map .d) [] [] () (retK fun v _ _ _ => r6 v) := by
  intro a0
  kernel_rfl
noncomputable def t6 : Tab := (6, e6) :: tS7
theorem ok6 (hl : LibFits gl) : TabOk Tryz.prog gl t6 :=
  told_fn (okS7 hl) mixed (oddOkS1 hl) methOk Tryz.func6 (by kernel_rfl) (by kernel_rfl) (by kernel_rfl) (fun p hp e he => by
    have hq : segsOf (σ := Unit) (g6 (σ := Unit)) (bodyOf Tryz.f6) = [(0, .loop (loopAt Tryz.f6 0))] := by kernel_rfl
    rw [hq] at hp
    simp only [List.mem_cons, List.not_mem_nil, or_false] at hp
    subst hp
    cases he
    exact Q6_0 hl _ _)
    (args := fun a0 => [.slice a0]) (res := r6)
    (fun ds a h => by
      unfold d6 at h
      split at h
      · cases h; rfl
      · cases h)
    (fun v r h => by
      unfold r6 at h
      split at h
      · rename_i hv; cases h; exact hv
      · cases h)
    N6
noncomputable def tS8 : Tab := (20, e20) :: (6, e6) :: tS7
theorem okS8 (hl : LibFits gl) : TabOk Tryz.prog gl tS8 :=
  TabOk.cons (TabOk.cons (okS7 hl) ((ok6 hl).fair (6, e6) (List.mem_cons_self (l := tS7))) ((ok6 hl).spec (6, e6) (List.mem_cons_self (l := tS7)))) ((ok20 hl).fair (20, e20) (List.mem_cons_self (l := tS7))) ((ok20 hl).spec (20, e20) (List.mem_cons_self (l := tS7)))
abbrev A26_0 := Int × ByteArray × Nat
inductive O26_0 where
  | x0 (o5 : Int) (o6 : ByteArray) (q7 : Nat)
def l26_0 : LoopS A26_0 O26_0 where
  n := 19
  ks := [0, 3]
  kso := [0, 3]
  m := 0
  mt := 2
  decV := fun vs bs ts => match vs, bs, ts with
    | [.d (.val (.int .u64 v2)), .obs 1 v3], [], [k4, _] => some (v2, v3, k4)
    | _, _, _ => none
  encV := fun (v2, v3, k4) => [.d (.val (.int .u64 v2)), .obs 1 v3]
  encB := fun (v2, v3, k4) => []
  tk := fun (v2, v3, k4) => [k4, v3.size]
  decO := fun ex vs bs ts => match ex, vs, bs, ts with
    | .normal, [.d (.val (.int .u64 o5)), .obs 1 o6], [], [q7, _] => some (.x0 o5 o6 q7)
    | _, _, _, _ => none
  exO := fun x => match x with
    | .x0 o5 o6 q7 => .normal
  outV := fun x => match x with
    | .x0 o5 o6 q7 => [.d (.val (.int .u64 o5)), .obs 1 o6]
  outB := fun x => match x with
    | .x0 o5 o6 q7 => []
  tkO := fun x => match x with
    | .x0 o5 o6 q7 => [q7, o6.size]
  elim := fun x k => match x with
    | .x0 o5 o6 q7 => k .normal [.d (.val (.int .u64 o5)), .obs 1 o6] [] [q7, o6.size]
theorem k26_0 : l26_0.Ok where
  ok1 := by kernel_rfl
  ok2 := by kernel_rfl
  dec := by
    intro vs bs ts a h
    simp only [l26_0] at h ⊢
    split at h
    · cases h; exact ⟨rfl, rfl⟩
    · cases h
  out := by
    intro ex vs bs ts o h
    simp only [l26_0] at h ⊢
    split at h
    · cases h; exact ⟨rfl, rfl, rfl⟩
    · cases h
  len := fun _ => ⟨rfl, rfl⟩
  elim := fun β o k => by cases o <;> rfl
def L26_0 {σ : Type} : Nat → A26_0 → σ → Option (O26_0 × σ)
  | 0, _, _ => none
  | n+1, (v2, v3, k4), s => (bif (decide (v2 ≥ 128)) then (ask (byteOk (bOr .u8 (wu8 v2) 128)) (ask (addBOk v3.size v3 (bcons (bOr .u8 (wu8 v2) 128) ByteArray.empty) 1) (ask (([k4, (v3.size + (bcons (bOr .u8 (wu8 v2) 128) ByteArray.empty).size)] : List Nat) = [k4, (v3 ++ (bcons (bOr .u8 (wu8 v2) 128) ByteArray.empty)).size]) (L26_0 n (((v2 : Int).fdiv (2 ^ (min (Int.toNat 7) 64))), (v3 ++ (bcons (bOr .u8 (wu8 v2) 128) ByteArray.empty)), k4) s)))) else (ask (([k4, v3.size] : List Nat) = [k4, v3.size]) (some (O26_0.x0 v2 v3 k4, s))))
def d26 (ds : List D) : Option (Int) := match ds with
  | [.val (.int .u64 a0)] => some a0
  | _ => none
def r26 (v : AV) : Option (ByteArray) := match toPR v with
  | some (.one (.bytes a1)) => some a1
  | _ => none
def n26 : Int → Option (ByteArray) := fun a0 => (ask (([0, 0] : List Nat) = [0, ByteArray.empty.size]) ((L26_0 1000000000000 (a0, ByteArray.empty, 0) ()).bind fun p8 => match p8.1 with | .x0 z9 z10 z11 => (ask (byteOk (wu8 z9)) (ask (addBOk z10.size z10 (bcons (wu8 z9) ByteArray.empty) 1) (some (z10 ++ (bcons (wu8 z9) ByteArray.empty)))))))
def e26 : PureE := mkE d26 n26 (fun a1 => .one (.bytes a1))
def g26 {σ : Type} : Nat → Option (SegE σ)
  | 0 => some (l26_0.seg σ (L26_0 1000000000000))
  | _ => none
theorem E26_0 {σ : Type} (Y : Yd σ) : ∀ n a (s : σ), L26_0 (n + 1) a s = evK (cfgOf Tryz.prog (tabsS1 gl) tS8) (toldOf tS8) Y (inlN (cfgOf Tryz.prog (tabsS1 gl) tS8) (toldOf tS8) Y) g26 26 (loopAt Tryz.f26 0) ((l26_0.toT σ).enc a s) (fun ex st' => l26_0.next (cfgOf Tryz.prog (tabsS1 gl) tS8) 26 0 (L26_0 n) ex st') := by
  intro n ⟨v2, v3, k4⟩ s
  kernel_rfl
theorem Q26_0 {σ : Type} (hl : LibFits gl) (Y : Yd σ) (rnd : Bool) : SegOk (cfgOf Tryz.prog (tabsS1 gl) tS8) (evFn (cfgOf Tryz.prog (tabsS1 gl) tS8) 9) 26 rnd Y (l26_0.seg σ (L26_0 1000000000000)) (.block 0 (.loop (loopAt Tryz.f26 0))) :=
  told_loop (okS8 hl) k26_0 (by kernel_rfl) (by kernel_rfl) (fun _ _ => rfl) (segs_no (by kernel_rfl)) (E26_0 Y) (hr := by kernel_rfl)
theorem N26 : ∀ a, n26 a = bodyK (cfgOf Tryz.prog (tabsS1 gl) tS8) (toldOf tS8) noY (inlN (cfgOf Tryz.prog (tabsS1 gl) tS8) (toldOf tS8) noY) g26 26 Tryz.f26 (((fun a0 => [.val (.int .u64 a0)] : (Int) → List D) a).map .d) [] [] () (retK fun v _ _ _ => r26 v) := by
  intro a0
  kernel_rfl
noncomputable def t26 : Tab := (26, e26) :: tS8
theorem ok26 (hl : LibFits gl) : TabOk Tryz.prog gl t26 :=
  told_fn (okS8 hl) mixed (oddOkS1 hl) methOk Tryz.func26 (by kernel_rfl) (by kernel_rfl) (by kernel_rfl) (fun p hp e he => by
    have hq : segsOf (σ := Unit) (g26 (σ := Unit)) (bodyOf Tryz.f26) = [(0, .loop (loopAt Tryz.f26 0))] := by kernel_rfl
    rw [hq] at hp
    simp only [List.mem_cons, List.not_mem_nil, or_false] at hp
    subst hp
    cases he
    exact Q26_0 hl _ _)
    (args := fun a0 => [.val (.int .u64 a0)]) (res := r26)
    (fun ds a h => by
      unfold d26 at h
      split at h
      · cases h; rfl
      · cases h)
    (fun v r h => by
      unfold r26 at h
      split at h
      · rename_i hv; cases h; exact hv
      · cases h)
    N26
def d93 (ds : List D) : Option (Int) := match ds with
  | [.val (.int .u64 a0)] => some a0
  | _ => none
def r93 (v : AV) : Option (ByteArray) := match toPR v with
  | some (.one (.bytes a1)) => some a1
  | _ => none
def n93 : Nat → Int → Option (ByteArray)
  | 0, _ => none
  | k + 1, a0 => (bif (decide (a0 < 128)) then (ask (byteOk (wu8 a0)) (some (bcons (wu8 a0) ByteArray.empty))) else (ask (byteOk (bOr .u8 (wu8 a0) 128)) ((n93 k ((a0 : Int).fdiv (2 ^ (min (Int.toNat 7) 64)))).bind fun y2 => (ask (addBOk ((bcons (bOr .u8 (wu8 a0) 128) ByteArray.empty).size) (bcons (bOr .u8 (wu8 a0) 128) ByteArray.empty) y2 1) (some ((bcons (bOr .u8 (wu8 a0) 128) ByteArray.empty) ++ y2))))))
def e93 : PureE := mkE d93 (n93 64) (fun a1 => .one (.bytes a1))
def g93 {σ : Type} : Nat → Option (SegE σ)
  | _ => none
theorem N93 : ∀ k a, n93 (k + 1) a = bodyK (cfgOf Tryz.prog (tabsS1 gl) (((93, mkE d93 (n93 k) (fun a1 => .one (.bytes a1))) :: tS8) : Tab)) (toldOf (((93, mkE d93 (n93 k) (fun a1 => .one (.bytes a1))) :: tS8) : Tab)) noY (inlN (cfgOf Tryz.prog (tabsS1 gl) (((93, mkE d93 (n93 k) (fun a1 => .one (.bytes a1))) :: tS8) : Tab)) (toldOf (((93, mkE d93 (n93 k) (fun a1 => .one (.bytes a1))) :: tS8) : Tab)) noY) g93 93 Tryz.f93 (((fun a0 => [.val (.int .u64 a0)] : (Int) → List D) a).map .d) [] [] () (retK fun v _ _ _ => r93 v) := by
  intro k a0
  kernel_rfl
noncomputable def t93 : Tab := (93, e93) :: tS8
theorem ok93 (hl : LibFits gl) : TabOk Tryz.prog gl t93 :=
  told_rec (t := tabsS1 gl) (okS8 hl) mixed (oddOkS1 hl) methOk Tryz.func93 (by kernel_rfl) (nat := n93) (seg := fun _ => g93) (by kernel_rfl) (fun k hk => (segs_no (by kernel_rfl)))
    (args := fun a0 => [.val (.int .u64 a0)]) (res := r93)
    (fun ds a h => by
      unfold d93 at h
      split at h
      · cases h; rfl
      · cases h)
    (fun v r h => by
      unfold r93 at h
      split at h
      · rename_i hv; cases h; exact hv
      · cases h)
    (fun _ => rfl) N93 64
def d29 (ds : List D) : Option (Int) := match ds with
  | [.val (.int .i64 a0)] => some a0
  | _ => none
def r29 (v : AV) : Option (ByteArray) := match toPR v with
  | some (.one (.bytes a1)) => some a1
  | _ => none
def n29 : Nat → Int → Option (ByteArray)
  | 0, _ => none
  | k + 1, a0 => (bif (decide (a0 < 128)) then (ask (byteOk (wu8 a0)) (some (bcons (wu8 a0) ByteArray.empty))) else (ask (byteOk (bOr .u8 (wu8 a0) 128)) ((n29 k ((a0 : Int).fdiv (2 ^ (min (Int.toNat 7) 64)))).bind fun y2 => (ask (addBOk ((bcons (bOr .u8 (wu8 a0) 128) ByteArray.empty).size) (bcons (bOr .u8 (wu8 a0) 128) ByteArray.empty) y2 1) (some ((bcons (bOr .u8 (wu8 a0) 128) ByteArray.empty) ++ y2))))))
def e29 : PureE := mkE d29 (n29 64) (fun a1 => .one (.bytes a1))
def g29 {σ : Type} : Nat → Option (SegE σ)
  | _ => none
theorem N29 : ∀ k a, n29 (k + 1) a = bodyK (cfgOf Tryz.prog (tabsS1 gl) (((29, mkE d29 (n29 k) (fun a1 => .one (.bytes a1))) :: tS8) : Tab)) (toldOf (((29, mkE d29 (n29 k) (fun a1 => .one (.bytes a1))) :: tS8) : Tab)) noY (inlN (cfgOf Tryz.prog (tabsS1 gl) (((29, mkE d29 (n29 k) (fun a1 => .one (.bytes a1))) :: tS8) : Tab)) (toldOf (((29, mkE d29 (n29 k) (fun a1 => .one (.bytes a1))) :: tS8) : Tab)) noY) g29 29 Tryz.f29 (((fun a0 => [.val (.int .i64 a0)] : (Int) → List D) a).map .d) [] [] () (retK fun v _ _ _ => r29 v) := by
  intro k a0
  kernel_rfl
noncomputable def t29 : Tab := (29, e29) :: tS8
theorem ok29 (hl : LibFits gl) : TabOk Tryz.prog gl t29 :=
  told_rec (t := tabsS1 gl) (okS8 hl) mixed (oddOkS1 hl) methOk Tryz.func29 (by kernel_rfl) (nat := n29) (seg := fun _ => g29) (by kernel_rfl) (fun k hk => (segs_no (by kernel_rfl)))
    (args := fun a0 => [.val (.int .i64 a0)]) (res := r29)
    (fun ds a h => by
      unfold d29 at h
      split at h
      · cases h; rfl
      · cases h)
    (fun v r h => by
      unfold r29 at h
      split at h
      · rename_i hv; cases h; exact hv
      · cases h)
    (fun _ => rfl) N29 64
def d94 (ds : List D) : Option (Int) := match ds with
  | [.val (.int .i64 a0)] => some a0
  | _ => none
def r94 (v : AV) : Option (Int) := match toPR v with
  | some (.one (.val (.int .u64 a1))) => some a1
  | _ => none
def n94 : Int → Option (Int) := fun a0 => (bif (decide (a0 < 0)) then (some (wu64 ((wu64 (2 * (wu64 (w64 (0 - (w64 (a0 + 1))))))) + 1))) else (some (wu64 (2 * (wu64 a0)))))
def e94 : PureE := mkE d94 n94 (fun a1 => .one (.val (.int .u64 a1)))
def g94 {σ : Type} : Nat → Option (SegE σ)
  | _ => none
theorem N94 : ∀ a, n94 a = bodyK (cfgOf Tryz.prog (tabsS1 gl) tS8) (toldOf tS8) noY (inlN (cfgOf Tryz.prog (tabsS1 gl) tS8) (toldOf tS8) noY) g94 94 Tryz.f94 (((fun a0 => [.val (.int .i64 a0)] : (Int) → List D) a).map .d) [] [] () (retK fun v _ _ _ => r94 v) := by
  intro a0
  kernel_rfl
noncomputable def t94 : Tab := (94, e94) :: tS8
theorem ok94 (hl : LibFits gl) : TabOk Tryz.prog gl t94 :=
  told_fn (okS8 hl) mixed (oddOkS1 hl) methOk Tryz.func94 (by kernel_rfl) (by kernel_rfl) (by kernel_rfl) (segs_no (by kernel_rfl))
    (args := fun a0 => [.val (.int .i64 a0)]) (res := r94)
    (fun ds a h => by
      unfold d94 at h
      split at h
      · cases h; rfl
      · cases h)
    (fun v r h => by
      unfold r94 at h
      split at h
      · rename_i hv; cases h; exact hv
      · cases h)
    N94
noncomputable def tS9 : Tab := (26, e26) :: (93, e93) :: (29, e29) :: (94, e94) :: tS8
theorem okS9 (hl : LibFits gl) : TabOk Tryz.prog gl tS9 :=
  TabOk.cons (TabOk.cons (TabOk.cons (TabOk.cons (okS8 hl) ((ok94 hl).fair (94, e94) (List.mem_cons_self (l := tS8))) ((ok94 hl).spec (94, e94) (List.mem_cons_self (l := tS8)))) ((ok29 hl).fair (29, e29) (List.mem_cons_self (l := tS8))) ((ok29 hl).spec (29, e29) (List.mem_cons_self (l := tS8)))) ((ok93 hl).fair (93, e93) (List.mem_cons_self (l := tS8))) ((ok93 hl).spec (93, e93) (List.mem_cons_self (l := tS8)))) ((ok26 hl).fair (26, e26) (List.mem_cons_self (l := tS8))) ((ok26 hl).spec (26, e26) (List.mem_cons_self (l := tS8)))
abbrev AO26_0 := Int × ByteArray × Nat
inductive OO26_0 where
  | x0 (o5 : Int) (o6 : ByteArray) (q7 : Nat)
def lO26_0 : LoopS AO26_0 OO26_0 where
  n := 19
  ks := [0, 3]
  kso := [0, 3]
  m := 0
  mt := 2
  decV := fun vs bs ts => match vs, bs, ts with
    | [.d (.val (.int .u64 v2)), .obs 1 v3], [], [k4, _] => some (v2, v3, k4)
    | _, _, _ => none
  encV := fun (v2, v3, k4) => [.d (.val (.int .u64 v2)), .obs 1 v3]
  encB := fun (v2, v3, k4) => []
  tk := fun (v2, v3, k4) => [k4, v3.size]
  decO := fun ex vs bs ts => match ex, vs, bs, ts with
    | .normal, [.d (.val (.int .u64 o5)), .obs 1 o6], [], [q7, _] => some (.x0 o5 o6 q7)
    | _, _, _, _ => none
  exO := fun x => match x with
    | .x0 o5 o6 q7 => .normal
  outV := fun x => match x with
    | .x0 o5 o6 q7 => [.d (.val (.int .u64 o5)), .obs 1 o6]
  outB := fun x => match x with
    | .x0 o5 o6 q7 => []
  tkO := fun x => match x with
    | .x0 o5 o6 q7 => [q7, o6.size]
  elim := fun x k => match x with
    | .x0 o5 o6 q7 => k .normal [.d (.val (.int .u64 o5)), .obs 1 o6] [] [q7, o6.size]
theorem kO26_0 : lO26_0.Ok where
  ok1 := by kernel_rfl
  ok2 := by kernel_rfl
  dec := by
    intro vs bs ts a h
    simp only [lO26_0] at h ⊢
    split at h
    · cases h; exact ⟨rfl, rfl⟩
    · cases h
  out := by
    intro ex vs bs ts o h
    simp only [lO26_0] at h ⊢
    split at h
    · cases h; exact ⟨rfl, rfl, rfl⟩
    · cases h
  len := fun _ => ⟨rfl, rfl⟩
  elim := fun β o k => by cases o <;> rfl
def LO26_0 {σ : Type} : Nat → AO26_0 → σ → Option (OO26_0 × σ)
  | 0, _, _ => none
  | n+1, (v2, v3, k4), s => (bif (decide (v2 ≥ 128)) then (ask (byteOk (bOr .u8 (wu8 v2) 128)) (ask (addBOk v3.size v3 (bcons (bOr .u8 (wu8 v2) 128) ByteArray.empty) 1) (ask (([k4, (v3.size + (bcons (bOr .u8 (wu8 v2) 128) ByteArray.empty).size)] : List Nat) = [k4, (v3 ++ (bcons (bOr .u8 (wu8 v2) 128) ByteArray.empty)).size]) (LO26_0 n (((v2 : Int).fdiv (2 ^ (min (Int.toNat 7) 64))), (v3 ++ (bcons (bOr .u8 (wu8 v2) 128) ByteArray.empty)), k4) s)))) else (ask (([k4, v3.size] : List Nat) = [k4, v3.size]) (some (OO26_0.x0 v2 v3 k4, s))))
def dO26 (ds : List D) : Option (Int) := match ds with
  | [.val (.int .u64 a0)] => some a0
  | _ => none
def rO26 (v : AV) (tk : List Nat) : Option (ByteArray) := match v with
  | .obs j r1 => (tk[j]?).bind fun n => ask (n = r1.size) (some r1)
  | _ => none
def wO26 : (ByteArray) → ByteArray := fun r1 => r1
def xO26 : (ByteArray) → List D := fun r1 => []
def nO26 : Int → Option (ByteArray) := fun a0 => (ask (([0, 0] : List Nat) = [0, ByteArray.empty.size]) ((LO26_0 1000000000000 (a0, ByteArray.empty, 0) ()).bind fun p8 => match p8.1 with | .x0 z9 z10 z11 => (ask (byteOk (wu8 z9)) (ask (addBOk z10.size z10 (bcons (wu8 z9) ByteArray.empty) 1) (ask ((z10.size + (bcons (wu8 z9) ByteArray.empty).size) = (z10 ++ (bcons (wu8 z9) ByteArray.empty)).size) (some (z10 ++ (bcons (wu8 z9) ByteArray.empty))))))))
def gO26 {σ : Type} : Nat → Option (SegE σ)
  | 0 => some (lO26_0.seg σ (LO26_0 1000000000000))
  | _ => none
theorem EO26_0 {σ : Type} (Y : Yd σ) : ∀ n a (s : σ), LO26_0 (n + 1) a s = evK (cfgOf Tryz.prog (tabsS1 gl) tS9) (toldOf tS9) Y (inlN (cfgOf Tryz.prog (tabsS1 gl) tS9) (toldOf tS9) Y) gO26 26 (loopAt Tryz.f26 0) ((lO26_0.toT σ).enc a s) (fun ex st' => lO26_0.next (cfgOf Tryz.prog (tabsS1 gl) tS9) 26 0 (LO26_0 n) ex st') := by
  intro n ⟨v2, v3, k4⟩ s
  kernel_rfl
theorem QO26_0 {σ : Type} (hl : LibFits gl) (Y : Yd σ) (rnd : Bool) : SegOk (cfgOf Tryz.prog (tabsS1 gl) tS9) (evFn (cfgOf Tryz.prog (tabsS1 gl) tS9) 9) 26 rnd Y (lO26_0.seg σ (LO26_0 1000000000000)) (.block 0 (.loop (loopAt Tryz.f26 0))) :=
  told_loop (okS9 hl) kO26_0 (by kernel_rfl) (by kernel_rfl) (fun _ _ => rfl) (segs_no (by kernel_rfl)) (EO26_0 Y) (hr := by kernel_rfl)
theorem NO26 : ∀ a, nO26 a = bodyK (cfgOf Tryz.prog (tabsS1 gl) tS9) (toldOf tS9) noY (inlN (cfgOf Tryz.prog (tabsS1 gl) tS9) (toldOf tS9) noY) gO26 26 Tryz.f26 ((((fun a0 => [.val (.int .u64 a0)]) : (Int) → List D) a).map .d) [] [] () (retK fun v _ tk _ => rO26 v tk) := by
  intro a0
  kernel_rfl
theorem omO26 (hl : LibFits gl) : OddSound Tryz.prog gl (fun g => bif Nat.beq g 26 then some (ownB dO26 nO26 wO26 xO26) else (tabsS1 gl).odd g) :=
  told_ownB (t := tabsS1 gl) (okS9 hl) mixed (oddOkS1 hl) methOk Tryz.func26 (by kernel_rfl) (row := wO26) (rest := xO26) (args := (fun a0 => [.val (.int .u64 a0)])) (res := rO26) (by kernel_rfl) (fun p hp e he => by
    have hq : segsOf (σ := Unit) (gO26 (σ := Unit)) (bodyOf Tryz.f26) = [(0, .loop (loopAt Tryz.f26 0))] := by kernel_rfl
    rw [hq] at hp
    simp only [List.mem_cons, List.not_mem_nil, or_false] at hp
    subst hp
    cases he
    exact QO26_0 hl _ _)
    (fun ds a h => by
      unfold dO26 at h
      split at h
      · cases h; rfl
      · cases h)
    (fun v tk o h => by
      unfold rO26 at h
      split at h
      · obtain ⟨n, h1, h2⟩ := bind_some h
        obtain ⟨h3, h4⟩ := ask_some h2
        cases h4
        exact ⟨⟨_, rfl, h1.trans (congrArg some h3)⟩, rfl⟩
      · cases h)
    NO26
noncomputable def tabsS10 (gl : Nat → Option (List D)) : Tabs := { tabsS1 gl with odd := fun g => bif Nat.beq g 26 then some (ownB dO26 nO26 wO26 xO26) else ((tabsS1 gl).odd g) }
theorem oddOkS10 (hl : LibFits gl) : OddSound Tryz.prog gl (tabsS10 gl).odd := OddSound.join (omO26 hl) ((oddOkS1 hl))
noncomputable abbrev tS10 : Tab := tS9
theorem okS10 (hl : LibFits gl) : TabOk Tryz.prog gl tS10 := okS9 hl
def d27 (ds : List D) : Option (ByteArray) := match ds with
  | [.val (.string a0)] => some a0
  | _ => none
def r27 (v : AV) : Option (ByteArray) := match toPR v with
  | some (.one (.bytes a1)) => some a1
  | _ => none
def n27 : ByteArray → Option (ByteArray) := fun a0 => ((nO26 (wu64 (a0.size : Int))).bind fun y2 => (ask (addBOk y2.size y2 a0 1) (some (y2 ++ a0))))
def e27 : PureE := mkE d27 n27 (fun a1 => .one (.bytes a1))
def g27 {σ : Type} : Nat → Option (SegE σ)
  | _ => none
theorem N27 : ∀ a, n27 a = bodyK (cfgOf Tryz.prog (tabsS10 gl) tS10) (toldOf tS10) noY (inlN (cfgOf Tryz.prog (tabsS10 gl) tS10) (toldOf tS10) noY) g27 27 Tryz.f27 (((fun a0 => [.val (.string a0)] : (ByteArray) → List D) a).map .d) [] [] () (retK fun v _ _ _ => r27 v) := by
  intro a0
  kernel_rfl
noncomputable def t27 : Tab := (27, e27) :: tS10
theorem ok27 (hl : LibFits gl) : TabOk Tryz.prog gl t27 :=
  told_fn (okS10 hl) mixed (oddOkS10 hl) methOk Tryz.func27 (by kernel_rfl) (by kernel_rfl) (by kernel_rfl) (segs_no (by kernel_rfl))
    (args := fun a0 => [.val (.string a0)]) (res := r27)
    (fun ds a h => by
      unfold d27 at h
      split at h
      · cases h; rfl
      · cases h)
    (fun v r h => by
      unfold r27 at h
      split at h
      · rename_i hv; cases h; exact hv
      · cases h)
    N27
noncomputable def tS11 : Tab := (27, e27) :: tS10
theorem okS11 (hl : LibFits gl) : TabOk Tryz.prog gl tS11 :=
  TabOk.cons (okS10 hl) ((ok27 hl).fair (27, e27) (List.mem_cons_self (l := tS10))) ((ok27 hl).spec (27, e27) (List.mem_cons_self (l := tS10)))
def d92 (ds : List D) : Option (Int) := match ds with
  | [.val (.int .i64 a0)] => some a0
  | _ => none
def r92 (v : AV) : Option (ByteArray) := match toPR v with
  | some (.one (.bytes a1)) => some a1
  | _ => none
def n92 : Int → Option (ByteArray) := fun a0 => (bif (decide (a0 < 0)) then ((n26 (bXor .u64 18446744073709551615 (wu64 ((wu64 a0) * 2 ^ (min (Int.toNat 1) 64))))).bind fun y2 => (some y2)) else ((n26 (wu64 ((wu64 a0) * 2 ^ (min (Int.toNat 1) 64)))).bind fun y3 => (some y3)))
def e92 : PureE := mkE d92 n92 (fun a1 => .one (.bytes a1))
def g92 {σ : Type} : Nat → Option (SegE σ)
  | _ => none
theorem N92 : ∀ a, n92 a = bodyK (cfgOf Tryz.prog (tabsS1 gl) tS11) (toldOf tS11) noY (inlN (cfgOf Tryz.prog (tabsS1 gl) tS11) (toldOf tS11) noY) g92 92 Tryz.f92 (((fun a0 => [.val (.int .i64 a0)] : (Int) → List D) a).map .d) [] [] () (retK fun v _ _ _ => r92 v) := by
  intro a0
  kernel_rfl
noncomputable def t92 : Tab := (92, e92) :: tS11
theorem ok92 (hl : LibFits gl) : TabOk Tryz.prog gl t92 :=
  told_fn (okS11 hl) mixed (oddOkS1 hl) methOk Tryz.func92 (by kernel_rfl) (by kernel_rfl) (by kernel_rfl) (segs_no (by kernel_rfl))
    (args := fun a0 => [.val (.int .i64 a0)]) (res := r92)
    (fun ds a h => by
      unfold d92 at h
      split at h
      · cases h; rfl
      · cases h)
    (fun v r h => by
      unfold r92 at h
      split at h
      · rename_i hv; cases h; exact hv
      · cases h)
    N92
noncomputable def tS12 : Tab := (92, e92) :: tS11
theorem okS12 (hl : LibFits gl) : TabOk Tryz.prog gl tS12 :=
  TabOk.cons (okS11 hl) ((ok92 hl).fair (92, e92) (List.mem_cons_self (l := tS11))) ((ok92 hl).spec (92, e92) (List.mem_cons_self (l := tS11)))
abbrev A59_1 := ByteArray × List D × Int × Int × Int × Int × Int × ByteArray × List D × Nat × Nat
inductive O59_1 where
  | x0 (o37 : ByteArray) (o38 : Int) (o39 : Int) (o40 : Int) (o41 : ByteArray) (o42 : List D) (q43 : Nat) (q44 : Nat)
def l59_1 : LoopS A59_1 O59_1 where
  n := 67
  ks := [0, 56, 57, 58]
  kso := [0]
  m := 1
  mt := 3
  decV := fun vs bs ts => match vs, bs, ts with
    | [.obs 0 v14, .d (.slice v15), .d (.val (.int .i64 v16)), .d (.val (.int .i64 v17))], [.cells none [.d (.val (.int .i64 v18)), .d (.val (.int .i64 v19)), .d (.val (.int .i64 v20)), .d (.val (.string v21)), .d (.slice v22)]], [_, k23, k24] => some (v14, v15, v16, v17, v18, v19, v20, v21, v22, k23, k24)
    | _, _, _ => none
  encV := fun (v14, v15, v16, v17, v18, v19, v20, v21, v22, k23, k24) => [.obs 0 v14, .d (.slice v15), .d (.val (.int .i64 v16)), .d (.val (.int .i64 v17))]
  encB := fun (v14, v15, v16, v17, v18, v19, v20, v21, v22, k23, k24) => [.cells none [.d (.val (.int .i64 v18)), .d (.val (.int .i64 v19)), .d (.val (.int .i64 v20)), .d (.val (.string v21)), .d (.slice v22)]]
  tk := fun (v14, v15, v16, v17, v18, v19, v20, v21, v22, k23, k24) => [v14.size, k23, k24]
  decO := fun ex vs bs ts => match ex, vs, bs, ts with
    | .normal, [.obs 0 o37], [.cells none [.d (.val (.int .i64 o38)), .d (.val (.int .i64 o39)), .d (.val (.int .i64 o40)), .d (.val (.string o41)), .d (.slice o42)]], [_, q43, q44] => some (.x0 o37 o38 o39 o40 o41 o42 q43 q44)
    | _, _, _, _ => none
  exO := fun x => match x with
    | .x0 o37 o38 o39 o40 o41 o42 q43 q44 => .normal
  outV := fun x => match x with
    | .x0 o37 o38 o39 o40 o41 o42 q43 q44 => [.obs 0 o37]
  outB := fun x => match x with
    | .x0 o37 o38 o39 o40 o41 o42 q43 q44 => [.cells none [.d (.val (.int .i64 o38)), .d (.val (.int .i64 o39)), .d (.val (.int .i64 o40)), .d (.val (.string o41)), .d (.slice o42)]]
  tkO := fun x => match x with
    | .x0 o37 o38 o39 o40 o41 o42 q43 q44 => [o37.size, q43, q44]
  elim := fun x k => match x with
    | .x0 o37 o38 o39 o40 o41 o42 q43 q44 => k .normal [.obs 0 o37] [.cells none [.d (.val (.int .i64 o38)), .d (.val (.int .i64 o39)), .d (.val (.int .i64 o40)), .d (.val (.string o41)), .d (.slice o42)]] [o37.size, q43, q44]
theorem k59_1 : l59_1.Ok where
  ok1 := by kernel_rfl
  ok2 := by kernel_rfl
  dec := by
    intro vs bs ts a h
    simp only [l59_1] at h ⊢
    split at h
    · cases h; exact ⟨rfl, rfl⟩
    · cases h
  out := by
    intro ex vs bs ts o h
    simp only [l59_1] at h ⊢
    split at h
    · cases h; exact ⟨rfl, rfl, rfl⟩
    · cases h
  len := fun _ => ⟨rfl, rfl⟩
  elim := fun β o k => by cases o <;> rfl
def L59_1 {σ : Type} (F : ByteArray × Int × Int × Int × ByteArray × List D × Nat → Option (ByteArray × Nat)) : Nat → A59_1 → σ → Option (O59_1 × σ)
  | 0, _, _ => none
  | n+1, (v14, v15, v16, v17, v18, v19, v20, v21, v22, k23, k24), s => (bif (decide (v17 < v16)) then ((lidx v15 v17).bind fun d25 => ask (d25.cells.length = 5) ((cellAt 0 d25).bind fun x26 => (asInt .i64 x26).bind fun x27 => ((cellAt 1 d25).bind fun x28 => (asInt .i64 x28).bind fun x29 => ((cellAt 2 d25).bind fun x30 => (asInt .i64 x30).bind fun x31 => ((cellAt 3 d25).bind fun x32 => (asStr x32).bind fun x33 => ((cellAt 4 d25).bind fun x34 => (asRow x34).bind fun x35 => ((F (v14, x27, x29, x31, x33, x35, v14.size)).bind fun y36 => (ask (([y36.2, k23, k24] : List Nat) = [y36.1.size, k23, k24]) (L59_1 F n (y36.1, v15, v16, (w64 (v17 + 1)), v18, v19, v20, v21, v22, k23, k24) s))))))))) else (ask (([v14.size, k23, k24] : List Nat) = [v14.size, k23, k24]) (some (O59_1.x0 v14 v18 v19 v20 v21 v22 k23 k24, s))))
def dM59 (av : List AV) (bs : List Box) (ts : List Nat) : Option (ByteArray × Int × Int × Int × ByteArray × List D × Nat) := match av, bs, ts with
  | [.obs 0 a0, .d (.agg [.val (.int .i64 a2), .val (.int .i64 a3), .val (.int .i64 a4), .val (.string a5), .slice a6])], [], [k1] => some (a0, a2, a3, a4, a5, a6, k1)
  | _, _, _ => none
def aM59 : (ByteArray × Int × Int × Int × ByteArray × List D × Nat) → List AV := fun (a0, a2, a3, a4, a5, a6, k1) => [.obs 0 a0, .d (.agg [.val (.int .i64 a2), .val (.int .i64 a3), .val (.int .i64 a4), .val (.string a5), .slice a6])]
def bM59 : (ByteArray × Int × Int × Int × ByteArray × List D × Nat) → List Box := fun (a0, a2, a3, a4, a5, a6, k1) => []
def tM59 : (ByteArray × Int × Int × Int × ByteArray × List D × Nat) → List Nat := fun (a0, a2, a3, a4, a5, a6, k1) => [k1]
def vM59 : (ByteArray × Nat) → AV := fun (o7, q8) => .obs 0 o7
def cM59 : (ByteArray × Nat) → List Box := fun (o7, q8) => []
def kM59 : (ByteArray × Nat) → List Nat := fun (o7, q8) => [q8]
def rM59 (v : AV) (bs : List Box) (ts : List Nat) : Option (ByteArray × Nat) := match v, bs, ts with
  | .obs 0 o7, [], [q8] => some (o7, q8)
  | _, _, _ => none
def n59 : Nat → ByteArray × Int × Int × Int × ByteArray × List D × Nat → Option (ByteArray × Nat)
  | 0, _ => none
  | k + 1, (a0, a2, a3, a4, a5, a6, k1) => (ask (byteOk (wu8 a2)) (ask (addBOk k1 a0 (bcons (wu8 a2) ByteArray.empty) 1) (bif (a2 == 2) then ((n92 a3).bind fun y9 => (ask (addBOk (a0.size + (bcons (wu8 a2) ByteArray.empty).size) (a0 ++ (bcons (wu8 a2) ByteArray.empty)) y9 1) (some (((a0 ++ (bcons (wu8 a2) ByteArray.empty)) ++ y9), ((a0 ++ (bcons (wu8 a2) ByteArray.empty)).size + y9.size))))) else (bif (a2 == 1) then (ask (byteOk (wu8 a3)) (ask (addBOk (a0.size + (bcons (wu8 a2) ByteArray.empty).size) (a0 ++ (bcons (wu8 a2) ByteArray.empty)) (bcons (wu8 a3) ByteArray.empty) 1) (some (((a0 ++ (bcons (wu8 a2) ByteArray.empty)) ++ (bcons (wu8 a3) ByteArray.empty)), ((a0 ++ (bcons (wu8 a2) ByteArray.empty)).size + (bcons (wu8 a3) ByteArray.empty).size))))) else (bif (a2 == 4) then ((n27 a5).bind fun y10 => (ask (addBOk (a0.size + (bcons (wu8 a2) ByteArray.empty).size) (a0 ++ (bcons (wu8 a2) ByteArray.empty)) y10 1) (some (((a0 ++ (bcons (wu8 a2) ByteArray.empty)) ++ y10), ((a0 ++ (bcons (wu8 a2) ByteArray.empty)).size + y10.size))))) else (bif (a2 == 3) then ((n92 a3).bind fun y11 => (ask (addBOk (a0.size + (bcons (wu8 a2) ByteArray.empty).size) (a0 ++ (bcons (wu8 a2) ByteArray.empty)) y11 1) ((n92 a4).bind fun y12 => (ask (addBOk ((a0 ++ (bcons (wu8 a2) ByteArray.empty)).size + y11.size) ((a0 ++ (bcons (wu8 a2) ByteArray.empty)) ++ y11) y12 1) (some ((((a0 ++ (bcons (wu8 a2) ByteArray.empty)) ++ y11) ++ y12), (((a0 ++ (bcons (wu8 a2) ByteArray.empty)) ++ y11).size + y12.size))))))) else ((n26 (wu64 ((a6.length : Nat) : Int))).bind fun y13 => (ask (addBOk (a0.size + (bcons (wu8 a2) ByteArray.empty).size) (a0 ++ (bcons (wu8 a2) ByteArray.empty)) y13 1) (ask (([((a0 ++ (bcons (wu8 a2) ByteArray.empty)).size + y13.size), 0, (bcons (wu8 a2) ByteArray.empty).size] : List Nat) = [((a0 ++ (bcons (wu8 a2) ByteArray.empty)) ++ y13).size, 0, (bcons (wu8 a2) ByteArray.empty).size]) ((L59_1 (n59 k) 1000000000000 (((a0 ++ (bcons (wu8 a2) ByteArray.empty)) ++ y13), a6, ((a6.length : Nat) : Int), 0, a2, a3, a4, a5, a6, 0, (bcons (wu8 a2) ByteArray.empty).size) ()).bind fun p45 => match p45.1 with | .x0 z46 z47 z48 z49 z50 z51 z52 z53 => (some (z46, z46.size))))))))))))
def g59 (k : Nat) {σ : Type} : Nat → Option (SegE σ)
  | 1 => some (l59_1.seg σ (L59_1 (n59 k) 1000000000000))
  | _ => none
noncomputable def tabsR59 (gl : Nat → Option (List D)) (k : Nat) : Tabs := oddAt (tabsS1 gl) 59 (methE 59 dM59 (n59 k) (fun _ => vM59) (fun _ => cM59) (fun _ => kM59))
theorem E59_1 {σ : Type} (k : Nat) (Y : Yd σ) : ∀ n a (s : σ), L59_1 (n59 k) (n + 1) a s = evK (cfgOf Tryz.prog (tabsR59 gl k) tS12) (toldOf tS12) Y (inlN (cfgOf Tryz.prog (tabsR59 gl k) tS12) (toldOf tS12) Y) (g59 k) 59 (loopAt Tryz.f59 1) ((l59_1.toT σ).enc a s) (fun ex st' => l59_1.next (cfgOf Tryz.prog (tabsR59 gl k) tS12) 59 1 (L59_1 (n59 k) n) ex st') := by
  intro n ⟨v14, v15, v16, v17, v18, v19, v20, v21, v22, k23, k24⟩ s
  kernel_rfl
theorem Q59_1 {σ : Type} (hl : LibFits gl) (k : Nat) (Y : Yd σ) (rnd : Bool) : SegOk (cfgOf Tryz.prog (tabsR59 gl k) tS12) (evFn (cfgOf Tryz.prog (tabsR59 gl k) tS12) 9) 59 rnd Y (l59_1.seg σ (L59_1 (n59 k) 1000000000000)) (.block 1 (.loop (loopAt Tryz.f59 1))) :=
  told_loop (okS12 hl) k59_1 (by kernel_rfl) (by kernel_rfl) (fun _ _ => rfl) (segs_no (by kernel_rfl)) (E59_1 k Y) (hr := by kernel_rfl)
theorem N59 : ∀ k a, n59 (k + 1) a = bodyK (cfgOf Tryz.prog (tabsR59 gl k) tS12) (toldOf tS12) noY (inlN (cfgOf Tryz.prog (tabsR59 gl k) tS12) (toldOf tS12) noY) (g59 k) 59 Tryz.f59 (aM59 a) (bM59 a) (tM59 a) () (retK fun v b tk _ => rM59 v b tk) := by
  intro k a
  obtain ⟨a0, a2, a3, a4, a5, a6, k1⟩ := a
  kernel_rfl
theorem om59 (hl : LibFits gl) (k : Nat) : OddSound Tryz.prog gl (fun g => bif Nat.beq g 59 then some (methE 59 dM59 (n59 k) (fun _ => vM59) (fun _ => cM59) (fun _ => kM59)) else (tabsS1 gl).odd g) :=
  told_methRec (t := tabsS1 gl) (okS12 hl) mixed (oddOkS1 hl) methOk Tryz.func59 (by kernel_rfl) (by kernel_rfl) (nat := n59) (argsOf := aM59) (boxOf := bM59) (tokOf := tM59) (res := fun _ => rM59) (seg := fun k => (g59 k)) (by kernel_rfl) (fun k => (fun p hp e he => by
    have hq : segsOf (σ := Unit) (g59 k (σ := Unit)) (bodyOf Tryz.f59) = [(1, .loop (loopAt Tryz.f59 1))] := by kernel_rfl
    rw [hq] at hp
    simp only [List.mem_cons, List.not_mem_nil, or_false] at hp
    subst hp
    cases he
    exact Q59_1 hl k _ _))
    (fun av bs ts a h => by
      unfold dM59 at h
      split at h
      · cases h; exact ⟨rfl, rfl, rfl⟩
      · cases h)
    (fun _ v b tk o h => by
      unfold rM59 at h
      split at h
      · cases h; exact ⟨rfl, rfl, rfl⟩
      · cases h)
    (fun _ => rfl) N59 k
abbrev A60_1 := ByteArray × Int × Int × Int × Int × ByteArray × List D × Nat
inductive O60_1 where
  | x0 (o34 : ByteArray) (o35 : Int) (o36 : Int) (o37 : Int) (o38 : ByteArray) (o39 : List D) (q40 : Nat)
def l60_1 : LoopS A60_1 O60_1 where
  n := 75
  ks := [1, 3, 4]
  kso := [3]
  m := 1
  mt := 2
  decV := fun vs bs ts => match vs, bs, ts with
    | [.ptr 0 0, .obs 1 v14, .d (.val (.int .i64 v15))], [.cells none [.d (.val (.int .i64 v16)), .d (.val (.int .i64 v17)), .d (.val (.int .i64 v18)), .d (.val (.string v19)), .d (.slice v20)]], [k21, _] => some (v14, v15, v16, v17, v18, v19, v20, k21)
    | _, _, _ => none
  encV := fun (v14, v15, v16, v17, v18, v19, v20, k21) => [.ptr 0 0, .obs 1 v14, .d (.val (.int .i64 v15))]
  encB := fun (v14, v15, v16, v17, v18, v19, v20, k21) => [.cells none [.d (.val (.int .i64 v16)), .d (.val (.int .i64 v17)), .d (.val (.int .i64 v18)), .d (.val (.string v19)), .d (.slice v20)]]
  tk := fun (v14, v15, v16, v17, v18, v19, v20, k21) => [k21, v14.size]
  decO := fun ex vs bs ts => match ex, vs, bs, ts with
    | .normal, [.obs 1 o34], [.cells none [.d (.val (.int .i64 o35)), .d (.val (.int .i64 o36)), .d (.val (.int .i64 o37)), .d (.val (.string o38)), .d (.slice o39)]], [q40, _] => some (.x0 o34 o35 o36 o37 o38 o39 q40)
    | _, _, _, _ => none
  exO := fun x => match x with
    | .x0 o34 o35 o36 o37 o38 o39 q40 => .normal
  outV := fun x => match x with
    | .x0 o34 o35 o36 o37 o38 o39 q40 => [.obs 1 o34]
  outB := fun x => match x with
    | .x0 o34 o35 o36 o37 o38 o39 q40 => [.cells none [.d (.val (.int .i64 o35)), .d (.val (.int .i64 o36)), .d (.val (.int .i64 o37)), .d (.val (.string o38)), .d (.slice o39)]]
  tkO := fun x => match x with
    | .x0 o34 o35 o36 o37 o38 o39 q40 => [q40, o34.size]
  elim := fun x k => match x with
    | .x0 o34 o35 o36 o37 o38 o39 q40 => k .normal [.obs 1 o34] [.cells none [.d (.val (.int .i64 o35)), .d (.val (.int .i64 o36)), .d (.val (.int .i64 o37)), .d (.val (.string o38)), .d (.slice o39)]] [q40, o34.size]
theorem k60_1 : l60_1.Ok where
  ok1 := by kernel_rfl
  ok2 := by kernel_rfl
  dec := by
    intro vs bs ts a h
    simp only [l60_1] at h ⊢
    split at h
    · cases h; exact ⟨rfl, rfl⟩
    · cases h
  out := by
    intro ex vs bs ts o h
    simp only [l60_1] at h ⊢
    split at h
    · cases h; exact ⟨rfl, rfl, rfl⟩
    · cases h
  len := fun _ => ⟨rfl, rfl⟩
  elim := fun β o k => by cases o <;> rfl
def L60_1 {σ : Type} (F : Int × Int × Int × ByteArray × List D → Option (ByteArray)) : Nat → A60_1 → σ → Option (O60_1 × σ)
  | 0, _, _ => none
  | n+1, (v14, v15, v16, v17, v18, v19, v20, k21), s => (bif (decide (v15 < ((v20.length : Nat) : Int))) then ((lidx v20 v15).bind fun d22 => ask (d22.cells.length = 5) ((cellAt 0 d22).bind fun x23 => (asInt .i64 x23).bind fun x24 => ((cellAt 1 d22).bind fun x25 => (asInt .i64 x25).bind fun x26 => ((cellAt 2 d22).bind fun x27 => (asInt .i64 x27).bind fun x28 => ((cellAt 3 d22).bind fun x29 => (asStr x29).bind fun x30 => ((cellAt 4 d22).bind fun x31 => (asRow x31).bind fun x32 => ((F (x24, x26, x28, x30, x32)).bind fun y33 => (ask (addBOk v14.size v14 y33 1) (ask (([k21, (v14.size + y33.size)] : List Nat) = [k21, (v14 ++ y33).size]) (L60_1 F n ((v14 ++ y33), (w64 (v15 + 1)), v16, v17, v18, v19, v20, k21) s)))))))))) else (ask (([k21, v14.size] : List Nat) = [k21, v14.size]) (some (O60_1.x0 v14 v16 v17 v18 v19 v20 k21, s))))
def d60 (ds : List D) : Option (Int × Int × Int × ByteArray × List D) := match ds with
  | [.agg [.val (.int .i64 a0), .val (.int .i64 a1), .val (.int .i64 a2), .val (.string a3), .slice a4]] => some (a0, a1, a2, a3, a4)
  | _ => none
def r60 (v : AV) : Option (ByteArray) := match toPR v with
  | some (.one (.bytes a5)) => some a5
  | _ => none
def n60 : Nat → Int × Int × Int × ByteArray × List D → Option (ByteArray)
  | 0, _ => none
  | k + 1, (a0, a1, a2, a3, a4) => (ask (byteOk (wu8 a0)) (bif (a0 == 1) then (ask (byteOk (wu8 a1)) (ask (addBOk ((bcons (wu8 a0) ByteArray.empty).size) (bcons (wu8 a0) ByteArray.empty) (bcons (wu8 a1) ByteArray.empty) 1) (some ((bcons (wu8 a0) ByteArray.empty) ++ (bcons (wu8 a1) ByteArray.empty))))) else (bif (a0 == 2) then ((n94 a1).bind fun y6 => ((n93 64 y6).bind fun y7 => (ask (addBOk ((bcons (wu8 a0) ByteArray.empty).size) (bcons (wu8 a0) ByteArray.empty) y7 1) (some ((bcons (wu8 a0) ByteArray.empty) ++ y7))))) else (bif (a0 == 3) then ((n94 a1).bind fun y8 => ((n93 64 y8).bind fun y9 => (ask (addBOk ((bcons (wu8 a0) ByteArray.empty).size) (bcons (wu8 a0) ByteArray.empty) y9 1) ((n94 a2).bind fun y10 => ((n93 64 y10).bind fun y11 => (ask (addBOk ((bcons (wu8 a0) ByteArray.empty).size + y9.size) ((bcons (wu8 a0) ByteArray.empty) ++ y9) y11 1) (some (((bcons (wu8 a0) ByteArray.empty) ++ y9) ++ y11)))))))) else (bif (a0 == 4) then ((n93 64 (wu64 (a3.size : Int))).bind fun y12 => (ask (addBOk ((bcons (wu8 a0) ByteArray.empty).size) (bcons (wu8 a0) ByteArray.empty) y12 1) (ask (addBOk ((bcons (wu8 a0) ByteArray.empty).size + y12.size) ((bcons (wu8 a0) ByteArray.empty) ++ y12) a3 1) (some (((bcons (wu8 a0) ByteArray.empty) ++ y12) ++ a3))))) else ((n93 64 (wu64 ((a4.length : Nat) : Int))).bind fun y13 => (ask (addBOk ((bcons (wu8 a0) ByteArray.empty).size) (bcons (wu8 a0) ByteArray.empty) y13 1) (ask (([0, ((bcons (wu8 a0) ByteArray.empty).size + y13.size)] : List Nat) = [0, ((bcons (wu8 a0) ByteArray.empty) ++ y13).size]) ((L60_1 (n60 k) 1000000000000 (((bcons (wu8 a0) ByteArray.empty) ++ y13), 0, a0, a1, a2, a3, a4, 0) ()).bind fun p41 => match p41.1 with | .x0 z42 z43 z44 z45 z46 z47 z48 => (some z42))))))))))
def e60 : PureE := mkE d60 (n60 64) (fun a5 => .one (.bytes a5))
def g60 (k : Nat) {σ : Type} : Nat → Option (SegE σ)
  | 1 => some (l60_1.seg σ (L60_1 (n60 k) 1000000000000))
  | _ => none
theorem E60_1 {σ : Type} (k : Nat) (Y : Yd σ) : ∀ n a (s : σ), L60_1 (n60 k) (n + 1) a s = evK (cfgOf Tryz.prog (tabsS1 gl) (((60, mkE d60 (n60 k) (fun a5 => .one (.bytes a5))) :: tS12) : Tab)) (toldOf (((60, mkE d60 (n60 k) (fun a5 => .one (.bytes a5))) :: tS12) : Tab)) Y (inlN (cfgOf Tryz.prog (tabsS1 gl) (((60, mkE d60 (n60 k) (fun a5 => .one (.bytes a5))) :: tS12) : Tab)) (toldOf (((60, mkE d60 (n60 k) (fun a5 => .one (.bytes a5))) :: tS12) : Tab)) Y) (g60 k) 60 (loopAt Tryz.f60 1) ((l60_1.toT σ).enc a s) (fun ex st' => l60_1.next (cfgOf Tryz.prog (tabsS1 gl) (((60, mkE d60 (n60 k) (fun a5 => .one (.bytes a5))) :: tS12) : Tab)) 60 1 (L60_1 (n60 k) n) ex st') := by
  intro n ⟨v14, v15, v16, v17, v18, v19, v20, k21⟩ s
  kernel_rfl
theorem Q60_1 {σ : Type} (hl : LibFits gl) (k : Nat) (hk : TabOk Tryz.prog gl (((60, mkE d60 (n60 k) (fun a5 => .one (.bytes a5))) :: tS12) : Tab)) (Y : Yd σ) (rnd : Bool) : SegOk (cfgOf Tryz.prog (tabsS1 gl) (((60, mkE d60 (n60 k) (fun a5 => .one (.bytes a5))) :: tS12) : Tab)) (evFn (cfgOf Tryz.prog (tabsS1 gl) (((60, mkE d60 (n60 k) (fun a5 => .one (.bytes a5))) :: tS12) : Tab)) 9) 60 rnd Y (l60_1.seg σ (L60_1 (n60 k) 1000000000000)) (.block 1 (.loop (loopAt Tryz.f60 1))) :=
  told_loop hk k60_1 (by kernel_rfl) (by kernel_rfl) (fun _ _ => rfl) (segs_no (by kernel_rfl)) (E60_1 k Y) (hr := by kernel_rfl)
theorem N60 : ∀ k a, n60 (k + 1) a = bodyK (cfgOf Tryz.prog (tabsS1 gl) (((60, mkE d60 (n60 k) (fun a5 => .one (.bytes a5))) :: tS12) : Tab)) (toldOf (((60, mkE d60 (n60 k) (fun a5 => .one (.bytes a5))) :: tS12) : Tab)) noY (inlN (cfgOf Tryz.prog (tabsS1 gl) (((60, mkE d60 (n60 k) (fun a5 => .one (.bytes a5))) :: tS12) : Tab)) (toldOf (((60, mkE d60 (n60 k) (fun a5 => .one (.bytes a5))) :: tS12) : Tab)) noY) (g60 k) 60 Tryz.f60 (((fun (a0, a1, a2, a3, a4) => [.agg [.val (.int .i64 a0), .val (.int .i64 a1), .val (.int .i64 a2), .val (.string a3), .slice a4]] : (Int × Int × Int × ByteArray × List D) → List D) a).map .d) [] [] () (retK fun v _ _ _ => r60 v) := by
  intro k a
  obtain ⟨a0, a1, a2, a3, a4⟩ := a
  kernel_rfl
noncomputable def t60 : Tab := (60, e60) :: tS12
theorem ok60 (hl : LibFits gl) : TabOk Tryz.prog gl t60 :=
  told_rec (t := tabsS1 gl) (okS12 hl) mixed (oddOkS1 hl) methOk Tryz.func60 (by kernel_rfl) (nat := n60) (seg := fun k => g60 k) (by kernel_rfl) (fun k hk => (fun p hp e he => by
    have hq : segsOf (σ := Unit) (g60 k (σ := Unit)) (bodyOf Tryz.f60) = [(1, .loop (loopAt Tryz.f60 1))] := by kernel_rfl
    rw [hq] at hp
    simp only [List.mem_cons, List.not_mem_nil, or_false] at hp
    subst hp
    cases he
    exact Q60_1 hl k hk _ _))
    (args := fun (a0, a1, a2, a3, a4) => [.agg [.val (.int .i64 a0), .val (.int .i64 a1), .val (.int .i64 a2), .val (.string a3), .slice a4]]) (res := r60)
    (fun ds a h => by
      unfold d60 at h
      split at h
      · cases h; rfl
      · cases h)
    (fun v r h => by
      unfold r60 at h
      split at h
      · rename_i hv; cases h; exact hv
      · cases h)
    (fun _ => rfl) N60 64
noncomputable def tabsS13 (gl : Nat → Option (List D)) : Tabs := { tabsS1 gl with odd := fun g => bif Nat.beq g 59 then some (methE 59 dM59 (n59 64) (fun _ => vM59) (fun _ => cM59) (fun _ => kM59)) else ((tabsS1 gl).odd g) }
theorem oddOkS13 (hl : LibFits gl) : OddSound Tryz.prog gl (tabsS13 gl).odd := OddSound.join (om59 hl 64) ((oddOkS1 hl))
noncomputable def tS13 : Tab := (60, e60) :: tS12
theorem okS13 (hl : LibFits gl) : TabOk Tryz.prog gl tS13 :=
  TabOk.cons (okS12 hl) ((ok60 hl).fair (60, e60) (List.mem_cons_self (l := tS12))) ((ok60 hl).spec (60, e60) (List.mem_cons_self (l := tS12)))
abbrev AZ59_1 := ByteArray × List D × Int × Int × Int × Int × Int × ByteArray × List D × Nat × Nat
inductive OZ59_1 where
  | x0 (o34 : ByteArray) (o35 : Int) (o36 : Int) (o37 : Int) (o38 : ByteArray) (o39 : List D) (q40 : Nat) (q41 : Nat)
def lZ59_1 : LoopS AZ59_1 OZ59_1 where
  n := 67
  ks := [0, 56, 57, 58]
  kso := [0]
  m := 1
  mt := 3
  decV := fun vs bs ts => match vs, bs, ts with
    | [.obs 2 v11, .d (.slice v12), .d (.val (.int .i64 v13)), .d (.val (.int .i64 v14))], [.cells none [.d (.val (.int .i64 v15)), .d (.val (.int .i64 v16)), .d (.val (.int .i64 v17)), .d (.val (.string v18)), .d (.slice v19)]], [k20, k21, _] => some (v11, v12, v13, v14, v15, v16, v17, v18, v19, k20, k21)
    | _, _, _ => none
  encV := fun (v11, v12, v13, v14, v15, v16, v17, v18, v19, k20, k21) => [.obs 2 v11, .d (.slice v12), .d (.val (.int .i64 v13)), .d (.val (.int .i64 v14))]
  encB := fun (v11, v12, v13, v14, v15, v16, v17, v18, v19, k20, k21) => [.cells none [.d (.val (.int .i64 v15)), .d (.val (.int .i64 v16)), .d (.val (.int .i64 v17)), .d (.val (.string v18)), .d (.slice v19)]]
  tk := fun (v11, v12, v13, v14, v15, v16, v17, v18, v19, k20, k21) => [k20, k21, v11.size]
  decO := fun ex vs bs ts => match ex, vs, bs, ts with
    | .normal, [.obs 2 o34], [.cells none [.d (.val (.int .i64 o35)), .d (.val (.int .i64 o36)), .d (.val (.int .i64 o37)), .d (.val (.string o38)), .d (.slice o39)]], [q40, q41, _] => some (.x0 o34 o35 o36 o37 o38 o39 q40 q41)
    | _, _, _, _ => none
  exO := fun x => match x with
    | .x0 o34 o35 o36 o37 o38 o39 q40 q41 => .normal
  outV := fun x => match x with
    | .x0 o34 o35 o36 o37 o38 o39 q40 q41 => [.obs 2 o34]
  outB := fun x => match x with
    | .x0 o34 o35 o36 o37 o38 o39 q40 q41 => [.cells none [.d (.val (.int .i64 o35)), .d (.val (.int .i64 o36)), .d (.val (.int .i64 o37)), .d (.val (.string o38)), .d (.slice o39)]]
  tkO := fun x => match x with
    | .x0 o34 o35 o36 o37 o38 o39 q40 q41 => [q40, q41, o34.size]
  elim := fun x k => match x with
    | .x0 o34 o35 o36 o37 o38 o39 q40 q41 => k .normal [.obs 2 o34] [.cells none [.d (.val (.int .i64 o35)), .d (.val (.int .i64 o36)), .d (.val (.int .i64 o37)), .d (.val (.string o38)), .d (.slice o39)]] [q40, q41, o34.size]
theorem kZ59_1 : lZ59_1.Ok where
  ok1 := by kernel_rfl
  ok2 := by kernel_rfl
  dec := by
    intro vs bs ts a h
    simp only [lZ59_1] at h ⊢
    split at h
    · cases h; exact ⟨rfl, rfl⟩
    · cases h
  out := by
    intro ex vs bs ts o h
    simp only [lZ59_1] at h ⊢
    split at h
    · cases h; exact ⟨rfl, rfl, rfl⟩
    · cases h
  len := fun _ => ⟨rfl, rfl⟩
  elim := fun β o k => by cases o <;> rfl
def LZ59_1 {σ : Type} : Nat → AZ59_1 → σ → Option (OZ59_1 × σ)
  | 0, _, _ => none
  | n+1, (v11, v12, v13, v14, v15, v16, v17, v18, v19, k20, k21), s => (bif (decide (v14 < v13)) then ((lidx v12 v14).bind fun d22 => ask (d22.cells.length = 5) ((cellAt 0 d22).bind fun x23 => (asInt .i64 x23).bind fun x24 => ((cellAt 1 d22).bind fun x25 => (asInt .i64 x25).bind fun x26 => ((cellAt 2 d22).bind fun x27 => (asInt .i64 x27).bind fun x28 => ((cellAt 3 d22).bind fun x29 => (asStr x29).bind fun x30 => ((cellAt 4 d22).bind fun x31 => (asRow x31).bind fun x32 => ((n59 64 (v11, x24, x26, x28, x30, x32, v11.size)).bind fun y33 => (ask (([k20, k21, y33.2] : List Nat) = [k20, k21, y33.1.size]) (LZ59_1 n (y33.1, v12, v13, (w64 (v14 + 1)), v15, v16, v17, v18, v19, k20, k21) s))))))))) else (ask (([k20, k21, v11.size] : List Nat) = [k20, k21, v11.size]) (some (OZ59_1.x0 v11 v15 v16 v17 v18 v19 k20 k21, s))))
def dZ59 (ds : List AV) : Option (Int × Int × Int × ByteArray × List D) := match ds with
  | [.nsl, .d (.agg [.val (.int .i64 a0), .val (.int .i64 a1), .val (.int .i64 a2), .val (.string a3), .slice a4])] => some (a0, a1, a2, a3, a4)
  | _ => none
def rZ59 (v : AV) (tk : List Nat) : Option (ByteArray) := match v with
  | .obs j r5 => (tk[j]?).bind fun n => ask (n = r5.size) (some r5)
  | _ => none
def wZ59 : (ByteArray) → ByteArray := fun r5 => r5
def xZ59 : (ByteArray) → List D := fun r5 => []
def nZ59 : Int × Int × Int × ByteArray × List D → Option (ByteArray) := fun (a0, a1, a2, a3, a4) => (ask (byteOk (wu8 a0)) (ask (newBOk (bcons (wu8 a0) ByteArray.empty) 1) (bif (a0 == 2) then ((n92 a1).bind fun y6 => (ask (addBOk ((bcons (wu8 a0) ByteArray.empty).size) (bcons (wu8 a0) ByteArray.empty) y6 1) (ask (((bcons (wu8 a0) ByteArray.empty).size + y6.size) = ((bcons (wu8 a0) ByteArray.empty) ++ y6).size) (some ((bcons (wu8 a0) ByteArray.empty) ++ y6))))) else (bif (a0 == 1) then (ask (byteOk (wu8 a1)) (ask (addBOk ((bcons (wu8 a0) ByteArray.empty).size) (bcons (wu8 a0) ByteArray.empty) (bcons (wu8 a1) ByteArray.empty) 1) (ask (((bcons (wu8 a0) ByteArray.empty).size + (bcons (wu8 a1) ByteArray.empty).size) = ((bcons (wu8 a0) ByteArray.empty) ++ (bcons (wu8 a1) ByteArray.empty)).size) (some ((bcons (wu8 a0) ByteArray.empty) ++ (bcons (wu8 a1) ByteArray.empty)))))) else (bif (a0 == 4) then ((n27 a3).bind fun y7 => (ask (addBOk ((bcons (wu8 a0) ByteArray.empty).size) (bcons (wu8 a0) ByteArray.empty) y7 1) (ask (((bcons (wu8 a0) ByteArray.empty).size + y7.size) = ((bcons (wu8 a0) ByteArray.empty) ++ y7).size) (some ((bcons (wu8 a0) ByteArray.empty) ++ y7))))) else (bif (a0 == 3) then ((n92 a1).bind fun y8 => (ask (addBOk ((bcons (wu8 a0) ByteArray.empty).size) (bcons (wu8 a0) ByteArray.empty) y8 1) ((n92 a2).bind fun y9 => (ask (addBOk ((bcons (wu8 a0) ByteArray.empty).size + y8.size) ((bcons (wu8 a0) ByteArray.empty) ++ y8) y9 1) (ask ((((bcons (wu8 a0) ByteArray.empty) ++ y8).size + y9.size) = (((bcons (wu8 a0) ByteArray.empty) ++ y8) ++ y9).size) (some (((bcons (wu8 a0) ByteArray.empty) ++ y8) ++ y9))))))) else ((n26 (wu64 ((a4.length : Nat) : Int))).bind fun y10 => (ask (addBOk ((bcons (wu8 a0) ByteArray.empty).size) (bcons (wu8 a0) ByteArray.empty) y10 1) (ask (([0, (bcons (wu8 a0) ByteArray.empty).size, ((bcons (wu8 a0) ByteArray.empty).size + y10.size)] : List Nat) = [0, (bcons (wu8 a0) ByteArray.empty).size, ((bcons (wu8 a0) ByteArray.empty) ++ y10).size]) ((LZ59_1 1000000000000 (((bcons (wu8 a0) ByteArray.empty) ++ y10), a4, ((a4.length : Nat) : Int), 0, a0, a1, a2, a3, a4, 0, (bcons (wu8 a0) ByteArray.empty).size) ()).bind fun p42 => match p42.1 with | .x0 z43 z44 z45 z46 z47 z48 z49 z50 => (ask (z43.size = z43.size) (some z43))))))))))))
def gZ59 {σ : Type} : Nat → Option (SegE σ)
  | 1 => some (lZ59_1.seg σ (LZ59_1 1000000000000))
  | _ => none
theorem EZ59_1 {σ : Type} (Y : Yd σ) : ∀ n a (s : σ), LZ59_1 (n + 1) a s = evK (cfgOf Tryz.prog (tabsS13 gl) tS13) (toldOf tS13) Y (inlN (cfgOf Tryz.prog (tabsS13 gl) tS13) (toldOf tS13) Y) gZ59 59 (loopAt Tryz.f59 1) ((lZ59_1.toT σ).enc a s) (fun ex st' => lZ59_1.next (cfgOf Tryz.prog (tabsS13 gl) tS13) 59 1 (LZ59_1 n) ex st') := by
  intro n ⟨v11, v12, v13, v14, v15, v16, v17, v18, v19, k20, k21⟩ s
  kernel_rfl
theorem QZ59_1 {σ : Type} (hl : LibFits gl) (Y : Yd σ) (rnd : Bool) : SegOk (cfgOf Tryz.prog (tabsS13 gl) tS13) (evFn (cfgOf Tryz.prog (tabsS13 gl) tS13) 9) 59 rnd Y (lZ59_1.seg σ (LZ59_1 1000000000000)) (.block 1 (.loop (loopAt Tryz.f59 1))) :=
  told_loop (okS13 hl) kZ59_1 (by kernel_rfl) (by kernel_rfl) (fun _ _ => rfl) (segs_no (by kernel_rfl)) (EZ59_1 Y) (hr := by kernel_rfl)
theorem NZ59 : ∀ a, nZ59 a = bodyK (cfgOf Tryz.prog (tabsS13 gl) tS13) (toldOf tS13) noY (inlN (cfgOf Tryz.prog (tabsS13 gl) tS13) (toldOf tS13) noY) gZ59 59 Tryz.f59 (((fun (a0, a1, a2, a3, a4) => [.nsl, .d (.agg [.val (.int .i64 a0), .val (.int .i64 a1), .val (.int .i64 a2), .val (.string a3), .slice a4])]) : (Int × Int × Int × ByteArray × List D) → List AV) a) [] [] () (retK fun v _ tk _ => rZ59 v tk) := by
  intro a
  obtain ⟨a0, a1, a2, a3, a4⟩ := a
  kernel_rfl
theorem omZ59 (hl : LibFits gl) : OddSound Tryz.prog gl (fun g => bif Nat.beq g 59 then some (nilB dZ59 nZ59 wZ59 xZ59) else (tabsS13 gl).odd g) :=
  told_nilB (t := tabsS13 gl) (okS13 hl) mixed (oddOkS13 hl) methOk Tryz.func59 (by kernel_rfl) (row := wZ59) (rest := xZ59) (args := (fun (a0, a1, a2, a3, a4) => [.nsl, .d (.agg [.val (.int .i64 a0), .val (.int .i64 a1), .val (.int .i64 a2), .val (.string a3), .slice a4])])) (res := rZ59) (by kernel_rfl) (fun p hp e he => by
    have hq : segsOf (σ := Unit) (gZ59 (σ := Unit)) (bodyOf Tryz.f59) = [(1, .loop (loopAt Tryz.f59 1))] := by kernel_rfl
    rw [hq] at hp
    simp only [List.mem_cons, List.not_mem_nil, or_false] at hp
    subst hp
    cases he
    exact QZ59_1 hl _ _)
    (fun ds a h => by
      unfold dZ59 at h
      split at h
      · cases h; rfl
      · cases h)
    (fun a => by obtain ⟨a0, a1, a2, a3, a4⟩ := a; rfl)
    (fun v tk o h => by
      unfold rZ59 at h
      split at h
      · obtain ⟨n, h1, h2⟩ := bind_some h
        obtain ⟨h3, h4⟩ := ask_some h2
        cases h4
        exact ⟨⟨_, rfl, h1.trans (congrArg some h3)⟩, rfl⟩
      · cases h)
    NZ59
def d31 (ds : List D) : Option (Int × Int × Int × ByteArray × List D) := match ds with
  | [.agg [.val (.int .i64 a0), .val (.int .i64 a1), .val (.int .i64 a2), .val (.string a3), .slice a4]] => some (a0, a1, a2, a3, a4)
  | _ => none
def r31 (v : AV) : Option (ByteArray × Int) := match toPR v with
  | some (.many [.bytes a5, .val (.int .i64 a6)]) => some (a5, a6)
  | _ => none
def n31 : Int × Int × Int × ByteArray × List D → Option (ByteArray × Int) := fun (a0, a1, a2, a3, a4) => ((n22 (a0, a1, a2, a3, a4)).bind fun y7 => (bif (!y7) then (some (ByteArray.empty, 40)) else ((n60 64 (a0, a1, a2, a3, a4)).bind fun y8 => (some (y8, 0)))))
def e31 : PureE := mkE d31 n31 (fun (a5, a6) => .many [.bytes a5, .val (.int .i64 a6)])
def g31 {σ : Type} : Nat → Option (SegE σ)
  | _ => none
theorem N31 : ∀ a, n31 a = bodyK (cfgOf Tryz.prog (tabsS13 gl) tS13) (toldOf tS13) noY (inlN (cfgOf Tryz.prog (tabsS13 gl) tS13) (toldOf tS13) noY) g31 31 Tryz.f31 (((fun (a0, a1, a2, a3, a4) => [.agg [.val (.int .i64 a0), .val (.int .i64 a1), .val (.int .i64 a2), .val (.string a3), .slice a4]] : (Int × Int × Int × ByteArray × List D) → List D) a).map .d) [] [] () (retK fun v _ _ _ => r31 v) := by
  intro a
  obtain ⟨a0, a1, a2, a3, a4⟩ := a
  kernel_rfl
noncomputable def t31 : Tab := (31, e31) :: tS13
theorem ok31 (hl : LibFits gl) : TabOk Tryz.prog gl t31 :=
  told_fn (okS13 hl) mixed (oddOkS13 hl) methOk Tryz.func31 (by kernel_rfl) (by kernel_rfl) (by kernel_rfl) (segs_no (by kernel_rfl))
    (args := fun (a0, a1, a2, a3, a4) => [.agg [.val (.int .i64 a0), .val (.int .i64 a1), .val (.int .i64 a2), .val (.string a3), .slice a4]]) (res := r31)
    (fun ds a h => by
      unfold d31 at h
      split at h
      · cases h; rfl
      · cases h)
    (fun v r h => by
      unfold r31 at h
      split at h
      · rename_i hv; cases h; exact hv
      · cases h)
    N31
noncomputable def tabsS14 (gl : Nat → Option (List D)) : Tabs := { tabsS13 gl with odd := fun g => bif Nat.beq g 59 then some (nilE 0 (nilB dZ59 nZ59 wZ59 xZ59) (methE 59 dM59 (n59 64) (fun _ => vM59) (fun _ => cM59) (fun _ => kM59))) else ((tabsS13 gl).odd g) }
theorem oddOkS14 (hl : LibFits gl) : OddSound Tryz.prog gl (tabsS14 gl).odd := OddSound.join (OddSound.nil (o := (tabsS13 gl).odd) (omZ59 hl) (by kernel_rfl) (oddOkS13 hl)) ((oddOkS13 hl))
noncomputable def tS14 : Tab := (31, e31) :: tS13
theorem okS14 (hl : LibFits gl) : TabOk Tryz.prog gl tS14 :=
  TabOk.cons (okS13 hl) ((ok31 hl).fair (31, e31) (List.mem_cons_self (l := tS13))) ((ok31 hl).spec (31, e31) (List.mem_cons_self (l := tS13)))
def d28 (ds : List D) : Option (Int × Int × Int × ByteArray × List D) := match ds with
  | [.agg [.val (.int .i64 a0), .val (.int .i64 a1), .val (.int .i64 a2), .val (.string a3), .slice a4]] => some (a0, a1, a2, a3, a4)
  | _ => none
def r28 (v : AV) : Option (ByteArray × Int) := match toPR v with
  | some (.many [.bytes a5, .val (.int .i64 a6)]) => some (a5, a6)
  | _ => none
def n28 : Int × Int × Int × ByteArray × List D → Option (ByteArray × Int) := fun (a0, a1, a2, a3, a4) => ((n34 (a0, a1, a2, a3, a4)).bind fun y7 => (bif (y7 != 0) then (some (ByteArray.empty, 40)) else ((nZ59 (a0, a1, a2, a3, a4)).bind fun y8 => (some (y8, 0)))))
def e28 : PureE := mkE d28 n28 (fun (a5, a6) => .many [.bytes a5, .val (.int .i64 a6)])
def g28 {σ : Type} : Nat → Option (SegE σ)
  | _ => none
theorem N28 : ∀ a, n28 a = bodyK (cfgOf Tryz.prog (tabsS14 gl) tS14) (toldOf tS14) noY (inlN (cfgOf Tryz.prog (tabsS14 gl) tS14) (toldOf tS14) noY) g28 28 Tryz.f28 (((fun (a0, a1, a2, a3, a4) => [.agg [.val (.int .i64 a0), .val (.int .i64 a1), .val (.int .i64 a2), .val (.string a3), .slice a4]] : (Int × Int × Int × ByteArray × List D) → List D) a).map .d) [] [] () (retK fun v _ _ _ => r28 v) := by
  intro a
  obtain ⟨a0, a1, a2, a3, a4⟩ := a
  kernel_rfl
noncomputable def t28 : Tab := (28, e28) :: tS14
theorem ok28 (hl : LibFits gl) : TabOk Tryz.prog gl t28 :=
  told_fn (okS14 hl) mixed (oddOkS14 hl) methOk Tryz.func28 (by kernel_rfl) (by kernel_rfl) (by kernel_rfl) (segs_no (by kernel_rfl))
    (args := fun (a0, a1, a2, a3, a4) => [.agg [.val (.int .i64 a0), .val (.int .i64 a1), .val (.int .i64 a2), .val (.string a3), .slice a4]]) (res := r28)
    (fun ds a h => by
      unfold d28 at h
      split at h
      · cases h; rfl
      · cases h)
    (fun v r h => by
      unfold r28 at h
      split at h
      · rename_i hv; cases h; exact hv
      · cases h)
    N28
def dM30 (av : List AV) (bs : List Box) (ts : List Nat) : Option (ByteArray × ByteArray × Nat) := match av, bs, ts with
  | [.obs 0 a0, .d (.val (.string a2))], [], [k1] => some (a0, a2, k1)
  | _, _, _ => none
def aM30 : (ByteArray × ByteArray × Nat) → List AV := fun (a0, a2, k1) => [.obs 0 a0, .d (.val (.string a2))]
def bM30 : (ByteArray × ByteArray × Nat) → List Box := fun (a0, a2, k1) => []
def tM30 : (ByteArray × ByteArray × Nat) → List Nat := fun (a0, a2, k1) => [k1]
def vM30 : (ByteArray × Nat) → AV := fun (o4, q5) => .obs 0 o4
def cM30 : (ByteArray × Nat) → List Box := fun (o4, q5) => []
def kM30 : (ByteArray × Nat) → List Nat := fun (o4, q5) => [q5]
def rM30 (v : AV) (bs : List Box) (ts : List Nat) : Option (ByteArray × Nat) := match v, bs, ts with
  | .obs 0 o4, [], [q5] => some (o4, q5)
  | _, _, _ => none
def n30 : ByteArray × ByteArray × Nat → Option (ByteArray × Nat) := fun (a0, a2, k1) => ((n29 64 (a2.size : Int)).bind fun y3 => (ask (addBOk k1 a0 y3 1) (ask (addBOk (a0.size + y3.size) (a0 ++ y3) a2 1) (some (((a0 ++ y3) ++ a2), ((a0 ++ y3).size + a2.size))))))
def g30 {σ : Type} : Nat → Option (SegE σ)
  | _ => none
theorem N30 : ∀ a, n30 a = bodyK (cfgOf Tryz.prog (tabsS14 gl) tS14) (toldOf tS14) noY (inlN (cfgOf Tryz.prog (tabsS14 gl) tS14) (toldOf tS14) noY) g30 30 Tryz.f30 (aM30 a) (bM30 a) (tM30 a) () (retK fun v b tk _ => rM30 v b tk) := by
  intro a
  obtain ⟨a0, a2, k1⟩ := a
  kernel_rfl
theorem om30 (hl : LibFits gl) : OddSound Tryz.prog gl (fun g => bif Nat.beq g 30 then some (methE 30 dM30 n30 (fun _ => vM30) (fun _ => cM30) (fun _ => kM30)) else (tabsS14 gl).odd g) :=
  told_meth (t := tabsS14 gl) (okS14 hl) mixed (oddOkS14 hl) methOk Tryz.func30 (by kernel_rfl) (by kernel_rfl) (argsOf := aM30) (boxOf := bM30) (tokOf := tM30) (res := fun _ => rM30) (by kernel_rfl) (segs_no (by kernel_rfl))
    (fun av bs ts a h => by
      unfold dM30 at h
      split at h
      · cases h; exact ⟨rfl, rfl, rfl⟩
      · cases h)
    (fun _ v b tk o h => by
      unfold rM30 at h
      split at h
      · cases h; exact ⟨rfl, rfl, rfl⟩
      · cases h)
    N30
theorem omD30 : ∀ av bs ts a, dM30 av bs ts = some a → bs = bM30 a := fun av bs ts a h => ((fun av bs ts a h => by
      unfold dM30 at h
      split at h
      · cases h; exact ⟨rfl, rfl, rfl⟩
      · cases h) av bs ts a h : av = aM30 a ∧ bs = bM30 a ∧ ts = tM30 a).2.1
def dO29 (ds : List D) : Option (Int) := match ds with
  | [.val (.int .i64 a0)] => some a0
  | _ => none
def rO29 (v : AV) (tk : List Nat) : Option (ByteArray) := match v with
  | .obs j r1 => (tk[j]?).bind fun n => ask (n = r1.size) (some r1)
  | _ => none
def wO29 : (ByteArray) → ByteArray := fun r1 => r1
def xO29 : (ByteArray) → List D := fun r1 => []
def nO29 : Int → Option (ByteArray) := fun a0 => (bif (decide (a0 < 128)) then (ask (byteOk (wu8 a0)) (ask ((bcons (wu8 a0) ByteArray.empty).size = (bcons (wu8 a0) ByteArray.empty).size) (some (bcons (wu8 a0) ByteArray.empty)))) else (ask (byteOk (bOr .u8 (wu8 a0) 128)) ((n29 64 ((a0 : Int).fdiv (2 ^ (min (Int.toNat 7) 64)))).bind fun y2 => (ask (addBOk ((bcons (bOr .u8 (wu8 a0) 128) ByteArray.empty).size) (bcons (bOr .u8 (wu8 a0) 128) ByteArray.empty) y2 1) (ask (((bcons (bOr .u8 (wu8 a0) 128) ByteArray.empty).size + y2.size) = ((bcons (bOr .u8 (wu8 a0) 128) ByteArray.empty) ++ y2).size) (some ((bcons (bOr .u8 (wu8 a0) 128) ByteArray.empty) ++ y2)))))))
def gO29 {σ : Type} : Nat → Option (SegE σ)
  | _ => none
theorem NO29 : ∀ a, nO29 a = bodyK (cfgOf Tryz.prog (tabsS14 gl) tS14) (toldOf tS14) noY (inlN (cfgOf Tryz.prog (tabsS14 gl) tS14) (toldOf tS14) noY) gO29 29 Tryz.f29 ((((fun a0 => [.val (.int .i64 a0)]) : (Int) → List D) a).map .d) [] [] () (retK fun v _ tk _ => rO29 v tk) := by
  intro a0
  kernel_rfl
theorem omO29 (hl : LibFits gl) : OddSound Tryz.prog gl (fun g => bif Nat.beq g 29 then some (ownB dO29 nO29 wO29 xO29) else (tabsS14 gl).odd g) :=
  told_ownB (t := tabsS14 gl) (okS14 hl) mixed (oddOkS14 hl) methOk Tryz.func29 (by kernel_rfl) (row := wO29) (rest := xO29) (args := (fun a0 => [.val (.int .i64 a0)])) (res := rO29) (by kernel_rfl) (segs_no (by kernel_rfl))
    (fun ds a h => by
      unfold dO29 at h
      split at h
      · cases h; rfl
      · cases h)
    (fun v tk o h => by
      unfold rO29 at h
      split at h
      · obtain ⟨n, h1, h2⟩ := bind_some h
        obtain ⟨h3, h4⟩ := ask_some h2
        cases h4
        exact ⟨⟨_, rfl, h1.trans (congrArg some h3)⟩, rfl⟩
      · cases h)
    NO29
noncomputable def tabsS15 (gl : Nat → Option (List D)) : Tabs := { tabsS14 gl with odd := fun g => bif Nat.beq g 29 then some (ownB dO29 nO29 wO29 xO29) else (bif Nat.beq g 26 then some (ownB dO26 nO26 wO26 xO26) else (bif Nat.beq g 30 then some (methT 30 dM30 n30 vM30 cM30 kM30) else ((tabsS14 gl).odd g))) }
theorem oddOkS15 (hl : LibFits gl) : OddSound Tryz.prog gl (tabsS15 gl).odd := OddSound.join (omO29 hl) (OddSound.join (omO26 hl) (OddSound.join (OddSound.methT (o := (tabsS14 gl).odd) (boxOf := bM30) omD30 (fun _ _ _ => rfl) (om30 hl) (oddOkS14 hl)) ((oddOkS14 hl))))
noncomputable def tS15 : Tab := (28, e28) :: tS14
theorem okS15 (hl : LibFits gl) : TabOk Tryz.prog gl tS15 :=
  TabOk.cons (okS14 hl) ((ok28 hl).fair (28, e28) (List.mem_cons_self (l := tS14))) ((ok28 hl).spec (28, e28) (List.mem_cons_self (l := tS14)))
abbrev A13_0 := List D × ByteArray × Int × Nat
inductive O13_0 where
  | x0 (o34 : ByteArray) (o35 : Int) (q36 : Nat) (q37 : Nat)
  | x1 (o43 : ByteArray) (q44 : Nat)
def l13_0 : LoopS A13_0 O13_0 where
  n := 54
  ks := [0, 4, 5]
  kso := [2, 3, 4]
  m := 0
  mt := 2
  decV := fun vs bs ts => match vs, bs, ts with
    | [.d (.slice v4), .obs 1 v5, .d (.val (.int .i64 v6))], [], [k7, _] => some (v4, v5, v6, k7)
    | _, _, _ => none
  encV := fun (v4, v5, v6, k7) => [.d (.slice v4), .obs 1 v5, .d (.val (.int .i64 v6))]
  encB := fun (v4, v5, v6, k7) => []
  tk := fun (v4, v5, v6, k7) => [k7, v5.size]
  decO := fun ex vs bs ts => match ex, vs, bs, ts with
    | .ret, [.d (.bytes o34), .d (.val (.int .i64 o35)), .undef], [], [q36, q37] => some (.x0 o34 o35 q36 q37)
    | .normal, [.undef, .undef, .obs 1 o43], [], [q44, _] => some (.x1 o43 q44)
    | _, _, _, _ => none
  exO := fun x => match x with
    | .x0 o34 o35 q36 q37 => .ret
    | .x1 o43 q44 => .normal
  outV := fun x => match x with
    | .x0 o34 o35 q36 q37 => [.d (.bytes o34), .d (.val (.int .i64 o35)), .undef]
    | .x1 o43 q44 => [.undef, .undef, .obs 1 o43]
  outB := fun x => match x with
    | .x0 o34 o35 q36 q37 => []
    | .x1 o43 q44 => []
  tkO := fun x => match x with
    | .x0 o34 o35 q36 q37 => [q36, q37]
    | .x1 o43 q44 => [q44, o43.size]
  elim := fun x k => match x with
    | .x0 o34 o35 q36 q37 => k .ret [.d (.bytes o34), .d (.val (.int .i64 o35)), .undef] [] [q36, q37]
    | .x1 o43 q44 => k .normal [.undef, .undef, .obs 1 o43] [] [q44, o43.size]
theorem k13_0 : l13_0.Ok where
  ok1 := by kernel_rfl
  ok2 := by kernel_rfl
  dec := by
    intro vs bs ts a h
    simp only [l13_0] at h ⊢
    split at h
    · cases h; exact ⟨rfl, rfl⟩
    · cases h
  out := by
    intro ex vs bs ts o h
    simp only [l13_0] at h ⊢
    split at h
    · cases h; exact ⟨rfl, rfl, rfl⟩
    · cases h; exact ⟨rfl, rfl, rfl⟩
    · cases h
  len := fun _ => ⟨rfl, rfl⟩
  elim := fun β o k => by cases o <;> rfl
def L13_0 {σ : Type} : Nat → A13_0 → σ → Option (O13_0 × σ)
  | 0, _, _ => none
  | n+1, (v4, v5, v6, k7), s => (bif (decide (v6 < ((v4.length : Nat) : Int))) then ((lidx v4 v6).bind fun d8 => ask (d8.cells.length = 12) ((cellAt 0 d8).bind fun x9 => (asInt .i64 x9).bind fun x10 => ((cellAt 1 d8).bind fun x11 => (asStr x11).bind fun x12 => ((cellAt 2 d8).bind fun x13 => (asStr x13).bind fun x14 => ((cellAt 3 d8).bind fun x15 => (asStr x15).bind fun x16 => ((cellAt 4 d8).bind fun x17 => (asInt .i64 x17).bind fun x18 => ((cellAt 5 d8).bind fun x19 => (asInt .i64 x19).bind fun x20 => ((cellAt 6 d8).bind fun x21 => (asInt .i64 x21).bind fun x22 => ((cellAt 7 d8).bind fun x23 => (asStr x23).bind fun x24 => ((cellAt 8 d8).bind fun x25 => (asRow x25).bind fun x26 => ((cellAt 9 d8).bind fun x27 => (asInt .i64 x27).bind fun x28 => ((cellAt 10 d8).bind fun x29 => (asInt .i64 x29).bind fun x30 => ((cellAt 11 d8).bind fun x31 => (asInt .i64 x31).bind fun x32 => ((n20 (x10, x12, x14, x16, x18, x20, x22, x24, x26, x28, x30, x32)).bind fun y33 => (bif (!y33) then (ask (([k7, v5.size] : List Nat) = [k7, v5.size]) (some (O13_0.x0 ByteArray.empty 60 k7 v5.size, s))) else (ask (byteOk (wu8 x10)) (ask (addBOk v5.size v5 (bcons (wu8 x10) ByteArray.empty) 1) ((n30 ((v5 ++ (bcons (wu8 x10) ByteArray.empty)), x12, (v5.size + (bcons (wu8 x10) ByteArray.empty).size))).bind fun y38 => (bif (x10 == 1) then ((n30 (y38.1, x14, y38.2)).bind fun y39 => ((n30 (y39.1, x16, y39.2)).bind fun y40 => ((n31 (x18, x20, x22, x24, x26)).bind fun y41 => (ask (addBOk y40.2 y40.1 y41.1 1) (ask (([k7, (y40.1.size + y41.1.size)] : List Nat) = [k7, (y40.1 ++ y41.1).size]) (L13_0 n (v4, (y40.1 ++ y41.1), (w64 (v6 + 1)), k7) s)))))) else ((n31 (x18, x20, x22, x24, x26)).bind fun y42 => (ask (addBOk y38.2 y38.1 y42.1 1) (ask (([k7, (y38.1.size + y42.1.size)] : List Nat) = [k7, (y38.1 ++ y42.1).size]) (L13_0 n (v4, (y38.1 ++ y42.1), (w64 (v6 + 1)), k7) s))))))))))))))))))))))) else (ask (([k7, v5.size] : List Nat) = [k7, v5.size]) (some (O13_0.x1 v5 k7, s))))
def d13 (ds : List D) : Option (List D) := match ds with
  | [.slice a0] => some a0
  | _ => none
def r13 (v : AV) : Option (ByteArray × Int) := match toPR v with
  | some (.many [.bytes a1, .val (.int .i64 a2)]) => some (a1, a2)
  | _ => none
def n13 : List D → Option (ByteArray × Int) := fun a0 => ((nO29 ((a0.length : Nat) : Int)).bind fun y3 => (ask (([0, y3.size] : List Nat) = [0, y3.size]) ((L13_0 1000000000000 (a0, y3, 0, 0) ()).bind fun p45 => match p45.1 with | .x0 z46 z47 z48 z49 => (some (z46, z47)) | .x1 z50 z51 => (some (z50, 0)))))
def e13 : PureE := mkE d13 n13 (fun (a1, a2) => .many [.bytes a1, .val (.int .i64 a2)])
def g13 {σ : Type} : Nat → Option (SegE σ)
  | 0 => some (l13_0.seg σ (L13_0 1000000000000))
  | _ => none
theorem E13_0 {σ : Type} (Y : Yd σ) : ∀ n a (s : σ), L13_0 (n + 1) a s = evK (cfgOf Tryz.prog (tabsS15 gl) tS15) (toldOf tS15) Y (inlN (cfgOf Tryz.prog (tabsS15 gl) tS15) (toldOf tS15) Y) g13 13 (loopAt Tryz.f13 0) ((l13_0.toT σ).enc a s) (fun ex st' => l13_0.next (cfgOf Tryz.prog (tabsS15 gl) tS15) 13 0 (L13_0 n) ex st') := by
  intro n ⟨v4, v5, v6, k7⟩ s
  kernel_rfl
theorem Q13_0 {σ : Type} (hl : LibFits gl) (Y : Yd σ) (rnd : Bool) : SegOk (cfgOf Tryz.prog (tabsS15 gl) tS15) (evFn (cfgOf Tryz.prog (tabsS15 gl) tS15) 9) 13 rnd Y (l13_0.seg σ (L13_0 1000000000000)) (.block 0 (.loop (loopAt Tryz.f13 0))) :=
  told_loop (okS15 hl) k13_0 (by kernel_rfl) (by kernel_rfl) (fun _ _ => rfl) (segs_no (by kernel_rfl)) (E13_0 Y) (hr := by kernel_rfl)
theorem N13 : ∀ a, n13 a = bodyK (cfgOf Tryz.prog (tabsS15 gl) tS15) (toldOf tS15) noY (inlN (cfgOf Tryz.prog (tabsS15 gl) tS15) (toldOf tS15) noY) g13 13 Tryz.f13 (((fun a0 => [.slice a0] : (List D) → List D) a).map .d) [] [] () (retK fun v _ _ _ => r13 v) := by
  intro a0
  kernel_rfl
noncomputable def t13 : Tab := (13, e13) :: tS15
theorem ok13 (hl : LibFits gl) : TabOk Tryz.prog gl t13 :=
  told_fn (okS15 hl) mixed (oddOkS15 hl) methOk Tryz.func13 (by kernel_rfl) (by kernel_rfl) (by kernel_rfl) (fun p hp e he => by
    have hq : segsOf (σ := Unit) (g13 (σ := Unit)) (bodyOf Tryz.f13) = [(0, .loop (loopAt Tryz.f13 0))] := by kernel_rfl
    rw [hq] at hp
    simp only [List.mem_cons, List.not_mem_nil, or_false] at hp
    subst hp
    cases he
    exact Q13_0 hl _ _)
    (args := fun a0 => [.slice a0]) (res := r13)
    (fun ds a h => by
      unfold d13 at h
      split at h
      · cases h; rfl
      · cases h)
    (fun v r h => by
      unfold r13 at h
      split at h
      · rename_i hv; cases h; exact hv
      · cases h)
    N13
abbrev AT12_0 := ByteArray × List D × Int × Int × Nat
inductive OT12_0 where
  | x0 (o35 : ByteArray) (o36 : Int) (q37 : Nat) (q38 : Nat)
  | x1 (o44 : ByteArray) (q45 : Nat)
def lT12_0 : LoopS AT12_0 OT12_0 where
  n := 57
  ks := [4, 13, 14, 15]
  kso := [2, 3, 4]
  m := 0
  mt := 2
  decV := fun vs bs ts => match vs, bs, ts with
    | [.obs 1 v4, .d (.slice v5), .d (.val (.int .i64 v6)), .d (.val (.int .i64 v7))], [], [k8, _] => some (v4, v5, v6, v7, k8)
    | _, _, _ => none
  encV := fun (v4, v5, v6, v7, k8) => [.obs 1 v4, .d (.slice v5), .d (.val (.int .i64 v6)), .d (.val (.int .i64 v7))]
  encB := fun (v4, v5, v6, v7, k8) => []
  tk := fun (v4, v5, v6, v7, k8) => [k8, v4.size]
  decO := fun ex vs bs ts => match ex, vs, bs, ts with
    | .ret, [.d (.bytes o35), .d (.val (.int .i64 o36)), .undef], [], [q37, q38] => some (.x0 o35 o36 q37 q38)
    | .normal, [.undef, .undef, .obs 1 o44], [], [q45, _] => some (.x1 o44 q45)
    | _, _, _, _ => none
  exO := fun x => match x with
    | .x0 o35 o36 q37 q38 => .ret
    | .x1 o44 q45 => .normal
  outV := fun x => match x with
    | .x0 o35 o36 q37 q38 => [.d (.bytes o35), .d (.val (.int .i64 o36)), .undef]
    | .x1 o44 q45 => [.undef, .undef, .obs 1 o44]
  outB := fun x => match x with
    | .x0 o35 o36 q37 q38 => []
    | .x1 o44 q45 => []
  tkO := fun x => match x with
    | .x0 o35 o36 q37 q38 => [q37, q38]
    | .x1 o44 q45 => [q45, o44.size]
  elim := fun x k => match x with
    | .x0 o35 o36 q37 q38 => k .ret [.d (.bytes o35), .d (.val (.int .i64 o36)), .undef] [] [q37, q38]
    | .x1 o44 q45 => k .normal [.undef, .undef, .obs 1 o44] [] [q45, o44.size]
theorem kT12_0 : lT12_0.Ok where
  ok1 := by kernel_rfl
  ok2 := by kernel_rfl
  dec := by
    intro vs bs ts a h
    simp only [lT12_0] at h ⊢
    split at h
    · cases h; exact ⟨rfl, rfl⟩
    · cases h
  out := by
    intro ex vs bs ts o h
    simp only [lT12_0] at h ⊢
    split at h
    · cases h; exact ⟨rfl, rfl, rfl⟩
    · cases h; exact ⟨rfl, rfl, rfl⟩
    · cases h
  len := fun _ => ⟨rfl, rfl⟩
  elim := fun β o k => by cases o <;> rfl
def LT12_0 {σ : Type} : Nat → AT12_0 → σ → Option (OT12_0 × σ)
  | 0, _, _ => none
  | n+1, (v4, v5, v6, v7, k8), s => (bif (decide (v7 < v6)) then ((lidx v5 v7).bind fun d9 => ask (d9.cells.length = 12) ((cellAt 0 d9).bind fun x10 => (asInt .i64 x10).bind fun x11 => ((cellAt 1 d9).bind fun x12 => (asStr x12).bind fun x13 => ((cellAt 2 d9).bind fun x14 => (asStr x14).bind fun x15 => ((cellAt 3 d9).bind fun x16 => (asStr x16).bind fun x17 => ((cellAt 4 d9).bind fun x18 => (asInt .i64 x18).bind fun x19 => ((cellAt 5 d9).bind fun x20 => (asInt .i64 x20).bind fun x21 => ((cellAt 6 d9).bind fun x22 => (asInt .i64 x22).bind fun x23 => ((cellAt 7 d9).bind fun x24 => (asStr x24).bind fun x25 => ((cellAt 8 d9).bind fun x26 => (asRow x26).bind fun x27 => ((cellAt 9 d9).bind fun x28 => (asInt .i64 x28).bind fun x29 => ((cellAt 10 d9).bind fun x30 => (asInt .i64 x30).bind fun x31 => ((cellAt 11 d9).bind fun x32 => (asInt .i64 x32).bind fun x33 => ((n16 (x11, x13, x15, x17, x19, x21, x23, x25, x27, x29, x31, x33)).bind fun y34 => (bif (!y34) then (ask (([k8, v4.size] : List Nat) = [k8, v4.size]) (some (OT12_0.x0 ByteArray.empty 60 k8 v4.size, s))) else (ask (byteOk (wu8 x11)) (ask (addBOk v4.size v4 (bcons (wu8 x11) ByteArray.empty) 1) ((n27 x13).bind fun y39 => (ask (addBOk (v4.size + (bcons (wu8 x11) ByteArray.empty).size) (v4 ++ (bcons (wu8 x11) ByteArray.empty)) y39 1) (bif (x11 == 1) then ((n27 x15).bind fun y40 => (ask (addBOk ((v4 ++ (bcons (wu8 x11) ByteArray.empty)).size + y39.size) ((v4 ++ (bcons (wu8 x11) ByteArray.empty)) ++ y39) y40 1) ((n27 x17).bind fun y41 => (ask (addBOk (((v4 ++ (bcons (wu8 x11) ByteArray.empty)) ++ y39).size + y40.size) (((v4 ++ (bcons (wu8 x11) ByteArray.empty)) ++ y39) ++ y40) y41 1) ((n28 (x19, x21, x23, x25, x27)).bind fun y42 => (ask (addBOk ((((v4 ++ (bcons (wu8 x11) ByteArray.empty)) ++ y39) ++ y40).size + y41.size) ((((v4 ++ (bcons (wu8 x11) ByteArray.empty)) ++ y39) ++ y40) ++ y41) y42.1 1) (ask (([k8, (((((v4 ++ (bcons (wu8 x11) ByteArray.empty)) ++ y39) ++ y40) ++ y41).size + y42.1.size)] : List Nat) = [k8, (((((v4 ++ (bcons (wu8 x11) ByteArray.empty)) ++ y39) ++ y40) ++ y41) ++ y42.1).size]) (LT12_0 n ((((((v4 ++ (bcons (wu8 x11) ByteArray.empty)) ++ y39) ++ y40) ++ y41) ++ y42.1), v5, v6, (w64 (v7 + 1)), k8) s)))))))) else ((n28 (x19, x21, x23, x25, x27)).bind fun y43 => (ask (addBOk ((v4 ++ (bcons (wu8 x11) ByteArray.empty)).size + y39.size) ((v4 ++ (bcons (wu8 x11) ByteArray.empty)) ++ y39) y43.1 1) (ask (([k8, (((v4 ++ (bcons (wu8 x11) ByteArray.empty)) ++ y39).size + y43.1.size)] : List Nat) = [k8, (((v4 ++ (bcons (wu8 x11) ByteArray.empty)) ++ y39) ++ y43.1).size]) (LT12_0 n ((((v4 ++ (bcons (wu8 x11) ByteArray.empty)) ++ y39) ++ y43.1), v5, v6, (w64 (v7 + 1)), k8) s)))))))))))))))))))))))) else (ask (([k8, v4.size] : List Nat) = [k8, v4.size]) (some (OT12_0.x1 v4 k8, s))))
def dT12 (ds : List D) : Option (List D) := match ds with
  | [.slice a0] => some a0
  | _ => none
def rT12 (v : AV) (tk : List Nat) : Option (ByteArray × Int) := match v with
  | .tup [.obs j r2, .d (.val (.int .i64 a1))] => (tk[j]?).bind fun n => ask (n = r2.size) (some (r2, a1))
  | .tup [.d (.bytes r2), .d (.val (.int .i64 a1))] => ask (r2.size = 0) (some (ByteArray.empty, a1))
  | _ => none
def wT12 : (ByteArray × Int) → ByteArray := fun (r2, a1) => r2
def xT12 : (ByteArray × Int) → List D := fun (r2, a1) => [.val (.int .i64 a1)]
def nT12 : List D → Option (ByteArray × Int) := fun a0 => ((nO26 (wu64 ((a0.length : Nat) : Int))).bind fun y3 => (ask (([0, y3.size] : List Nat) = [0, y3.size]) ((LT12_0 1000000000000 (y3, a0, ((a0.length : Nat) : Int), 0, 0) ()).bind fun p46 => match p46.1 with | .x0 z47 z48 z49 z50 => (ask (z47.size = 0) (some (ByteArray.empty, z48))) | .x1 z51 z52 => (ask (z51.size = z51.size) (some (z51, 0))))))
def gT12 {σ : Type} : Nat → Option (SegE σ)
  | 0 => some (lT12_0.seg σ (LT12_0 1000000000000))
  | _ => none
theorem ET12_0 {σ : Type} (Y : Yd σ) : ∀ n a (s : σ), LT12_0 (n + 1) a s = evK (cfgOf Tryz.prog (tabsS15 gl) tS15) (toldOf tS15) Y (inlN (cfgOf Tryz.prog (tabsS15 gl) tS15) (toldOf tS15) Y) gT12 12 (loopAt Tryz.f12 0) ((lT12_0.toT σ).enc a s) (fun ex st' => lT12_0.next (cfgOf Tryz.prog (tabsS15 gl) tS15) 12 0 (LT12_0 n) ex st') := by
  intro n ⟨v4, v5, v6, v7, k8⟩ s
  kernel_rfl
theorem QT12_0 {σ : Type} (hl : LibFits gl) (Y : Yd σ) (rnd : Bool) : SegOk (cfgOf Tryz.prog (tabsS15 gl) tS15) (evFn (cfgOf Tryz.prog (tabsS15 gl) tS15) 9) 12 rnd Y (lT12_0.seg σ (LT12_0 1000000000000)) (.block 0 (.loop (loopAt Tryz.f12 0))) :=
  told_loop (okS15 hl) kT12_0 (by kernel_rfl) (by kernel_rfl) (fun _ _ => rfl) (segs_no (by kernel_rfl)) (ET12_0 Y) (hr := by kernel_rfl)
theorem NT12 : ∀ a, nT12 a = bodyK (cfgOf Tryz.prog (tabsS15 gl) tS15) (toldOf tS15) noY (inlN (cfgOf Tryz.prog (tabsS15 gl) tS15) (toldOf tS15) noY) gT12 12 Tryz.f12 ((((fun a0 => [.slice a0]) : (List D) → List D) a).map .d) [] [] () (retK fun v _ tk _ => rT12 v tk) := by
  intro a0
  kernel_rfl
theorem omT12 (hl : LibFits gl) : OddSound Tryz.prog gl (fun g => bif Nat.beq g 12 then some (thawBE dT12 nT12 wT12 xT12) else (tabsS15 gl).odd g) :=
  told_thawBE (t := tabsS15 gl) (okS15 hl) mixed (oddOkS15 hl) methOk Tryz.func12 (by kernel_rfl) (row := wT12) (rest := xT12) (args := (fun a0 => [.slice a0])) (res := rT12) (by kernel_rfl) (fun p hp e he => by
    have hq : segsOf (σ := Unit) (gT12 (σ := Unit)) (bodyOf Tryz.f12) = [(0, .loop (loopAt Tryz.f12 0))] := by kernel_rfl
    rw [hq] at hp
    simp only [List.mem_cons, List.not_mem_nil, or_false] at hp
    subst hp
    cases he
    exact QT12_0 hl _ _)
    (fun ds a h => by
      unfold dT12 at h
      split at h
      · cases h; rfl
      · cases h)
    (fun v tk o h => by
      unfold rT12 at h
      split at h
      · obtain ⟨n, h1, h2⟩ := bind_some h
        obtain ⟨h3, h4⟩ := ask_some h2
        cases h4
        exact ⟨.inl ⟨_, rfl, h1.trans (congrArg some h3)⟩, rfl⟩
      · obtain ⟨h1, h2⟩ := ask_some h
        cases h2
        exact ⟨.inr ⟨_, rfl, by rw [ByteArray.size_eq_zero_iff.1 h1]; rfl, rfl⟩, rfl⟩
      · cases h)
    NT12
noncomputable def tabsS16 (gl : Nat → Option (List D)) : Tabs := { tabsS15 gl with odd := fun g => bif Nat.beq g 12 then some (thawBE dT12 nT12 wT12 xT12) else ((tabsS15 gl).odd g) }
theorem oddOkS16 (hl : LibFits gl) : OddSound Tryz.prog gl (tabsS16 gl).odd := OddSound.join (omT12 hl) ((oddOkS15 hl))
noncomputable def tS16 : Tab := (13, e13) :: tS15
theorem okS16 (hl : LibFits gl) : TabOk Tryz.prog gl tS16 :=
  TabOk.cons (okS15 hl) ((ok13 hl).fair (13, e13) (List.mem_cons_self (l := tS15))) ((ok13 hl).spec (13, e13) (List.mem_cons_self (l := tS15)))
abbrev A4_0 := List D × ByteArray × ByteArray × Int
inductive O4_0 where
  | x0 (o10 : List D) (o11 : ByteArray)
def l4_0 : LoopS A4_0 O4_0 where
  n := 53
  ks := [0, 3, 5, 7]
  kso := [0, 5]
  m := 0
  mt := 0
  decV := fun vs bs ts => match vs, bs, ts with
    | [.d (.slice v5), .d (.bytes v6), .d (.bytes v7), .d (.val (.int .i64 v8))], [], [] => some (v5, v6, v7, v8)
    | _, _, _ => none
  encV := fun (v5, v6, v7, v8) => [.d (.slice v5), .d (.bytes v6), .d (.bytes v7), .d (.val (.int .i64 v8))]
  encB := fun (v5, v6, v7, v8) => []
  tk := fun _ => []
  decO := fun ex vs bs ts => match ex, vs, bs, ts with
    | .normal, [.d (.slice o10), .d (.bytes o11)], [], [] => some (.x0 o10 o11)
    | _, _, _, _ => none
  exO := fun x => match x with
    | .x0 o10 o11 => .normal
  outV := fun x => match x with
    | .x0 o10 o11 => [.d (.slice o10), .d (.bytes o11)]
  outB := fun x => match x with
    | .x0 o10 o11 => []
  tkO := fun x => match x with
    | .x0 o10 o11 => []
  elim := fun x k => match x with
    | .x0 o10 o11 => k .normal [.d (.slice o10), .d (.bytes o11)] [] []
theorem k4_0 : l4_0.Ok where
  ok1 := by kernel_rfl
  ok2 := by kernel_rfl
  dec := by
    intro vs bs ts a h
    simp only [l4_0] at h ⊢
    split at h
    · cases h; exact ⟨rfl, rfl⟩
    · cases h
  out := by
    intro ex vs bs ts o h
    simp only [l4_0] at h ⊢
    split at h
    · cases h; exact ⟨rfl, rfl, rfl⟩
    · cases h
  len := fun _ => ⟨rfl, rfl⟩
  elim := fun β o k => by cases o <;> rfl
def L4_0 {σ : Type} : Nat → A4_0 → σ → Option (O4_0 × σ)
  | 0, _, _ => none
  | n+1, (v5, v6, v7, v8), s => (bif (decide (v8 < ((v6.size : Nat) : Int))) then ((sidx v6 v8).bind fun c9 => none) else (some (O4_0.x0 v5 v7, s)))
abbrev A4_0v1 := List D × Nat × ByteArray × Int × List D
inductive O4_0v1 where
  | x0 (o28 : List D) (o29 : ByteArray) (o30 : List D)
def l4_0v1 : LoopS A4_0v1 O4_0v1 where
  n := 53
  ks := [0, 3, 5, 7]
  kso := [0, 5]
  m := 1
  mt := 0
  decV := fun vs bs ts => match vs, bs, ts with
    | [.d (.slice v22), .rsl 0 1 v23, .d (.bytes v24), .d (.val (.int .i64 v25))], [.row 1 v26], [] => some (v22, v23, v24, v25, v26)
    | _, _, _ => none
  encV := fun (v22, v23, v24, v25, v26) => [.d (.slice v22), .rsl 0 1 v23, .d (.bytes v24), .d (.val (.int .i64 v25))]
  encB := fun (v22, v23, v24, v25, v26) => [.row 1 v26]
  tk := fun _ => []
  decO := fun ex vs bs ts => match ex, vs, bs, ts with
    | .normal, [.d (.slice o28), .d (.bytes o29)], [.row 1 o30], [] => some (.x0 o28 o29 o30)
    | _, _, _, _ => none
  exO := fun x => match x with
    | .x0 o28 o29 o30 => .normal
  outV := fun x => match x with
    | .x0 o28 o29 o30 => [.d (.slice o28), .d (.bytes o29)]
  outB := fun x => match x with
    | .x0 o28 o29 o30 => [.row 1 o30]
  tkO := fun x => match x with
    | .x0 o28 o29 o30 => []
  elim := fun x k => match x with
    | .x0 o28 o29 o30 => k .normal [.d (.slice o28), .d (.bytes o29)] [.row 1 o30] []
theorem k4_0v1 : l4_0v1.Ok where
  ok1 := by kernel_rfl
  ok2 := by kernel_rfl
  dec := by
    intro vs bs ts a h
    simp only [l4_0v1] at h ⊢
    split at h
    · cases h; exact ⟨rfl, rfl⟩
    · cases h
  out := by
    intro ex vs bs ts o h
    simp only [l4_0v1] at h ⊢
    split at h
    · cases h; exact ⟨rfl, rfl, rfl⟩
    · cases h
  len := fun _ => ⟨rfl, rfl⟩
  elim := fun β o k => by cases o <;> rfl
def L4_0v1 {σ : Type} : Nat → A4_0v1 → σ → Option (O4_0v1 × σ)
  | 0, _, _ => none
  | n+1, (v22, v23, v24, v25, v26), s => (bif (decide (v25 < ((v23 : Nat) : Int))) then (ask (rowIn v25 v23) (((v26)[(Int.toNat v25)]?).bind fun d27 => ask (d27.cells.length = 1) (L4_0v1 n (v22, v23, v24, (w64 (v25 + 1)), (List.set v26 (Int.toNat v25) (D.put d27 0 ([.val (.int .u8 255)] : List D)))) s))) else (some (O4_0v1.x0 v22 v24 v26, s)))
def d4 (ds : List D) : Option (List D) := match ds with
  | [.slice a0] => some a0
  | _ => none
def r4 (v : AV) : Option (Bool) := match toPR v with
  | some (.one (.val (.bool a1))) => some a1
  | _ => none
def n4 : List D → Option (Bool) := fun a0 => ((nT12 a0).bind fun y2 => (bif Nat.beq y2.1.size 0 then ((n13 a0).bind fun y3 => ((n9 y2.2).bind fun y4 => (bif (y4 != y3.2) then (some false) else (bif (!(sEq ByteArray.empty y3.1)) then (some false) else ((L4_0 1000000000000 (a0, ByteArray.empty, y3.1, 0) ()).bind fun p12 => match p12.1 with | .x0 z13 z14 => ((nT12 z13).bind fun y15 => (bif Nat.beq y15.1.size 0 then (bif (sEq ByteArray.empty z14) then ((n11 ()).bind fun y16 => (some y16)) else (some false)) else ((rowBytes (y15.1.size) (bytesD y15.1)).bind fun t17 => (bif (sEq t17 z14) then ((n11 ()).bind fun y18 => (some y18)) else (some false)))))))))) else ((n13 a0).bind fun y19 => ((n9 y2.2).bind fun y20 => (bif (y20 != y19.2) then (some false) else ((rowBytes (y2.1.size) (bytesD y2.1)).bind fun t21 => (bif (!(sEq t21 y19.1)) then (some false) else ((L4_0v1 1000000000000 (a0, (y2.1.size), y19.1, 0, (bytesD y2.1)) ()).bind fun p31 => match p31.1 with | .x0 z32 z33 z34 => ((nT12 z32).bind fun y35 => (bif Nat.beq y35.1.size 0 then (bif (sEq ByteArray.empty z33) then ((n11 ()).bind fun y36 => (some y36)) else (some false)) else ((rowBytes (y35.1.size) (bytesD y35.1)).bind fun t37 => (bif (sEq t37 z33) then ((n11 ()).bind fun y38 => (some y38)) else (some false)))))))))))))
def e4 : PureE := mkE d4 n4 (fun a1 => .one (.val (.bool a1)))
def g4 {σ : Type} : Nat → Option (SegE σ)
  | 0 => some (segOr (fun st => ((l4_0.toT σ).dec st).isSome) (l4_0.seg σ (L4_0 1000000000000)) (l4_0v1.seg σ (L4_0v1 1000000000000)))
  | _ => none
theorem E4_0 {σ : Type} (Y : Yd σ) : ∀ n a (s : σ), L4_0 (n + 1) a s = evK (cfgOf Tryz.prog (tabsS16 gl) tS16) (toldOf tS16) Y (inlN (cfgOf Tryz.prog (tabsS16 gl) tS16) (toldOf tS16) Y) g4 4 (loopAt Tryz.f4 0) ((l4_0.toT σ).enc a s) (fun ex st' => l4_0.next (cfgOf Tryz.prog (tabsS16 gl) tS16) 4 0 (L4_0 n) ex st') := by
  intro n ⟨v5, v6, v7, v8⟩ s
  kernel_rfl
theorem Q4_0 {σ : Type} (hl : LibFits gl) (Y : Yd σ) (rnd : Bool) : SegOk (cfgOf Tryz.prog (tabsS16 gl) tS16) (evFn (cfgOf Tryz.prog (tabsS16 gl) tS16) 9) 4 rnd Y (l4_0.seg σ (L4_0 1000000000000)) (.block 0 (.loop (loopAt Tryz.f4 0))) :=
  told_loop (okS16 hl) k4_0 (by kernel_rfl) (by kernel_rfl) (fun _ _ => rfl) (segs_no (by kernel_rfl)) (E4_0 Y) (hr := by kernel_rfl)
theorem E4_0v1 {σ : Type} (Y : Yd σ) : ∀ n a (s : σ), L4_0v1 (n + 1) a s = evK (cfgOf Tryz.prog (tabsS16 gl) tS16) (toldOf tS16) Y (inlN (cfgOf Tryz.prog (tabsS16 gl) tS16) (toldOf tS16) Y) g4 4 (loopAt Tryz.f4 0) ((l4_0v1.toT σ).enc a s) (fun ex st' => l4_0v1.next (cfgOf Tryz.prog (tabsS16 gl) tS16) 4 0 (L4_0v1 n) ex st') := by
  intro n ⟨v22, v23, v24, v25, v26⟩ s
  kernel_rfl
theorem Q4_0v1 {σ : Type} (hl : LibFits gl) (Y : Yd σ) (rnd : Bool) : SegOk (cfgOf Tryz.prog (tabsS16 gl) tS16) (evFn (cfgOf Tryz.prog (tabsS16 gl) tS16) 9) 4 rnd Y (l4_0v1.seg σ (L4_0v1 1000000000000)) (.block 0 (.loop (loopAt Tryz.f4 0))) :=
  told_loop (okS16 hl) k4_0v1 (by kernel_rfl) (by kernel_rfl) (fun _ _ => rfl) (segs_no (by kernel_rfl)) (E4_0v1 Y) (hr := by kernel_rfl)
theorem QQ4_0 {σ : Type} (hl : LibFits gl) (Y : Yd σ) (rnd : Bool) : SegOk (cfgOf Tryz.prog (tabsS16 gl) tS16) (evFn (cfgOf Tryz.prog (tabsS16 gl) tS16) 9) 4 rnd Y (segOr (fun st => ((l4_0.toT σ).dec st).isSome) (l4_0.seg σ (L4_0 1000000000000)) (l4_0v1.seg σ (L4_0v1 1000000000000))) (.block 0 (.loop (loopAt Tryz.f4 0))) := (SegOk.or (Q4_0 hl Y rnd) (Q4_0v1 hl Y rnd))
theorem N4 : ∀ a, n4 a = bodyK (cfgOf Tryz.prog (tabsS16 gl) tS16) (toldOf tS16) noY (inlN (cfgOf Tryz.prog (tabsS16 gl) tS16) (toldOf tS16) noY) g4 4 Tryz.f4 (((fun a0 => [.slice a0] : (List D) → List D) a).map .d) [] [] () (retK fun v _ _ _ => r4 v) := by
  intro a0
  kernel_rfl
noncomputable def t4 : Tab := (4, e4) :: tS16
theorem ok4 (hl : LibFits gl) : TabOk Tryz.prog gl t4 :=
  told_fn (okS16 hl) mixed (oddOkS16 hl) methOk Tryz.func4 (by kernel_rfl) (by kernel_rfl) (by kernel_rfl) (fun p hp e he => by
    have hq : segsOf (σ := Unit) (g4 (σ := Unit)) (bodyOf Tryz.f4) = [(0, .loop (loopAt Tryz.f4 0))] := by kernel_rfl
    rw [hq] at hp
    simp only [List.mem_cons, List.not_mem_nil, or_false] at hp
    subst hp
    cases he
    exact QQ4_0 hl _ _)
    (args := fun a0 => [.slice a0]) (res := r4)
    (fun ds a h => by
      unfold d4 at h
      split at h
      · cases h; rfl
      · cases h)
    (fun v r h => by
      unfold r4 at h
      split at h
      · rename_i hv; cases h; exact hv
      · cases h)
    N4
end
end Ev
