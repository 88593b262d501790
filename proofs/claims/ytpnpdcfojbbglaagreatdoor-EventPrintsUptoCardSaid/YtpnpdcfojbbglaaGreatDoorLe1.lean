/- What functions of the program compute, as plain Lean functions, each with its proof by a proved reader; plain laws about them (Le1). -/
import Derived.Test.YtpnpdcfojbbglaaGreatDoorEvTb
import Derived.Test.YtpnpdcfojbbglaaGreatDoorLibAe
import Derived.Test.YtpnpdcfojbbglaaGreatDoorChecked
import Derived.KernelRfl
set_option maxRecDepth 100000
set_option linter.unusedVariables false
namespace Ev
open Go Go.Proofs
noncomputable section
variable {gl : Nat → Option (List D)}
def tabs (gl : Nat → Option (List D)) : Tabs := ⟨[(98, [(5, []), (2, []), (4, []), (3, [1]), (1, [0, 1]), (0, [0, 1])]),
  (95, [(12, [7]), (11, [1, 2, 7, 26, 27, 28]), (10, [7]), (9, [1, 2, 7, 26, 27, 28]), (8, [1, 2, 7, 9, 26, 27, 28]), (7, [1, 2, 7, 26, 27, 28]), (6, [1, 2, 7, 26, 27, 28]), (5, [1, 2, 3, 7]), (4, [7]), (3, [1, 2, 3, 7]), (2, [1, 2, 3]), (1, [1, 2, 3]), (0, [0, 1, 2])]),
  (72, [(1, [1, 2, 3, 4, 5]), (0, [0, 1, 2, 3, 4])]),
  (73, [(1, [0]), (0, [0])]),
  (115, [(1, [0, 1, 2, 3]), (0, [0, 1, 2, 3])]),
  (69, [(9, []), (4, []), (6, [0]), (8, [0]), (7, [0]), (5, [0]), (3, [0]), (2, [0]), (1, [0]), (0, [0])]),
  (75, [(5, []), (4, []), (3, [1]), (2, []), (1, [0, 1]), (0, [0, 1])]),
  (96, [(1, [0]), (0, [0])]),
  (100, [(1, [0]), (0, [])]),
  (9, [(1, [0]), (0, [0])]),
  (36, [(10, [1]), (6, [1, 2, 3, 7]), (9, [1]), (8, [1, 2, 3, 7]), (7, [1, 2, 3, 7]), (5, [1, 2, 3, 7]), (4, [1, 2, 3]), (3, []), (2, [1, 2, 3]), (1, [1, 2, 3]), (0, [0, 1, 2])]),
  (37, [(7, [1, 2]), (6, [1, 2, 3]), (4, [1, 2, 3, 4]), (5, [1, 2, 3, 4]), (3, [1, 2, 3, 4]), (2, [1, 2, 3]), (1, [1, 2]), (0, [0])]),
  (61, [(2, [1, 3]), (1, [1]), (0, [0])]),
  (63, [(18, []), (17, [3, 74, 75, 76]), (16, [9]), (15, [3, 9, 74, 75, 76]), (14, [3, 7, 8, 74, 75, 76]), (13, [3, 74, 75, 76]), (12, [3, 74, 75, 76]), (11, [2, 3]), (10, [2, 3, 63, 64, 65]), (9, [6]), (8, [2, 3, 6, 63, 64, 65]), (7, [2, 3, 63, 64, 65]), (6, [2, 3, 63, 64, 65]), (5, [2, 3]), (4, [2, 3]), (3, [2, 3]), (2, [2, 3]), (1, [2, 3]), (0, [0, 1])]),
  (104, [(22, [1, 4]), (4, [1, 4, 5]), (7, [0, 1, 4, 5]), (6, [0, 1, 4, 5, 6, 7]), (14, [0, 1, 4, 5]), (13, [0, 1, 4, 5, 6, 7]), (12, [0, 1, 4, 5, 6]), (11, [0, 1, 4, 5, 6, 7]), (10, [0, 1, 4, 5, 7]), (9, [0, 1, 4, 5, 6, 7]), (21, [0, 1, 4, 5]), (20, [0, 1, 4, 5, 6, 7]), (19, [0, 1, 4, 5, 6]), (18, [0, 1, 4, 5, 6, 7]), (17, [0, 1, 4, 5, 7]), (16, [0, 1, 4, 5, 6, 7]), (15, [0, 1, 4, 5, 6, 7]), (8, [0, 1, 4, 5, 6, 7]), (5, [0, 1, 4, 5, 6, 7]), (3, [0, 1, 4, 5, 6, 7]), (2, [0, 1, 4, 5]), (1, [0, 1, 4]), (0, [0, 1])]),
  (70, [(1, [0]), (0, [0])]),
  (64, [(7, []), (6, [0, 5, 6]), (5, []), (4, [0, 4, 5, 6]), (3, [0, 5, 6]), (2, [0, 5, 6]), (1, [0]), (0, [0])]),
  (48, [(17, []), (13, [2, 3, 5]), (16, [6]), (15, [2, 3, 5, 6]), (14, [2, 3, 5]), (12, [2, 3, 5]), (11, [2, 3]), (10, [2, 3]), (9, [2, 3]), (8, [2, 3]), (7, [2, 3]), (6, [2, 3]), (5, [2, 3]), (4, [2, 3]), (3, [2, 3]), (2, [2, 3]), (1, [2, 3]), (0, [0, 1])]),
  (15, [(3, [1, 2]), (2, [1, 2]), (1, [1, 2]), (0, [0])]),
  (68, [(7, [3]), (6, [0, 3, 4, 5]), (5, [0, 3, 4, 5]), (4, [0, 3, 4]), (3, [0, 3, 4]), (2, [0, 3]), (1, [0]), (0, [0])]),
  (39, [(10, []), (9, []), (8, [3]), (7, []), (6, [3, 5, 7]), (5, [3, 5, 7]), (4, [3, 7, 8]), (3, [3, 7]), (2, [0, 3]), (1, [0]), (0, [0])]),
  (23, [(1, [2, 3]), (0, [0, 1])]),
  (45, [(9, []), (6, [3, 4]), (8, []), (7, [3, 4]), (5, [3, 4]), (4, [3]), (3, []), (2, [3]), (1, [0]), (0, [0])]),
  (97, [(1, [0]), (0, [0])]),
  (38, [(1, [0]), (0, [0])]),
  (74, [(1, [0]), (0, [0])]),
  (44, [(1, [0]), (0, [0])]),
  (62, [(23, []), (22, [1, 95, 96, 97]), (21, []), (20, [1, 4, 5, 95, 96, 97]), (19, [1, 95, 96, 97]), (18, [1, 95, 96, 97]), (17, [1]), (16, []), (15, [1]), (5, [1, 3]), (7, [1, 3]), (9, [1, 3]), (11, [1]), (3, []), (14, [1, 16]), (13, [1, 16]), (12, [1, 16]), (10, [1, 16]), (8, [1, 3, 16]), (6, [1, 3, 16]), (4, [1, 3, 16]), (2, [1, 3]), (1, [1]), (0, [0])]),
  (47, [(21, []), (18, [1, 3]), (20, []), (19, [1, 3]), (17, [1, 3]), (16, [1]), (4, [1]), (6, [1]), (8, [1]), (10, [1]), (15, []), (14, [1]), (2, []), (13, [1, 5]), (12, [1, 5]), (11, [1, 5]), (9, [1, 5]), (7, [1, 5]), (5, [1, 5]), (3, [1, 5]), (1, [1]), (0, [0])]),
  (34, [(3, []), (2, []), (1, [1]), (0, [0])]),
  (22, [(1, [1]), (0, [0])]),
  (35, [(8, []), (3, [2, 3]), (5, []), (7, []), (6, [6]), (4, [5, 6]), (2, [2, 3, 5, 6]), (1, [2, 3]), (0, [0, 1])]),
  (16, [(8, []), (5, [1]), (7, [1]), (6, [1, 14]), (4, [1, 14]), (3, [1]), (2, []), (1, [1]), (0, [0])]),
  (20, [(5, [1]), (4, [1]), (3, [1]), (2, []), (1, [1]), (0, [0])]),
  (6, [(8, [3]), (4, [0, 3, 4]), (7, [0, 3, 4, 5]), (6, [0, 3, 4, 5]), (5, [0, 3, 4]), (3, [0, 3, 4]), (2, [0, 3]), (1, [0]), (0, [0])]),
  (105, [(3, [0]), (2, [0]), (1, [0]), (0, [0])]),
  (65, [(1, [0]), (0, [0])]),
  (71, [(3, [0]), (2, [0]), (1, [0]), (0, [0])]),
  (40, [(15, [0, 3]), (18, [0]), (19, [0]), (17, [0, 3]), (21, [0, 3]), (27, [0]), (26, [0, 3]), (25, [0, 3]), (24, [0, 3]), (23, [0, 3]), (13, [0, 4]), (12, [0, 4]), (11, [0, 3, 4]), (10, [0, 3, 4, 19, 20, 21]), (9, [0, 3, 4, 6, 19, 20, 21]), (8, [0, 3, 4, 6, 19, 20, 21]), (7, [0, 3, 4, 5, 6, 19, 20, 21]), (6, [0, 3, 4, 19, 20, 21]), (5, [0, 3, 4, 19, 20, 21]), (4, [0, 3, 4]), (3, [0, 3, 4]), (2, [0, 3]), (22, [0, 3, 8]), (20, [0, 3, 8]), (16, [0, 3, 8]), (14, [0, 3, 8]), (1, [0, 3]), (0, [0, 1])]),
  (46, [(29, [4]), (28, [4]), (27, [1, 4]), (24, [4]), (26, [4]), (25, [1, 4, 57]), (23, [1, 4, 57]), (22, [1, 4]), (18, [1, 4, 5]), (21, [1, 4, 5]), (20, [1, 4, 5]), (19, [1, 4, 5]), (17, [1, 4, 5]), (16, [1, 4]), (15, [1]), (5, []), (4, []), (3, [1]), (7, [1]), (12, [1, 3]), (11, [1]), (10, [1, 3]), (9, [1]), (14, [1]), (13, [1, 7]), (8, [1, 7]), (6, [1, 7]), (2, [1, 7]), (1, [1]), (0, [0])]),
  (33, [(1, [2, 3]), (0, [0, 1])]),
  (10, [(9, []), (5, [0, 1, 5]), (8, []), (7, [0, 1, 5, 6, 7]), (6, [0, 1, 5]), (4, [0, 1, 5]), (3, [0, 1]), (2, []), (1, [0, 1]), (0, [0, 1])]),
  (17, [(5, [4]), (4, [1, 4]), (3, [1]), (2, []), (1, [1]), (0, [0])]),
  (21, [(3, [1]), (2, []), (1, [1]), (0, [0])]),
  (18, [(1, [0]), (0, [0, 1])]),
  (7, [(12, [4]), (11, [4, 9, 10, 11]), (9, [4, 6, 7, 9, 10, 11]), (10, [4, 6, 7, 9, 10, 11]), (8, [4, 6, 7, 9, 10, 11]), (7, [4, 6, 9, 10, 11]), (6, []), (5, [4, 6, 9, 10, 11]), (4, [4, 9, 10, 11]), (3, [4, 9, 10, 11]), (2, [0, 4]), (1, [0]), (0, [0])]),
  (8, [(12, [4]), (4, [0, 4, 5]), (10, [0, 4, 5, 6, 7]), (11, [0, 4, 5, 6, 7]), (9, [0, 4, 5, 6, 7]), (8, [0, 4, 5, 6]), (7, []), (6, [0, 4, 5, 6]), (5, [0, 4, 5]), (3, [0, 4, 5]), (2, [0, 4]), (1, [0]), (0, [0])]),
  (3, [(4, [0, 3, 4, 5, 6, 7]), (3, [0, 3, 4, 5]), (2, [0, 3]), (1, [0]), (0, [0])])],
  [(98, [(0, [4])]),
  (95, [(0, [6, 7]), (1, [1, 2, 6, 7, 26, 27, 28])]),
  (72, []),
  (73, []),
  (115, []),
  (69, [(0, [2])]),
  (75, []),
  (96, []),
  (100, []),
  (9, []),
  (36, [(0, [1, 6]), (1, [1, 2, 3, 6, 7])]),
  (37, [(0, [1, 2, 3]), (1, [1, 2, 3, 4])]),
  (61, []),
  (63, [(2, [4]), (3, [3, 4, 74, 75, 76]), (0, [2, 3, 4]), (1, [2, 3, 4, 63, 64, 65])]),
  (104, [(0, [1, 4])]),
  (70, []),
  (64, [(0, [2]), (1, [0, 2, 5, 6])]),
  (48, [(0, [4]), (1, [2, 3, 4, 5])]),
  (15, []),
  (68, [(0, [3]), (1, [0, 3, 4])]),
  (39, [(0, [2, 3]), (1, [2, 3, 7])]),
  (23, []),
  (45, [(0, [2]), (1, [2, 3, 4])]),
  (97, []),
  (38, []),
  (74, []),
  (44, []),
  (62, [(1, [2]), (2, [1, 2, 95, 96, 97]), (0, [1, 2])]),
  (47, [(1, [2]), (2, [1, 2, 3]), (0, [1, 2])]),
  (34, []),
  (22, []),
  (35, [(0, [4])]),
  (16, [(0, [2])]),
  (20, []),
  (6, [(0, [3]), (1, [0, 3, 4])]),
  (105, []),
  (65, []),
  (71, []),
  (40, [(0, []), (1, [0, 3, 4]), (2, [0, 3, 4, 19, 20, 21])]),
  (46, [(3, [1, 2, 4]), (1, [1, 4]), (2, [1, 4, 5]), (0, [1, 2])]),
  (33, []),
  (10, [(0, [4]), (1, [0, 1, 4, 5])]),
  (17, []),
  (21, []),
  (18, []),
  (7, [(0, [2, 3, 4]), (1, [2, 3, 4, 9, 10, 11])]),
  (8, [(0, [2, 3, 4]), (1, [0, 2, 3, 4, 5])]),
  (3, [])],
  [(37, [(2, [(1, 4, false)])]), (17, [(4, [(1, 1, true)])]), (7, [(2, [(0, 1, true)])])],
  [(95, [(3, [5]), (9, [5])]), (72, [(1, [2])]), (73, [(1, [3])]), (69, [(1, [3]), (2, [3]), (5, [3]), (6, [3]), (7, [3])]), (96, [(1, [3])]), (36, [(2, [3])]), (61, [(2, [4])]), (104, [(5, [3]), (8, [3]), (15, [3])]), (70, [(1, [11])]), (64, [(4, [5])]), (39, [(8, [3])]), (45, [(2, [4])]), (97, [(1, [4, 8])]), (38, [(1, [4, 8])]), (74, [(1, [3, 7])]), (44, [(1, [3, 7])]), (62, [(1, [4]), (5, [2]), (7, [2]), (11, [4, 9]), (15, [4, 9])]), (35, [(2, [2])]), (16, [(7, [4])]), (20, [(5, [4, 9])]), (40, [(11, [4])]), (33, [(1, [6, 13, 20])]), (10, [(7, [6, 13, 20])])],
  [95, 40, 18], [], gl, oddT, []⟩
theorem oddOk : OddSound Tryz.prog gl (tabs gl).odd := oddT_sound
noncomputable def tS0 : Tab := [(11, e11), (155, e155), (50, e50), (170, e170), (101, e101), (99, e99), (180, e180), (42, e42)]
theorem okS0 (hl : LibFits gl) : TabOk Tryz.prog gl tS0 := libAll hl
theorem mixed : Tryz.prog.follows .mixedOrders = true := Tryz.checked.mixed
def d98 (ds : List D) : Option (Bool × Bool) := match ds with
  | [.val (.bool a0), .val (.bool a1)] => some (a0, a1)
  | _ => none
def r98 (v : AV) : Option (Int) := match toPR v with
  | some (.one (.val (.int .i64 a2))) => some a2
  | _ => none
def n98 : Bool × Bool → Option (Int) := fun (a0, a1) => (bif a0 then (some (-1)) else (bif a1 then (some 1) else (some 0)))
def e98 : PureE := mkE d98 n98 (fun a2 => .one (.val (.int .i64 a2)))
def g98 {σ : Type} : Nat → Option (SegE σ)
  | _ => none
theorem N98 : ∀ a, n98 a = bodyK (cfgOf Tryz.prog (tabs gl) tS0) (toldOf tS0) noY (inlN (cfgOf Tryz.prog (tabs gl) tS0) (toldOf tS0) noY) g98 98 Tryz.f98 (((fun (a0, a1) => [.val (.bool a0), .val (.bool a1)] : (Bool × Bool) → List D) a).map .d) [] [] () (fun v _ _ _ => r98 v) := by
  intro a
  obtain ⟨a0, a1⟩ := a
  kernel_rfl
noncomputable def t98 : Tab := (98, e98) :: tS0
theorem ok98 (hl : LibFits gl) : TabOk Tryz.prog gl t98 :=
  told_fn (okS0 hl) mixed oddOk Tryz.func98 (by kernel_rfl) (by kernel_rfl) (by kernel_rfl) (segs_no (by kernel_rfl))
    (args := fun (a0, a1) => [.val (.bool a0), .val (.bool a1)]) (res := r98)
    (fun ds a h => by
      unfold d98 at h
      split at h
      · cases h; rfl
      · cases h)
    (fun v r h => by
      unfold r98 at h
      split at h
      · rename_i hv; cases h; exact hv
      · cases h)
    N98
abbrev A95_0 := Int × Int × List D × Int × Int × Int × Int × Int × Int × ByteArray × List D
inductive O95_0 where
  | x0 (o32 : Int) (o33 : Int) (o34 : Int) (o35 : Int) (o36 : Int) (o37 : Int) (o38 : ByteArray) (o39 : List D)
  | x1 (o40 : Int) (o41 : Int) (o42 : Int) (o43 : Int) (o44 : Int) (o45 : ByteArray) (o46 : List D)
def l95_0 : LoopS A95_0 O95_0 where
  n := 50
  ks := [1, 2, 7, 26, 27, 28]
  kso := [6, 7]
  m := 2
  mt := 0
  decV := fun vs bs ts => match vs, bs, ts with
    | [.d (.val (.int .i64 v9)), .ptr 0 0, .d (.val (.int .i64 v10)), .d (.slice v11), .d (.val (.int .i64 v12)), .d (.val (.int .i64 v13))], [.cells (some 3) [.d (.val (.int .i64 v14))], .cells none [.d (.val (.int .i64 v15)), .d (.val (.int .i64 v16)), .d (.val (.int .i64 v17)), .d (.val (.string v18)), .d (.slice v19)]], [] => some (v9, v10, v11, v12, v13, v14, v15, v16, v17, v18, v19)
    | _, _, _ => none
  encV := fun (v9, v10, v11, v12, v13, v14, v15, v16, v17, v18, v19) => [.d (.val (.int .i64 v9)), .ptr 0 0, .d (.val (.int .i64 v10)), .d (.slice v11), .d (.val (.int .i64 v12)), .d (.val (.int .i64 v13))]
  encB := fun (v9, v10, v11, v12, v13, v14, v15, v16, v17, v18, v19) => [.cells (some 3) [.d (.val (.int .i64 v14))], .cells none [.d (.val (.int .i64 v15)), .d (.val (.int .i64 v16)), .d (.val (.int .i64 v17)), .d (.val (.string v18)), .d (.slice v19)]]
  tk := fun _ => []
  decO := fun ex vs bs ts => match ex, vs, bs, ts with
    | .ret, [.d (.val (.int .i64 o32)), .d (.val (.int .i64 o33))], [.cells (some 3) [.d (.val (.int .i64 o34))], .cells none [.d (.val (.int .i64 o35)), .d (.val (.int .i64 o36)), .d (.val (.int .i64 o37)), .d (.val (.string o38)), .d (.slice o39)]], [] => some (.x0 o32 o33 o34 o35 o36 o37 o38 o39)
    | .normal, [.undef, .d (.val (.int .i64 o40))], [.cells (some 3) [.d (.val (.int .i64 o41))], .cells none [.d (.val (.int .i64 o42)), .d (.val (.int .i64 o43)), .d (.val (.int .i64 o44)), .d (.val (.string o45)), .d (.slice o46)]], [] => some (.x1 o40 o41 o42 o43 o44 o45 o46)
    | _, _, _, _ => none
  exO := fun x => match x with
    | .x0 o32 o33 o34 o35 o36 o37 o38 o39 => .ret
    | .x1 o40 o41 o42 o43 o44 o45 o46 => .normal
  outV := fun x => match x with
    | .x0 o32 o33 o34 o35 o36 o37 o38 o39 => [.d (.val (.int .i64 o32)), .d (.val (.int .i64 o33))]
    | .x1 o40 o41 o42 o43 o44 o45 o46 => [.undef, .d (.val (.int .i64 o40))]
  outB := fun x => match x with
    | .x0 o32 o33 o34 o35 o36 o37 o38 o39 => [.cells (some 3) [.d (.val (.int .i64 o34))], .cells none [.d (.val (.int .i64 o35)), .d (.val (.int .i64 o36)), .d (.val (.int .i64 o37)), .d (.val (.string o38)), .d (.slice o39)]]
    | .x1 o40 o41 o42 o43 o44 o45 o46 => [.cells (some 3) [.d (.val (.int .i64 o41))], .cells none [.d (.val (.int .i64 o42)), .d (.val (.int .i64 o43)), .d (.val (.int .i64 o44)), .d (.val (.string o45)), .d (.slice o46)]]
  tkO := fun x => match x with
    | .x0 o32 o33 o34 o35 o36 o37 o38 o39 => []
    | .x1 o40 o41 o42 o43 o44 o45 o46 => []
  elim := fun x k => match x with
    | .x0 o32 o33 o34 o35 o36 o37 o38 o39 => k .ret [.d (.val (.int .i64 o32)), .d (.val (.int .i64 o33))] [.cells (some 3) [.d (.val (.int .i64 o34))], .cells none [.d (.val (.int .i64 o35)), .d (.val (.int .i64 o36)), .d (.val (.int .i64 o37)), .d (.val (.string o38)), .d (.slice o39)]] []
    | .x1 o40 o41 o42 o43 o44 o45 o46 => k .normal [.undef, .d (.val (.int .i64 o40))] [.cells (some 3) [.d (.val (.int .i64 o41))], .cells none [.d (.val (.int .i64 o42)), .d (.val (.int .i64 o43)), .d (.val (.int .i64 o44)), .d (.val (.string o45)), .d (.slice o46)]] []
theorem k95_0 : l95_0.Ok where
  ok1 := by kernel_rfl
  ok2 := by kernel_rfl
  dec := by
    intro vs bs ts a h
    simp only [l95_0] at h ⊢
    split at h
    · cases h; exact ⟨rfl, rfl⟩
    · cases h
  out := by
    intro ex vs bs ts o h
    simp only [l95_0] at h ⊢
    split at h
    · cases h; exact ⟨rfl, rfl, rfl⟩
    · cases h; exact ⟨rfl, rfl, rfl⟩
    · cases h
  len := fun _ => ⟨rfl, rfl⟩
  elim := fun β o k => by cases o <;> rfl
def L95_0 {σ : Type} (F : Int × Int × Int × Int × ByteArray × List D × Int → Option (Int × Int)) : Nat → A95_0 → σ → Option (O95_0 × σ)
  | 0, _, _ => none
  | n+1, (v9, v10, v11, v12, v13, v14, v15, v16, v17, v18, v19), s => (bif (decide (v13 < v12)) then ((lidx v11 v13).bind fun d20 => ask (d20.cells.length = 5) ((cellAt 0 d20).bind fun x21 => (asInt .i64 x21).bind fun x22 => ((cellAt 1 d20).bind fun x23 => (asInt .i64 x23).bind fun x24 => ((cellAt 2 d20).bind fun x25 => (asInt .i64 x25).bind fun x26 => ((cellAt 3 d20).bind fun x27 => (asStr x27).bind fun x28 => ((cellAt 4 d20).bind fun x29 => (asRow x29).bind fun x30 => ((F (v14, x22, x24, x26, x28, x30, (w64 (v9 + 1)))).bind fun y31 => (bif (bif (decide (y31.2 > 4096)) then true else (decide ((if y31.1 > v10 then y31.1 else v10) > 16))) then (some (O95_0.x0 (if y31.1 > v10 then y31.1 else v10) (if y31.1 > v10 then y31.1 else v10) y31.2 v15 v16 v17 v18 v19, s)) else (L95_0 F n (v9, (if y31.1 > v10 then y31.1 else v10), v11, v12, (w64 (v13 + 1)), y31.2, v15, v16, v17, v18, v19) s))))))))) else (some (O95_0.x1 v10 v14 v15 v16 v17 v18 v19, s)))
def dM95 (av : List AV) (bs : List Box) (ts : List Nat) : Option (Int × Int × Int × Int × ByteArray × List D × Int) := match av, bs, ts with
  | [.d (.agg [.val (.int .i64 a0), .val (.int .i64 a1), .val (.int .i64 a2), .val (.string a3), .slice a4]), .d (.val (.int .i64 a5)), .ptr 0 0], [.cells (some 3) [.d (.val (.int .i64 a6))]], [] => some (a6, a0, a1, a2, a3, a4, a5)
  | _, _, _ => none
def aM95 : (Int × Int × Int × Int × ByteArray × List D × Int) → List AV := fun (a6, a0, a1, a2, a3, a4, a5) => [.d (.agg [.val (.int .i64 a0), .val (.int .i64 a1), .val (.int .i64 a2), .val (.string a3), .slice a4]), .d (.val (.int .i64 a5)), .ptr 0 0]
def bM95 : (Int × Int × Int × Int × ByteArray × List D × Int) → List Box := fun (a6, a0, a1, a2, a3, a4, a5) => [.cells (some 3) [.d (.val (.int .i64 a6))]]
def tM95 : (Int × Int × Int × Int × ByteArray × List D × Int) → List Nat := fun (a6, a0, a1, a2, a3, a4, a5) => []
def vM95 : (Int × Int) → AV := fun (a7, p8) => .d (.val (.int .i64 a7))
def cM95 : (Int × Int) → List Box := fun (a7, p8) => [.cells (some 3) [.d (.val (.int .i64 p8))]]
def kM95 : (Int × Int) → List Nat := fun (a7, p8) => []
def rM95 (v : AV) (bs : List Box) (ts : List Nat) : Option (Int × Int) := match v, bs, ts with
  | .d (.val (.int .i64 a7)), [.cells (some 3) [.d (.val (.int .i64 p8))]], [] => some (a7, p8)
  | _, _, _ => none
def n95 : Nat → Int × Int × Int × Int × ByteArray × List D × Int → Option (Int × Int)
  | 0, _ => none
  | k + 1, (a6, a0, a1, a2, a3, a4, a5) => (bif (bif (decide ((w64 (a6 + 1)) > 4096)) then true else (decide (a5 > 16))) then (some (a5, (w64 (a6 + 1)))) else ((L95_0 (n95 k) 1000000000000 (a5, a5, a4, ((a4.length : Nat) : Int), 0, (w64 (a6 + 1)), a0, a1, a2, a3, a4) ()).bind fun p47 => match p47.1 with | .x0 z48 z49 z50 z51 z52 z53 z54 z55 => (some (z48, z50)) | .x1 z56 z57 z58 z59 z60 z61 z62 => (some (z56, z57))))
def g95 (k : Nat) {σ : Type} : Nat → Option (SegE σ)
  | 0 => some (l95_0.seg σ (L95_0 (n95 k) 1000000000000))
  | _ => none
noncomputable def tabsR95 (gl : Nat → Option (List D)) (k : Nat) : Tabs := oddAt (tabs gl) 95 (methE 95 dM95 (n95 k) (fun _ => vM95) (fun _ => cM95) (fun _ => kM95))
theorem E95_0 {σ : Type} (k : Nat) (Y : Yd σ) : ∀ n a (s : σ), L95_0 (n95 k) (n + 1) a s = evK (cfgOf Tryz.prog (tabsR95 gl k) tS0) (toldOf tS0) Y (inlN (cfgOf Tryz.prog (tabsR95 gl k) tS0) (toldOf tS0) Y) (g95 k) 95 (loopAt Tryz.f95 0) ((l95_0.toT σ).enc a s) (fun ex st' => l95_0.next (cfgOf Tryz.prog (tabsR95 gl k) tS0) 95 0 (L95_0 (n95 k) n) ex st') := by
  intro n ⟨v9, v10, v11, v12, v13, v14, v15, v16, v17, v18, v19⟩ s
  kernel_rfl
theorem Q95_0 {σ : Type} (hl : LibFits gl) (k : Nat) (Y : Yd σ) (rnd : Bool) : SegOk (cfgOf Tryz.prog (tabsR95 gl k) tS0) (evFn (cfgOf Tryz.prog (tabsR95 gl k) tS0) 9) 95 rnd Y (l95_0.seg σ (L95_0 (n95 k) 1000000000000)) (.block 0 (.loop (loopAt Tryz.f95 0))) :=
  told_loop (okS0 hl) k95_0 (by kernel_rfl) (by kernel_rfl) (fun _ _ => rfl) (segs_no (by kernel_rfl)) (E95_0 k Y) (hr := by kernel_rfl)
theorem N95 : ∀ k a, n95 (k + 1) a = bodyK (cfgOf Tryz.prog (tabsR95 gl k) tS0) (toldOf tS0) noY (inlN (cfgOf Tryz.prog (tabsR95 gl k) tS0) (toldOf tS0) noY) (g95 k) 95 Tryz.f95 (aM95 a) (bM95 a) (tM95 a) () (fun v b tk _ => rM95 v b tk) := by
  intro k a
  obtain ⟨a6, a0, a1, a2, a3, a4, a5⟩ := a
  kernel_rfl
theorem om95 (hl : LibFits gl) (k : Nat) : OddSound Tryz.prog gl (fun g => bif Nat.beq g 95 then some (methE 95 dM95 (n95 k) (fun _ => vM95) (fun _ => cM95) (fun _ => kM95)) else (tabs gl).odd g) :=
  told_methRec (t := tabs gl) (okS0 hl) mixed oddOk Tryz.func95 (by kernel_rfl) (by kernel_rfl) (nat := n95) (argsOf := aM95) (boxOf := bM95) (tokOf := tM95) (res := fun _ => rM95) (seg := fun k => (g95 k)) (by kernel_rfl) (fun k => (fun p hp e he => by
    have hq : segsOf (σ := Unit) (g95 k (σ := Unit)) (bodyOf Tryz.f95) = [(0, .loop (loopAt Tryz.f95 0))] := by kernel_rfl
    rw [hq] at hp
    simp only [List.mem_cons, List.not_mem_nil, or_false] at hp
    subst hp
    cases he
    exact Q95_0 hl k _ _))
    (fun av bs ts a h => by
      unfold dM95 at h
      split at h
      · cases h; exact ⟨rfl, rfl, rfl⟩
      · cases h)
    (fun _ v b tk o h => by
      unfold rM95 at h
      split at h
      · cases h; exact ⟨rfl, rfl, rfl⟩
      · cases h)
    (fun _ => rfl) N95 k
def d72 (ds : List D) : Option (Int × Int × Int × ByteArray × List D × Bool × Bool × Bool × Bool) := match ds with
  | [.agg [.val (.int .i64 a0), .val (.int .i64 a1), .val (.int .i64 a2), .val (.string a3), .slice a4], .val (.bool a5), .val (.bool a6), .val (.bool a7), .val (.bool a8)] => some (a0, a1, a2, a3, a4, a5, a6, a7, a8)
  | _ => none
def r72 (v : AV) : Option (Bool) := match toPR v with
  | some (.one (.val (.bool a9))) => some a9
  | _ => none
def n72 : Int × Int × Int × ByteArray × List D × Bool × Bool × Bool × Bool → Option (Bool) := fun (a0, a1, a2, a3, a4, a5, a6, a7, a8) => (bif (bif a5 then true else (a1 == 0)) then (bif a6 then (bif a7 then (bif a8 then (some true) else (some (((a4.length : Nat) : Int) == 0))) else (bif (sEq a3 (⟨#[]⟩ : ByteArray)) then (bif a8 then (some true) else (some (((a4.length : Nat) : Int) == 0))) else (some false))) else (bif (a2 == 0) then (bif a7 then (bif a8 then (some true) else (some (((a4.length : Nat) : Int) == 0))) else (bif (sEq a3 (⟨#[]⟩ : ByteArray)) then (bif a8 then (some true) else (some (((a4.length : Nat) : Int) == 0))) else (some false))) else (some false))) else (some false))
def e72 : PureE := mkE d72 n72 (fun a9 => .one (.val (.bool a9)))
def g72 {σ : Type} : Nat → Option (SegE σ)
  | _ => none
theorem N72 : ∀ a, n72 a = bodyK (cfgOf Tryz.prog (tabs gl) tS0) (toldOf tS0) noY (inlN (cfgOf Tryz.prog (tabs gl) tS0) (toldOf tS0) noY) g72 72 Tryz.f72 (((fun (a0, a1, a2, a3, a4, a5, a6, a7, a8) => [.agg [.val (.int .i64 a0), .val (.int .i64 a1), .val (.int .i64 a2), .val (.string a3), .slice a4], .val (.bool a5), .val (.bool a6), .val (.bool a7), .val (.bool a8)] : (Int × Int × Int × ByteArray × List D × Bool × Bool × Bool × Bool) → List D) a).map .d) [] [] () (fun v _ _ _ => r72 v) := by
  intro a
  obtain ⟨a0, a1, a2, a3, a4, a5, a6, a7, a8⟩ := a
  kernel_rfl
noncomputable def t72 : Tab := (72, e72) :: tS0
theorem ok72 (hl : LibFits gl) : TabOk Tryz.prog gl t72 :=
  told_fn (okS0 hl) mixed oddOk Tryz.func72 (by kernel_rfl) (by kernel_rfl) (by kernel_rfl) (segs_no (by kernel_rfl))
    (args := fun (a0, a1, a2, a3, a4, a5, a6, a7, a8) => [.agg [.val (.int .i64 a0), .val (.int .i64 a1), .val (.int .i64 a2), .val (.string a3), .slice a4], .val (.bool a5), .val (.bool a6), .val (.bool a7), .val (.bool a8)]) (res := r72)
    (fun ds a h => by
      unfold d72 at h
      split at h
      · cases h; rfl
      · cases h)
    (fun v r h => by
      unfold r72 at h
      split at h
      · rename_i hv; cases h; exact hv
      · cases h)
    N72
def d73 (ds : List D) : Option (Int) := match ds with
  | [.val (.int .i64 a0)] => some a0
  | _ => none
def r73 (v : AV) : Option (Bool) := match toPR v with
  | some (.one (.val (.bool a1))) => some a1
  | _ => none
def n73 : Int → Option (Bool) := fun a0 => (some (bif (decide (a0 ≥ (-1048576))) then (decide (a0 ≤ 1048576)) else false))
def e73 : PureE := mkE d73 n73 (fun a1 => .one (.val (.bool a1)))
def g73 {σ : Type} : Nat → Option (SegE σ)
  | _ => none
theorem N73 : ∀ a, n73 a = bodyK (cfgOf Tryz.prog (tabs gl) tS0) (toldOf tS0) noY (inlN (cfgOf Tryz.prog (tabs gl) tS0) (toldOf tS0) noY) g73 73 Tryz.f73 (((fun a0 => [.val (.int .i64 a0)] : (Int) → List D) a).map .d) [] [] () (fun v _ _ _ => r73 v) := by
  intro a0
  kernel_rfl
noncomputable def t73 : Tab := (73, e73) :: tS0
theorem ok73 (hl : LibFits gl) : TabOk Tryz.prog gl t73 :=
  told_fn (okS0 hl) mixed oddOk Tryz.func73 (by kernel_rfl) (by kernel_rfl) (by kernel_rfl) (segs_no (by kernel_rfl))
    (args := fun a0 => [.val (.int .i64 a0)]) (res := r73)
    (fun ds a h => by
      unfold d73 at h
      split at h
      · cases h; rfl
      · cases h)
    (fun v r h => by
      unfold r73 at h
      split at h
      · rename_i hv; cases h; exact hv
      · cases h)
    N73
def d115 (ds : List D) : Option (ByteArray × Int × Int × Int) := match ds with
  | [.val (.string a0), .val (.int .i64 a1), .val (.int .u8 a2), .val (.int .u8 a3)] => some (a0, a1, a2, a3)
  | _ => none
def r115 (v : AV) : Option (Bool) := match toPR v with
  | some (.one (.val (.bool a4))) => some a4
  | _ => none
def n115 : ByteArray × Int × Int × Int → Option (Bool) := fun (a0, a1, a2, a3) => (bif (decide (a1 < (a0.size : Int))) then ((sidx a0 a1).bind fun c5 => (bif (decide ((c5.toNat : Int) ≥ a2)) then ((sidx a0 a1).bind fun c6 => (some (decide ((c6.toNat : Int) ≤ a3)))) else (some false))) else (some false))
def e115 : PureE := mkE d115 n115 (fun a4 => .one (.val (.bool a4)))
def g115 {σ : Type} : Nat → Option (SegE σ)
  | _ => none
theorem N115 : ∀ a, n115 a = bodyK (cfgOf Tryz.prog (tabs gl) tS0) (toldOf tS0) noY (inlN (cfgOf Tryz.prog (tabs gl) tS0) (toldOf tS0) noY) g115 115 Tryz.f115 (((fun (a0, a1, a2, a3) => [.val (.string a0), .val (.int .i64 a1), .val (.int .u8 a2), .val (.int .u8 a3)] : (ByteArray × Int × Int × Int) → List D) a).map .d) [] [] () (fun v _ _ _ => r115 v) := by
  intro a
  obtain ⟨a0, a1, a2, a3⟩ := a
  kernel_rfl
noncomputable def t115 : Tab := (115, e115) :: tS0
theorem ok115 (hl : LibFits gl) : TabOk Tryz.prog gl t115 :=
  told_fn (okS0 hl) mixed oddOk Tryz.func115 (by kernel_rfl) (by kernel_rfl) (by kernel_rfl) (segs_no (by kernel_rfl))
    (args := fun (a0, a1, a2, a3) => [.val (.string a0), .val (.int .i64 a1), .val (.int .u8 a2), .val (.int .u8 a3)]) (res := r115)
    (fun ds a h => by
      unfold d115 at h
      split at h
      · cases h; rfl
      · cases h)
    (fun v r h => by
      unfold r115 at h
      split at h
      · rename_i hv; cases h; exact hv
      · cases h)
    N115
def d69 (ds : List D) : Option (Int) := match ds with
  | [.val (.int .i64 a0)] => some a0
  | _ => none
def r69 (v : AV) : Option (Bool) := match toPR v with
  | some (.one (.val (.bool a1))) => some a1
  | _ => none
def n69 : Int → Option (Bool) := fun a0 => (bif (bif (decide (a0 ≥ 97)) then (decide (a0 ≤ 122)) else false) then (some true) else (bif (bif (decide (a0 ≥ 65)) then (decide (a0 ≤ 90)) else false) then (some true) else (bif (a0 == 95) then (some true) else (bif (bif (decide (a0 ≥ 192)) then (decide (a0 ≤ 591)) else false) then (some (bif (a0 != 215) then (a0 != 247) else false)) else (bif (bif (decide (a0 ≥ 913)) then (decide (a0 ≤ 969)) else false) then (some (a0 != 930)) else (some false))))))
def e69 : PureE := mkE d69 n69 (fun a1 => .one (.val (.bool a1)))
def g69 {σ : Type} : Nat → Option (SegE σ)
  | _ => none
theorem N69 : ∀ a, n69 a = bodyK (cfgOf Tryz.prog (tabs gl) tS0) (toldOf tS0) noY (inlN (cfgOf Tryz.prog (tabs gl) tS0) (toldOf tS0) noY) g69 69 Tryz.f69 (((fun a0 => [.val (.int .i64 a0)] : (Int) → List D) a).map .d) [] [] () (fun v _ _ _ => r69 v) := by
  intro a0
  kernel_rfl
noncomputable def t69 : Tab := (69, e69) :: tS0
theorem ok69 (hl : LibFits gl) : TabOk Tryz.prog gl t69 :=
  told_fn (okS0 hl) mixed oddOk Tryz.func69 (by kernel_rfl) (by kernel_rfl) (by kernel_rfl) (segs_no (by kernel_rfl))
    (args := fun a0 => [.val (.int .i64 a0)]) (res := r69)
    (fun ds a h => by
      unfold d69 at h
      split at h
      · cases h; rfl
      · cases h)
    (fun v r h => by
      unfold r69 at h
      split at h
      · rename_i hv; cases h; exact hv
      · cases h)
    N69
def d75 (ds : List D) : Option (Bool × Bool) := match ds with
  | [.val (.bool a0), .val (.bool a1)] => some (a0, a1)
  | _ => none
def r75 (v : AV) : Option (Int) := match toPR v with
  | some (.one (.val (.int .i64 a2))) => some a2
  | _ => none
def n75 : Bool × Bool → Option (Int) := fun (a0, a1) => (bif a0 then (some (-1)) else (bif a1 then (some 1) else (some 0)))
def e75 : PureE := mkE d75 n75 (fun a2 => .one (.val (.int .i64 a2)))
def g75 {σ : Type} : Nat → Option (SegE σ)
  | _ => none
theorem N75 : ∀ a, n75 a = bodyK (cfgOf Tryz.prog (tabs gl) tS0) (toldOf tS0) noY (inlN (cfgOf Tryz.prog (tabs gl) tS0) (toldOf tS0) noY) g75 75 Tryz.f75 (((fun (a0, a1) => [.val (.bool a0), .val (.bool a1)] : (Bool × Bool) → List D) a).map .d) [] [] () (fun v _ _ _ => r75 v) := by
  intro a
  obtain ⟨a0, a1⟩ := a
  kernel_rfl
noncomputable def t75 : Tab := (75, e75) :: tS0
theorem ok75 (hl : LibFits gl) : TabOk Tryz.prog gl t75 :=
  told_fn (okS0 hl) mixed oddOk Tryz.func75 (by kernel_rfl) (by kernel_rfl) (by kernel_rfl) (segs_no (by kernel_rfl))
    (args := fun (a0, a1) => [.val (.bool a0), .val (.bool a1)]) (res := r75)
    (fun ds a h => by
      unfold d75 at h
      split at h
      · cases h; rfl
      · cases h)
    (fun v r h => by
      unfold r75 at h
      split at h
      · rename_i hv; cases h; exact hv
      · cases h)
    N75
def d96 (ds : List D) : Option (Int) := match ds with
  | [.val (.int .i64 a0)] => some a0
  | _ => none
def r96 (v : AV) : Option (Bool) := match toPR v with
  | some (.one (.val (.bool a1))) => some a1
  | _ => none
def n96 : Int → Option (Bool) := fun a0 => (some (bif (decide (a0 ≥ (-1048576))) then (decide (a0 ≤ 1048576)) else false))
def e96 : PureE := mkE d96 n96 (fun a1 => .one (.val (.bool a1)))
def g96 {σ : Type} : Nat → Option (SegE σ)
  | _ => none
theorem N96 : ∀ a, n96 a = bodyK (cfgOf Tryz.prog (tabs gl) tS0) (toldOf tS0) noY (inlN (cfgOf Tryz.prog (tabs gl) tS0) (toldOf tS0) noY) g96 96 Tryz.f96 (((fun a0 => [.val (.int .i64 a0)] : (Int) → List D) a).map .d) [] [] () (fun v _ _ _ => r96 v) := by
  intro a0
  kernel_rfl
noncomputable def t96 : Tab := (96, e96) :: tS0
theorem ok96 (hl : LibFits gl) : TabOk Tryz.prog gl t96 :=
  told_fn (okS0 hl) mixed oddOk Tryz.func96 (by kernel_rfl) (by kernel_rfl) (by kernel_rfl) (segs_no (by kernel_rfl))
    (args := fun a0 => [.val (.int .i64 a0)]) (res := r96)
    (fun ds a h => by
      unfold d96 at h
      split at h
      · cases h; rfl
      · cases h)
    (fun v r h => by
      unfold r96 at h
      split at h
      · rename_i hv; cases h; exact hv
      · cases h)
    N96
def d100 (ds : List D) : Option (Unit) := match ds with
  | [] => some ()
  | _ => none
def r100 (v : AV) : Option (Int × Int × Int × Int × Int × Int × Int × Int × Int × Int × Int × Int × Int × Int × Int × Int) := match toPR v with
  | some (.one (.agg [.val (.int .i32 a0), .val (.int .i32 a1), .val (.int .i32 a2), .val (.int .i32 a3), .val (.int .i32 a4), .val (.int .i32 a5), .val (.int .i32 a6), .val (.int .i32 a7), .val (.int .i32 a8), .val (.int .i32 a9), .val (.int .i32 a10), .val (.int .i32 a11), .val (.int .i32 a12), .val (.int .i32 a13), .val (.int .i32 a14), .val (.int .i32 a15)])) => some (a0, a1, a2, a3, a4, a5, a6, a7, a8, a9, a10, a11, a12, a13, a14, a15)
  | _ => none
def n100 : Unit → Option (Int × Int × Int × Int × Int × Int × Int × Int × Int × Int × Int × Int × Int × Int × Int × Int) := fun () => (some (97, 122, 65, 90, 95, 95, 192, 214, 216, 246, 248, 591, 913, 929, 931, 969))
def e100 : PureE := mkE d100 n100 (fun (a0, a1, a2, a3, a4, a5, a6, a7, a8, a9, a10, a11, a12, a13, a14, a15) => .one (.agg [.val (.int .i32 a0), .val (.int .i32 a1), .val (.int .i32 a2), .val (.int .i32 a3), .val (.int .i32 a4), .val (.int .i32 a5), .val (.int .i32 a6), .val (.int .i32 a7), .val (.int .i32 a8), .val (.int .i32 a9), .val (.int .i32 a10), .val (.int .i32 a11), .val (.int .i32 a12), .val (.int .i32 a13), .val (.int .i32 a14), .val (.int .i32 a15)]))
def g100 {σ : Type} : Nat → Option (SegE σ)
  | _ => none
theorem N100 : ∀ a, n100 a = bodyK (cfgOf Tryz.prog (tabs gl) tS0) (toldOf tS0) noY (inlN (cfgOf Tryz.prog (tabs gl) tS0) (toldOf tS0) noY) g100 100 Tryz.f100 (((fun () => [] : (Unit) → List D) a).map .d) [] [] () (fun v _ _ _ => r100 v) := by
  intro a
  kernel_rfl
noncomputable def t100 : Tab := (100, e100) :: tS0
theorem ok100 (hl : LibFits gl) : TabOk Tryz.prog gl t100 :=
  told_fn (okS0 hl) mixed oddOk Tryz.func100 (by kernel_rfl) (by kernel_rfl) (by kernel_rfl) (segs_no (by kernel_rfl))
    (args := fun () => []) (res := r100)
    (fun ds a h => by
      unfold d100 at h
      split at h
      · cases h; rfl
      · cases h)
    (fun v r h => by
      unfold r100 at h
      split at h
      · rename_i hv; cases h; exact hv
      · cases h)
    N100
def d9 (ds : List D) : Option (Int) := match ds with
  | [.val (.int .i64 a0)] => some a0
  | _ => none
def r9 (v : AV) : Option (Int) := match toPR v with
  | some (.one (.val (.int .i64 a1))) => some a1
  | _ => none
def n9 : Int → Option (Int) := fun a0 => (some a0)
def e9 : PureE := mkE d9 n9 (fun a1 => .one (.val (.int .i64 a1)))
def g9 {σ : Type} : Nat → Option (SegE σ)
  | _ => none
theorem N9 : ∀ a, n9 a = bodyK (cfgOf Tryz.prog (tabs gl) tS0) (toldOf tS0) noY (inlN (cfgOf Tryz.prog (tabs gl) tS0) (toldOf tS0) noY) g9 9 Tryz.f9 (((fun a0 => [.val (.int .i64 a0)] : (Int) → List D) a).map .d) [] [] () (fun v _ _ _ => r9 v) := by
  intro a0
  kernel_rfl
noncomputable def t9 : Tab := (9, e9) :: tS0
theorem ok9 (hl : LibFits gl) : TabOk Tryz.prog gl t9 :=
  told_fn (okS0 hl) mixed oddOk Tryz.func9 (by kernel_rfl) (by kernel_rfl) (by kernel_rfl) (segs_no (by kernel_rfl))
    (args := fun a0 => [.val (.int .i64 a0)]) (res := r9)
    (fun ds a h => by
      unfold d9 at h
      split at h
      · cases h; rfl
      · cases h)
    (fun v r h => by
      unfold r9 at h
      split at h
      · rename_i hv; cases h; exact hv
      · cases h)
    N9
abbrev A36_0 := Int × Int × Int × Int × Int × Int × ByteArray × List D
inductive O36_0 where
  | x0 (o28 : Int) (o29 : Int) (o30 : Int) (o31 : Int) (o32 : Int) (o33 : ByteArray) (o34 : List D)
  | x1 (o35 : Int) (o36 : Int) (o37 : Int) (o38 : Int) (o39 : ByteArray) (o40 : List D)
def l36_0 : LoopS A36_0 O36_0 where
  n := 36
  ks := [1, 2, 3, 7]
  kso := [1, 6]
  m := 1
  mt := 0
  decV := fun vs bs ts => match vs, bs, ts with
    | [.d (.val (.int .i64 v8)), .d (.val (.int .i64 v9)), .ptr 0 0, .d (.val (.int .i64 v10))], [.cells none [.d (.val (.int .i64 v11)), .d (.val (.int .i64 v12)), .d (.val (.int .i64 v13)), .d (.val (.string v14)), .d (.slice v15)]], [] => some (v8, v9, v10, v11, v12, v13, v14, v15)
    | _, _, _ => none
  encV := fun (v8, v9, v10, v11, v12, v13, v14, v15) => [.d (.val (.int .i64 v8)), .d (.val (.int .i64 v9)), .ptr 0 0, .d (.val (.int .i64 v10))]
  encB := fun (v8, v9, v10, v11, v12, v13, v14, v15) => [.cells none [.d (.val (.int .i64 v11)), .d (.val (.int .i64 v12)), .d (.val (.int .i64 v13)), .d (.val (.string v14)), .d (.slice v15)]]
  tk := fun _ => []
  decO := fun ex vs bs ts => match ex, vs, bs, ts with
    | .ret, [.d (.val (.int .i64 o28)), .d (.val (.int .i64 o29))], [.cells none [.d (.val (.int .i64 o30)), .d (.val (.int .i64 o31)), .d (.val (.int .i64 o32)), .d (.val (.string o33)), .d (.slice o34)]], [] => some (.x0 o28 o29 o30 o31 o32 o33 o34)
    | .normal, [.d (.val (.int .i64 o35)), .undef], [.cells none [.d (.val (.int .i64 o36)), .d (.val (.int .i64 o37)), .d (.val (.int .i64 o38)), .d (.val (.string o39)), .d (.slice o40)]], [] => some (.x1 o35 o36 o37 o38 o39 o40)
    | _, _, _, _ => none
  exO := fun x => match x with
    | .x0 o28 o29 o30 o31 o32 o33 o34 => .ret
    | .x1 o35 o36 o37 o38 o39 o40 => .normal
  outV := fun x => match x with
    | .x0 o28 o29 o30 o31 o32 o33 o34 => [.d (.val (.int .i64 o28)), .d (.val (.int .i64 o29))]
    | .x1 o35 o36 o37 o38 o39 o40 => [.d (.val (.int .i64 o35)), .undef]
  outB := fun x => match x with
    | .x0 o28 o29 o30 o31 o32 o33 o34 => [.cells none [.d (.val (.int .i64 o30)), .d (.val (.int .i64 o31)), .d (.val (.int .i64 o32)), .d (.val (.string o33)), .d (.slice o34)]]
    | .x1 o35 o36 o37 o38 o39 o40 => [.cells none [.d (.val (.int .i64 o36)), .d (.val (.int .i64 o37)), .d (.val (.int .i64 o38)), .d (.val (.string o39)), .d (.slice o40)]]
  tkO := fun x => match x with
    | .x0 o28 o29 o30 o31 o32 o33 o34 => []
    | .x1 o35 o36 o37 o38 o39 o40 => []
  elim := fun x k => match x with
    | .x0 o28 o29 o30 o31 o32 o33 o34 => k .ret [.d (.val (.int .i64 o28)), .d (.val (.int .i64 o29))] [.cells none [.d (.val (.int .i64 o30)), .d (.val (.int .i64 o31)), .d (.val (.int .i64 o32)), .d (.val (.string o33)), .d (.slice o34)]] []
    | .x1 o35 o36 o37 o38 o39 o40 => k .normal [.d (.val (.int .i64 o35)), .undef] [.cells none [.d (.val (.int .i64 o36)), .d (.val (.int .i64 o37)), .d (.val (.int .i64 o38)), .d (.val (.string o39)), .d (.slice o40)]] []
theorem k36_0 : l36_0.Ok where
  ok1 := by kernel_rfl
  ok2 := by kernel_rfl
  dec := by
    intro vs bs ts a h
    simp only [l36_0] at h ⊢
    split at h
    · cases h; exact ⟨rfl, rfl⟩
    · cases h
  out := by
    intro ex vs bs ts o h
    simp only [l36_0] at h ⊢
    split at h
    · cases h; exact ⟨rfl, rfl, rfl⟩
    · cases h; exact ⟨rfl, rfl, rfl⟩
    · cases h
  len := fun _ => ⟨rfl, rfl⟩
  elim := fun β o k => by cases o <;> rfl
def L36_0 {σ : Type} (F : Int × Int × Int × ByteArray × List D × Int × Int → Option (Int)) : Nat → A36_0 → σ → Option (O36_0 × σ)
  | 0, _, _ => none
  | n+1, (v8, v9, v10, v11, v12, v13, v14, v15), s => (bif (decide (v10 < ((v15.length : Nat) : Int))) then ((lidx v15 v10).bind fun d16 => ask (d16.cells.length = 5) ((cellAt 0 d16).bind fun x17 => (asInt .i64 x17).bind fun x18 => ((cellAt 1 d16).bind fun x19 => (asInt .i64 x19).bind fun x20 => ((cellAt 2 d16).bind fun x21 => (asInt .i64 x21).bind fun x22 => ((cellAt 3 d16).bind fun x23 => (asStr x23).bind fun x24 => ((cellAt 4 d16).bind fun x25 => (asRow x25).bind fun x26 => ((F (x18, x20, x22, x24, x26, v8, (w64 (v9 + 1)))).bind fun y27 => (bif (decide (y27 > 4096)) then (some (O36_0.x0 y27 y27 v11 v12 v13 v14 v15, s)) else (L36_0 F n (y27, v9, (w64 (v10 + 1)), v11, v12, v13, v14, v15) s))))))))) else (some (O36_0.x1 v8 v11 v12 v13 v14 v15, s)))
def d36 (ds : List D) : Option (Int × Int × Int × ByteArray × List D × Int × Int) := match ds with
  | [.agg [.val (.int .i64 a0), .val (.int .i64 a1), .val (.int .i64 a2), .val (.string a3), .slice a4], .val (.int .i64 a5), .val (.int .i64 a6)] => some (a0, a1, a2, a3, a4, a5, a6)
  | _ => none
def r36 (v : AV) : Option (Int) := match toPR v with
  | some (.one (.val (.int .i64 a7))) => some a7
  | _ => none
def n36 : Nat → Int × Int × Int × ByteArray × List D × Int × Int → Option (Int)
  | 0, _ => none
  | k + 1, (a0, a1, a2, a3, a4, a5, a6) => (bif (bif (decide ((w64 (a5 + 1)) > 4096)) then true else (decide (a6 > 16))) then (some 4097) else ((L36_0 (n36 k) 1000000000000 ((w64 (a5 + 1)), a6, 0, a0, a1, a2, a3, a4) ()).bind fun p41 => match p41.1 with | .x0 z42 z43 z44 z45 z46 z47 z48 => (some z43) | .x1 z49 z50 z51 z52 z53 z54 => (some z49)))
def e36 : PureE := mkE d36 (n36 64) (fun a7 => .one (.val (.int .i64 a7)))
def g36 (k : Nat) {σ : Type} : Nat → Option (SegE σ)
  | 0 => some (l36_0.seg σ (L36_0 (n36 k) 1000000000000))
  | _ => none
theorem E36_0 {σ : Type} (k : Nat) (Y : Yd σ) : ∀ n a (s : σ), L36_0 (n36 k) (n + 1) a s = evK (cfgOf Tryz.prog (tabs gl) (((36, mkE d36 (n36 k) (fun a7 => .one (.val (.int .i64 a7)))) :: tS0) : Tab)) (toldOf (((36, mkE d36 (n36 k) (fun a7 => .one (.val (.int .i64 a7)))) :: tS0) : Tab)) Y (inlN (cfgOf Tryz.prog (tabs gl) (((36, mkE d36 (n36 k) (fun a7 => .one (.val (.int .i64 a7)))) :: tS0) : Tab)) (toldOf (((36, mkE d36 (n36 k) (fun a7 => .one (.val (.int .i64 a7)))) :: tS0) : Tab)) Y) (g36 k) 36 (loopAt Tryz.f36 0) ((l36_0.toT σ).enc a s) (fun ex st' => l36_0.next (cfgOf Tryz.prog (tabs gl) (((36, mkE d36 (n36 k) (fun a7 => .one (.val (.int .i64 a7)))) :: tS0) : Tab)) 36 0 (L36_0 (n36 k) n) ex st') := by
  intro n ⟨v8, v9, v10, v11, v12, v13, v14, v15⟩ s
  kernel_rfl
theorem Q36_0 {σ : Type} (hl : LibFits gl) (k : Nat) (hk : TabOk Tryz.prog gl (((36, mkE d36 (n36 k) (fun a7 => .one (.val (.int .i64 a7)))) :: tS0) : Tab)) (Y : Yd σ) (rnd : Bool) : SegOk (cfgOf Tryz.prog (tabs gl) (((36, mkE d36 (n36 k) (fun a7 => .one (.val (.int .i64 a7)))) :: tS0) : Tab)) (evFn (cfgOf Tryz.prog (tabs gl) (((36, mkE d36 (n36 k) (fun a7 => .one (.val (.int .i64 a7)))) :: tS0) : Tab)) 9) 36 rnd Y (l36_0.seg σ (L36_0 (n36 k) 1000000000000)) (.block 0 (.loop (loopAt Tryz.f36 0))) :=
  told_loop hk k36_0 (by kernel_rfl) (by kernel_rfl) (fun _ _ => rfl) (segs_no (by kernel_rfl)) (E36_0 k Y) (hr := by kernel_rfl)
theorem N36 : ∀ k a, n36 (k + 1) a = bodyK (cfgOf Tryz.prog (tabs gl) (((36, mkE d36 (n36 k) (fun a7 => .one (.val (.int .i64 a7)))) :: tS0) : Tab)) (toldOf (((36, mkE d36 (n36 k) (fun a7 => .one (.val (.int .i64 a7)))) :: tS0) : Tab)) noY (inlN (cfgOf Tryz.prog (tabs gl) (((36, mkE d36 (n36 k) (fun a7 => .one (.val (.int .i64 a7)))) :: tS0) : Tab)) (toldOf (((36, mkE d36 (n36 k) (fun a7 => .one (.val (.int .i64 a7)))) :: tS0) : Tab)) noY) (g36 k) 36 Tryz.f36 (((fun (a0, a1, a2, a3, a4, a5, a6) => [.agg [.val (.int .i64 a0), .val (.int .i64 a1), .val (.int .i64 a2), .val (.string a3), .slice a4], .val (.int .i64 a5), .val (.int .i64 a6)] : (Int × Int × Int × ByteArray × List D × Int × Int) → List D) a).map .d) [] [] () (fun v _ _ _ => r36 v) := by
  intro k a
  obtain ⟨a0, a1, a2, a3, a4, a5, a6⟩ := a
  kernel_rfl
noncomputable def t36 : Tab := (36, e36) :: tS0
theorem ok36 (hl : LibFits gl) : TabOk Tryz.prog gl t36 :=
  told_rec (t := tabs gl) (okS0 hl) mixed oddOk Tryz.func36 (by kernel_rfl) (nat := n36) (seg := fun k => g36 k) (by kernel_rfl) (fun k hk => (fun p hp e he => by
    have hq : segsOf (σ := Unit) (g36 k (σ := Unit)) (bodyOf Tryz.f36) = [(0, .loop (loopAt Tryz.f36 0))] := by kernel_rfl
    rw [hq] at hp
    simp only [List.mem_cons, List.not_mem_nil, or_false] at hp
    subst hp
    cases he
    exact Q36_0 hl k hk _ _))
    (args := fun (a0, a1, a2, a3, a4, a5, a6) => [.agg [.val (.int .i64 a0), .val (.int .i64 a1), .val (.int .i64 a2), .val (.string a3), .slice a4], .val (.int .i64 a5), .val (.int .i64 a6)]) (res := r36)
    (fun ds a h => by
      unfold d36 at h
      split at h
      · cases h; rfl
      · cases h)
    (fun v r h => by
      unfold r36 at h
      split at h
      · rename_i hv; cases h; exact hv
      · cases h)
    (fun _ => rfl) N36 64
abbrev A37_0 := List D × Int × Int × Int × Int × ByteArray × List D × Int × Int × Int × ByteArray × List D
inductive O37_0 where
  | x0 (o34 : List D) (o35 : Int) (o36 : Int) (o37 : Int) (o38 : ByteArray) (o39 : List D) (o40 : Int) (o41 : Int) (o42 : Int) (o43 : ByteArray) (o44 : List D)
def l37_0 : LoopS A37_0 O37_0 where
  n := 24
  ks := [1, 2, 3, 4]
  kso := [1, 2, 3]
  m := 2
  mt := 2
  decV := fun vs bs ts => match vs, bs, ts with
    | [.ptr 0 0, .ptr 1 0, .osl 0 v10, .d (.val (.int .i64 v11))], [.cells none [.d (.val (.int .i64 v12)), .d (.val (.int .i64 v13)), .d (.val (.int .i64 v14)), .d (.val (.string v15)), .d (.slice v16)], .cells (some 42) [.d (.val (.int .i64 v17)), .d (.val (.int .i64 v18)), .d (.val (.int .i64 v19)), .d (.val (.string v20)), .osl 1 v21]], [_, _] => some (v10, v11, v12, v13, v14, v15, v16, v17, v18, v19, v20, v21)
    | _, _, _ => none
  encV := fun (v10, v11, v12, v13, v14, v15, v16, v17, v18, v19, v20, v21) => [.ptr 0 0, .ptr 1 0, .osl 0 v10, .d (.val (.int .i64 v11))]
  encB := fun (v10, v11, v12, v13, v14, v15, v16, v17, v18, v19, v20, v21) => [.cells none [.d (.val (.int .i64 v12)), .d (.val (.int .i64 v13)), .d (.val (.int .i64 v14)), .d (.val (.string v15)), .d (.slice v16)], .cells (some 42) [.d (.val (.int .i64 v17)), .d (.val (.int .i64 v18)), .d (.val (.int .i64 v19)), .d (.val (.string v20)), .osl 1 v21]]
  tk := fun (v10, v11, v12, v13, v14, v15, v16, v17, v18, v19, v20, v21) => [v10.length, v21.length]
  decO := fun ex vs bs ts => match ex, vs, bs, ts with
    | .normal, [.ptr 0 0, .ptr 1 0, .osl 0 o34], [.cells none [.d (.val (.int .i64 o35)), .d (.val (.int .i64 o36)), .d (.val (.int .i64 o37)), .d (.val (.string o38)), .d (.slice o39)], .cells (some 42) [.d (.val (.int .i64 o40)), .d (.val (.int .i64 o41)), .d (.val (.int .i64 o42)), .d (.val (.string o43)), .osl 1 o44]], [_, _] => some (.x0 o34 o35 o36 o37 o38 o39 o40 o41 o42 o43 o44)
    | _, _, _, _ => none
  exO := fun x => match x with
    | .x0 o34 o35 o36 o37 o38 o39 o40 o41 o42 o43 o44 => .normal
  outV := fun x => match x with
    | .x0 o34 o35 o36 o37 o38 o39 o40 o41 o42 o43 o44 => [.ptr 0 0, .ptr 1 0, .osl 0 o34]
  outB := fun x => match x with
    | .x0 o34 o35 o36 o37 o38 o39 o40 o41 o42 o43 o44 => [.cells none [.d (.val (.int .i64 o35)), .d (.val (.int .i64 o36)), .d (.val (.int .i64 o37)), .d (.val (.string o38)), .d (.slice o39)], .cells (some 42) [.d (.val (.int .i64 o40)), .d (.val (.int .i64 o41)), .d (.val (.int .i64 o42)), .d (.val (.string o43)), .osl 1 o44]]
  tkO := fun x => match x with
    | .x0 o34 o35 o36 o37 o38 o39 o40 o41 o42 o43 o44 => [o34.length, o44.length]
  elim := fun x k => match x with
    | .x0 o34 o35 o36 o37 o38 o39 o40 o41 o42 o43 o44 => k .normal [.ptr 0 0, .ptr 1 0, .osl 0 o34] [.cells none [.d (.val (.int .i64 o35)), .d (.val (.int .i64 o36)), .d (.val (.int .i64 o37)), .d (.val (.string o38)), .d (.slice o39)], .cells (some 42) [.d (.val (.int .i64 o40)), .d (.val (.int .i64 o41)), .d (.val (.int .i64 o42)), .d (.val (.string o43)), .osl 1 o44]] [o34.length, o44.length]
theorem k37_0 : l37_0.Ok where
  ok1 := by kernel_rfl
  ok2 := by kernel_rfl
  dec := by
    intro vs bs ts a h
    simp only [l37_0] at h ⊢
    split at h
    · cases h; exact ⟨rfl, rfl⟩
    · cases h
  out := by
    intro ex vs bs ts o h
    simp only [l37_0] at h ⊢
    split at h
    · cases h; exact ⟨rfl, rfl, rfl⟩
    · cases h
  len := fun _ => ⟨rfl, rfl⟩
  elim := fun β o k => by cases o <;> rfl
def L37_0 {σ : Type} (F : Int × Int × Int × ByteArray × List D → Option (Int × Int × Int × ByteArray × List D)) : Nat → A37_0 → σ → Option (O37_0 × σ)
  | 0, _, _ => none
  | n+1, (v10, v11, v12, v13, v14, v15, v16, v17, v18, v19, v20, v21), s => (bif (decide (v11 < ((v16.length : Nat) : Int))) then ((lidx v16 v11).bind fun d22 => ask (d22.cells.length = 5) ((cellAt 0 d22).bind fun x23 => (asInt .i64 x23).bind fun x24 => ((cellAt 1 d22).bind fun x25 => (asInt .i64 x25).bind fun x26 => ((cellAt 2 d22).bind fun x27 => (asInt .i64 x27).bind fun x28 => ((cellAt 3 d22).bind fun x29 => (asStr x29).bind fun x30 => ((cellAt 4 d22).bind fun x31 => (asRow x31).bind fun x32 => ((F (x24, x26, x28, x30, x32)).bind fun y33 => (ask (addOk v10.length v10 ([.agg [.val (.int .i64 y33.1), .val (.int .i64 y33.2.1), .val (.int .i64 y33.2.2.1), .val (.string y33.2.2.2.1), .slice y33.2.2.2.2]] : List D) 5 64) (ask (([(v10.length + ([.agg [.val (.int .i64 y33.1), .val (.int .i64 y33.2.1), .val (.int .i64 y33.2.2.1), .val (.string y33.2.2.2.1), .slice y33.2.2.2.2]] : List D).length), v21.length] : List Nat) = [(v10 ++ ([.agg [.val (.int .i64 y33.1), .val (.int .i64 y33.2.1), .val (.int .i64 y33.2.2.1), .val (.string y33.2.2.2.1), .slice y33.2.2.2.2]] : List D)).length, v21.length]) (L37_0 F n ((v10 ++ ([.agg [.val (.int .i64 y33.1), .val (.int .i64 y33.2.1), .val (.int .i64 y33.2.2.1), .val (.string y33.2.2.2.1), .slice y33.2.2.2.2]] : List D)), (w64 (v11 + 1)), v12, v13, v14, v15, v16, v17, v18, v19, v20, v21) s)))))))))) else (ask (([v10.length, v21.length] : List Nat) = [v10.length, v21.length]) (some (O37_0.x0 v10 v12 v13 v14 v15 v16 v17 v18 v19 v20 v21, s))))
def d37 (ds : List D) : Option (Int × Int × Int × ByteArray × List D) := match ds with
  | [.agg [.val (.int .i64 a0), .val (.int .i64 a1), .val (.int .i64 a2), .val (.string a3), .slice a4]] => some (a0, a1, a2, a3, a4)
  | _ => none
def r37 (v : AV) : Option (Int × Int × Int × ByteArray × List D) := match toPR v with
  | some (.one (.agg [.val (.int .i64 a5), .val (.int .i64 a6), .val (.int .i64 a7), .val (.string a8), .slice a9])) => some (a5, a6, a7, a8, a9)
  | _ => none
def n37 : Nat → Int × Int × Int × ByteArray × List D → Option (Int × Int × Int × ByteArray × List D)
  | 0, _ => none
  | k + 1, (a0, a1, a2, a3, a4) => (ask (([0, 0] : List Nat) = [([] : List D).length, ([] : List D).length]) ((L37_0 (n37 k) 1000000000000 (([] : List D), 0, a0, a1, a2, a3, a4, 0, 0, 0, (⟨#[]⟩ : ByteArray), ([] : List D)) ()).bind fun p45 => match p45.1 with | .x0 z46 z47 z48 z49 z50 z51 z52 z53 z54 z55 z56 => (some (z47, z48, z49, z50, z46))))
def e37 : PureE := mkE d37 (n37 64) (fun (a5, a6, a7, a8, a9) => .one (.agg [.val (.int .i64 a5), .val (.int .i64 a6), .val (.int .i64 a7), .val (.string a8), .slice a9]))
def g37 (k : Nat) {σ : Type} : Nat → Option (SegE σ)
  | 0 => some (l37_0.seg σ (L37_0 (n37 k) 1000000000000))
  | _ => none
theorem E37_0 {σ : Type} (k : Nat) (Y : Yd σ) : ∀ n a (s : σ), L37_0 (n37 k) (n + 1) a s = evK (cfgOf Tryz.prog (tabs gl) (((37, mkE d37 (n37 k) (fun (a5, a6, a7, a8, a9) => .one (.agg [.val (.int .i64 a5), .val (.int .i64 a6), .val (.int .i64 a7), .val (.string a8), .slice a9]))) :: tS0) : Tab)) (toldOf (((37, mkE d37 (n37 k) (fun (a5, a6, a7, a8, a9) => .one (.agg [.val (.int .i64 a5), .val (.int .i64 a6), .val (.int .i64 a7), .val (.string a8), .slice a9]))) :: tS0) : Tab)) Y (inlN (cfgOf Tryz.prog (tabs gl) (((37, mkE d37 (n37 k) (fun (a5, a6, a7, a8, a9) => .one (.agg [.val (.int .i64 a5), .val (.int .i64 a6), .val (.int .i64 a7), .val (.string a8), .slice a9]))) :: tS0) : Tab)) (toldOf (((37, mkE d37 (n37 k) (fun (a5, a6, a7, a8, a9) => .one (.agg [.val (.int .i64 a5), .val (.int .i64 a6), .val (.int .i64 a7), .val (.string a8), .slice a9]))) :: tS0) : Tab)) Y) (g37 k) 37 (loopAt Tryz.f37 0) ((l37_0.toT σ).enc a s) (fun ex st' => l37_0.next (cfgOf Tryz.prog (tabs gl) (((37, mkE d37 (n37 k) (fun (a5, a6, a7, a8, a9) => .one (.agg [.val (.int .i64 a5), .val (.int .i64 a6), .val (.int .i64 a7), .val (.string a8), .slice a9]))) :: tS0) : Tab)) 37 0 (L37_0 (n37 k) n) ex st') := by
  intro n ⟨v10, v11, v12, v13, v14, v15, v16, v17, v18, v19, v20, v21⟩ s
  kernel_rfl
theorem Q37_0 {σ : Type} (hl : LibFits gl) (k : Nat) (hk : TabOk Tryz.prog gl (((37, mkE d37 (n37 k) (fun (a5, a6, a7, a8, a9) => .one (.agg [.val (.int .i64 a5), .val (.int .i64 a6), .val (.int .i64 a7), .val (.string a8), .slice a9]))) :: tS0) : Tab)) (Y : Yd σ) (rnd : Bool) : SegOk (cfgOf Tryz.prog (tabs gl) (((37, mkE d37 (n37 k) (fun (a5, a6, a7, a8, a9) => .one (.agg [.val (.int .i64 a5), .val (.int .i64 a6), .val (.int .i64 a7), .val (.string a8), .slice a9]))) :: tS0) : Tab)) (evFn (cfgOf Tryz.prog (tabs gl) (((37, mkE d37 (n37 k) (fun (a5, a6, a7, a8, a9) => .one (.agg [.val (.int .i64 a5), .val (.int .i64 a6), .val (.int .i64 a7), .val (.string a8), .slice a9]))) :: tS0) : Tab)) 9) 37 rnd Y (l37_0.seg σ (L37_0 (n37 k) 1000000000000)) (.block 0 (.loop (loopAt Tryz.f37 0))) :=
  told_loop hk k37_0 (by kernel_rfl) (by kernel_rfl) (fun _ _ => rfl) (segs_no (by kernel_rfl)) (E37_0 k Y) (hr := by kernel_rfl)
theorem N37 : ∀ k a, n37 (k + 1) a = bodyK (cfgOf Tryz.prog (tabs gl) (((37, mkE d37 (n37 k) (fun (a5, a6, a7, a8, a9) => .one (.agg [.val (.int .i64 a5), .val (.int .i64 a6), .val (.int .i64 a7), .val (.string a8), .slice a9]))) :: tS0) : Tab)) (toldOf (((37, mkE d37 (n37 k) (fun (a5, a6, a7, a8, a9) => .one (.agg [.val (.int .i64 a5), .val (.int .i64 a6), .val (.int .i64 a7), .val (.string a8), .slice a9]))) :: tS0) : Tab)) noY (inlN (cfgOf Tryz.prog (tabs gl) (((37, mkE d37 (n37 k) (fun (a5, a6, a7, a8, a9) => .one (.agg [.val (.int .i64 a5), .val (.int .i64 a6), .val (.int .i64 a7), .val (.string a8), .slice a9]))) :: tS0) : Tab)) (toldOf (((37, mkE d37 (n37 k) (fun (a5, a6, a7, a8, a9) => .one (.agg [.val (.int .i64 a5), .val (.int .i64 a6), .val (.int .i64 a7), .val (.string a8), .slice a9]))) :: tS0) : Tab)) noY) (g37 k) 37 Tryz.f37 (((fun (a0, a1, a2, a3, a4) => [.agg [.val (.int .i64 a0), .val (.int .i64 a1), .val (.int .i64 a2), .val (.string a3), .slice a4]] : (Int × Int × Int × ByteArray × List D) → List D) a).map .d) [] [] () (fun v _ _ _ => r37 v) := by
  intro k a
  obtain ⟨a0, a1, a2, a3, a4⟩ := a
  kernel_rfl
noncomputable def t37 : Tab := (37, e37) :: tS0
theorem ok37 (hl : LibFits gl) : TabOk Tryz.prog gl t37 :=
  told_rec (t := tabs gl) (okS0 hl) mixed oddOk Tryz.func37 (by kernel_rfl) (nat := n37) (seg := fun k => g37 k) (by kernel_rfl) (fun k hk => (fun p hp e he => by
    have hq : segsOf (σ := Unit) (g37 k (σ := Unit)) (bodyOf Tryz.f37) = [(0, .loop (loopAt Tryz.f37 0))] := by kernel_rfl
    rw [hq] at hp
    simp only [List.mem_cons, List.not_mem_nil, or_false] at hp
    subst hp
    cases he
    exact Q37_0 hl k hk _ _))
    (args := fun (a0, a1, a2, a3, a4) => [.agg [.val (.int .i64 a0), .val (.int .i64 a1), .val (.int .i64 a2), .val (.string a3), .slice a4]]) (res := r37)
    (fun ds a h => by
      unfold d37 at h
      split at h
      · cases h; rfl
      · cases h)
    (fun v r h => by
      unfold r37 at h
      split at h
      · rename_i hv; cases h; exact hv
      · cases h)
    (fun _ => rfl) N37 64
noncomputable def tabsS1 (gl : Nat → Option (List D)) : Tabs := { tabs gl with odd := fun g => bif Nat.beq g 95 then some (methE 95 dM95 (n95 64) (fun _ => vM95) (fun _ => cM95) (fun _ => kM95)) else ((tabs gl).odd g) }
theorem oddOkS1 (hl : LibFits gl) : OddSound Tryz.prog gl (tabsS1 gl).odd := OddSound.join (om95 hl 64) (oddOk)
noncomputable def tS1 : Tab := (98, e98) :: (72, e72) :: (73, e73) :: (115, e115) :: (69, e69) :: (75, e75) :: (96, e96) :: (100, e100) :: (9, e9) :: (36, e36) :: (37, e37) :: tS0
theorem okS1 (hl : LibFits gl) : TabOk Tryz.prog gl tS1 :=
  TabOk.cons (TabOk.cons (TabOk.cons (TabOk.cons (TabOk.cons (TabOk.cons (TabOk.cons (TabOk.cons (TabOk.cons (TabOk.cons (TabOk.cons (okS0 hl) ((ok37 hl).fair (37, e37) (List.mem_cons_self (l := tS0))) ((ok37 hl).spec (37, e37) (List.mem_cons_self (l := tS0)))) ((ok36 hl).fair (36, e36) (List.mem_cons_self (l := tS0))) ((ok36 hl).spec (36, e36) (List.mem_cons_self (l := tS0)))) ((ok9 hl).fair (9, e9) (List.mem_cons_self (l := tS0))) ((ok9 hl).spec (9, e9) (List.mem_cons_self (l := tS0)))) ((ok100 hl).fair (100, e100) (List.mem_cons_self (l := tS0))) ((ok100 hl).spec (100, e100) (List.mem_cons_self (l := tS0)))) ((ok96 hl).fair (96, e96) (List.mem_cons_self (l := tS0))) ((ok96 hl).spec (96, e96) (List.mem_cons_self (l := tS0)))) ((ok75 hl).fair (75, e75) (List.mem_cons_self (l := tS0))) ((ok75 hl).spec (75, e75) (List.mem_cons_self (l := tS0)))) ((ok69 hl).fair (69, e69) (List.mem_cons_self (l := tS0))) ((ok69 hl).spec (69, e69) (List.mem_cons_self (l := tS0)))) ((ok115 hl).fair (115, e115) (List.mem_cons_self (l := tS0))) ((ok115 hl).spec (115, e115) (List.mem_cons_self (l := tS0)))) ((ok73 hl).fair (73, e73) (List.mem_cons_self (l := tS0))) ((ok73 hl).spec (73, e73) (List.mem_cons_self (l := tS0)))) ((ok72 hl).fair (72, e72) (List.mem_cons_self (l := tS0))) ((ok72 hl).spec (72, e72) (List.mem_cons_self (l := tS0)))) ((ok98 hl).fair (98, e98) (List.mem_cons_self (l := tS0))) ((ok98 hl).spec (98, e98) (List.mem_cons_self (l := tS0)))
def d61 (ds : List D) : Option (Int × Int × Int × ByteArray × List D) := match ds with
  | [.agg [.val (.int .i64 a0), .val (.int .i64 a1), .val (.int .i64 a2), .val (.string a3), .slice a4]] => some (a0, a1, a2, a3, a4)
  | _ => none
def r61 (v : AV) : Option (Bool) := match toPR v with
  | some (.one (.val (.bool a5))) => some a5
  | _ => none
def n61 : Int × Int × Int × ByteArray × List D → Option (Bool) := fun (a0, a1, a2, a3, a4) => ((n95 64 (0, a0, a1, a2, a3, a4, 1)).bind fun y6 => (some (bif (decide (y6.1 ≤ 16)) then (decide (y6.2 ≤ 4096)) else false)))
def e61 : PureE := mkE d61 n61 (fun a5 => .one (.val (.bool a5)))
def g61 {σ : Type} : Nat → Option (SegE σ)
  | _ => none
theorem N61 : ∀ a, n61 a = bodyK (cfgOf Tryz.prog (tabsS1 gl) tS1) (toldOf tS1) noY (inlN (cfgOf Tryz.prog (tabsS1 gl) tS1) (toldOf tS1) noY) g61 61 Tryz.f61 (((fun (a0, a1, a2, a3, a4) => [.agg [.val (.int .i64 a0), .val (.int .i64 a1), .val (.int .i64 a2), .val (.string a3), .slice a4]] : (Int × Int × Int × ByteArray × List D) → List D) a).map .d) [] [] () (fun v _ _ _ => r61 v) := by
  intro a
  obtain ⟨a0, a1, a2, a3, a4⟩ := a
  kernel_rfl
noncomputable def t61 : Tab := (61, e61) :: tS1
theorem ok61 (hl : LibFits gl) : TabOk Tryz.prog gl t61 :=
  told_fn (okS1 hl) mixed (oddOkS1 hl) Tryz.func61 (by kernel_rfl) (by kernel_rfl) (by kernel_rfl) (segs_no (by kernel_rfl))
    (args := fun (a0, a1, a2, a3, a4) => [.agg [.val (.int .i64 a0), .val (.int .i64 a1), .val (.int .i64 a2), .val (.string a3), .slice a4]]) (res := r61)
    (fun ds a h => by
      unfold d61 at h
      split at h
      · cases h; rfl
      · cases h)
    (fun v r h => by
      unfold r61 at h
      split at h
      · rename_i hv; cases h; exact hv
      · cases h)
    N61
abbrev A63_0 := List D × Int × Int × Int × Int × Int × ByteArray × List D × Int × Int × Int × ByteArray × List D
inductive O63_0 where
  | x0 (o32 : Int) (o33 : Int) (o34 : Int) (o35 : Int) (o36 : ByteArray) (o37 : List D) (o38 : Int) (o39 : Int) (o40 : Int) (o41 : ByteArray) (o42 : List D) (q43 : Nat)
  | x1 (o44 : Int) (o45 : Int) (o46 : Int) (o47 : ByteArray) (o48 : List D) (o49 : Int) (o50 : Int) (o51 : Int) (o52 : ByteArray) (o53 : List D) (q54 : Nat)
def l63_0 : LoopS A63_0 O63_0 where
  n := 92
  ks := [2, 3, 63, 64, 65]
  kso := [2, 3, 4]
  m := 2
  mt := 1
  decV := fun vs bs ts => match vs, bs, ts with
    | [.ptr 0 0, .ptr 1 0, .osl 0 v16, .d (.val (.int .i64 v17)), .d (.val (.int .i64 v18))], [.cells none [.d (.val (.int .i64 v19)), .d (.val (.int .i64 v20)), .d (.val (.int .i64 v21)), .d (.val (.string v22)), .d (.slice v23)], .cells none [.d (.val (.int .i64 v24)), .d (.val (.int .i64 v25)), .d (.val (.int .i64 v26)), .d (.val (.string v27)), .d (.slice v28)]], [_] => some (v16, v17, v18, v19, v20, v21, v22, v23, v24, v25, v26, v27, v28)
    | _, _, _ => none
  encV := fun (v16, v17, v18, v19, v20, v21, v22, v23, v24, v25, v26, v27, v28) => [.ptr 0 0, .ptr 1 0, .osl 0 v16, .d (.val (.int .i64 v17)), .d (.val (.int .i64 v18))]
  encB := fun (v16, v17, v18, v19, v20, v21, v22, v23, v24, v25, v26, v27, v28) => [.cells none [.d (.val (.int .i64 v19)), .d (.val (.int .i64 v20)), .d (.val (.int .i64 v21)), .d (.val (.string v22)), .d (.slice v23)], .cells none [.d (.val (.int .i64 v24)), .d (.val (.int .i64 v25)), .d (.val (.int .i64 v26)), .d (.val (.string v27)), .d (.slice v28)]]
  tk := fun (v16, v17, v18, v19, v20, v21, v22, v23, v24, v25, v26, v27, v28) => [v16.length]
  decO := fun ex vs bs ts => match ex, vs, bs, ts with
    | .ret, [.undef, .undef, .d (.val (.int .i64 o32))], [.cells none [.d (.val (.int .i64 o33)), .d (.val (.int .i64 o34)), .d (.val (.int .i64 o35)), .d (.val (.string o36)), .d (.slice o37)], .cells none [.d (.val (.int .i64 o38)), .d (.val (.int .i64 o39)), .d (.val (.int .i64 o40)), .d (.val (.string o41)), .d (.slice o42)]], [q43] => some (.x0 o32 o33 o34 o35 o36 o37 o38 o39 o40 o41 o42 q43)
    | .normal, [.ptr 0 0, .ptr 1 0, .undef], [.cells none [.d (.val (.int .i64 o44)), .d (.val (.int .i64 o45)), .d (.val (.int .i64 o46)), .d (.val (.string o47)), .d (.slice o48)], .cells none [.d (.val (.int .i64 o49)), .d (.val (.int .i64 o50)), .d (.val (.int .i64 o51)), .d (.val (.string o52)), .d (.slice o53)]], [q54] => some (.x1 o44 o45 o46 o47 o48 o49 o50 o51 o52 o53 q54)
    | _, _, _, _ => none
  exO := fun x => match x with
    | .x0 o32 o33 o34 o35 o36 o37 o38 o39 o40 o41 o42 q43 => .ret
    | .x1 o44 o45 o46 o47 o48 o49 o50 o51 o52 o53 q54 => .normal
  outV := fun x => match x with
    | .x0 o32 o33 o34 o35 o36 o37 o38 o39 o40 o41 o42 q43 => [.undef, .undef, .d (.val (.int .i64 o32))]
    | .x1 o44 o45 o46 o47 o48 o49 o50 o51 o52 o53 q54 => [.ptr 0 0, .ptr 1 0, .undef]
  outB := fun x => match x with
    | .x0 o32 o33 o34 o35 o36 o37 o38 o39 o40 o41 o42 q43 => [.cells none [.d (.val (.int .i64 o33)), .d (.val (.int .i64 o34)), .d (.val (.int .i64 o35)), .d (.val (.string o36)), .d (.slice o37)], .cells none [.d (.val (.int .i64 o38)), .d (.val (.int .i64 o39)), .d (.val (.int .i64 o40)), .d (.val (.string o41)), .d (.slice o42)]]
    | .x1 o44 o45 o46 o47 o48 o49 o50 o51 o52 o53 q54 => [.cells none [.d (.val (.int .i64 o44)), .d (.val (.int .i64 o45)), .d (.val (.int .i64 o46)), .d (.val (.string o47)), .d (.slice o48)], .cells none [.d (.val (.int .i64 o49)), .d (.val (.int .i64 o50)), .d (.val (.int .i64 o51)), .d (.val (.string o52)), .d (.slice o53)]]
  tkO := fun x => match x with
    | .x0 o32 o33 o34 o35 o36 o37 o38 o39 o40 o41 o42 q43 => [q43]
    | .x1 o44 o45 o46 o47 o48 o49 o50 o51 o52 o53 q54 => [q54]
  elim := fun x k => match x with
    | .x0 o32 o33 o34 o35 o36 o37 o38 o39 o40 o41 o42 q43 => k .ret [.undef, .undef, .d (.val (.int .i64 o32))] [.cells none [.d (.val (.int .i64 o33)), .d (.val (.int .i64 o34)), .d (.val (.int .i64 o35)), .d (.val (.string o36)), .d (.slice o37)], .cells none [.d (.val (.int .i64 o38)), .d (.val (.int .i64 o39)), .d (.val (.int .i64 o40)), .d (.val (.string o41)), .d (.slice o42)]] [q43]
    | .x1 o44 o45 o46 o47 o48 o49 o50 o51 o52 o53 q54 => k .normal [.ptr 0 0, .ptr 1 0, .undef] [.cells none [.d (.val (.int .i64 o44)), .d (.val (.int .i64 o45)), .d (.val (.int .i64 o46)), .d (.val (.string o47)), .d (.slice o48)], .cells none [.d (.val (.int .i64 o49)), .d (.val (.int .i64 o50)), .d (.val (.int .i64 o51)), .d (.val (.string o52)), .d (.slice o53)]] [q54]
theorem k63_0 : l63_0.Ok where
  ok1 := by kernel_rfl
  ok2 := by kernel_rfl
  dec := by
    intro vs bs ts a h
    simp only [l63_0] at h ⊢
    split at h
    · cases h; exact ⟨rfl, rfl⟩
    · cases h
  out := by
    intro ex vs bs ts o h
    simp only [l63_0] at h ⊢
    split at h
    · cases h; exact ⟨rfl, rfl, rfl⟩
    · cases h; exact ⟨rfl, rfl, rfl⟩
    · cases h
  len := fun _ => ⟨rfl, rfl⟩
  elim := fun β o k => by cases o <;> rfl
def L63_0 {σ : Type} (F : Int × Int × Int × ByteArray × List D × Int × Int × Int × ByteArray × List D → Option (Int)) : Nat → A63_0 → σ → Option (O63_0 × σ)
  | 0, _, _ => none
  | n+1, (v16, v17, v18, v19, v20, v21, v22, v23, v24, v25, v26, v27, v28), s => (bif (decide (v18 < v17)) then ((lidx v16 v18).bind fun d29 => ask (d29.cells.length = 1) ((cellAt 0 d29).bind fun x30 => (asInt .i64 x30).bind fun x31 => (bif (x31 != 0) then (ask (([v16.length] : List Nat) = [v16.length]) (some (O63_0.x0 x31 v19 v20 v21 v22 v23 v24 v25 v26 v27 v28 v16.length, s))) else (ask (([v16.length] : List Nat) = [v16.length]) (L63_0 F n (v16, v17, (w64 (v18 + 1)), v19, v20, v21, v22, v23, v24, v25, v26, v27, v28) s))))) else (ask (([v16.length] : List Nat) = [v16.length]) (some (O63_0.x1 v19 v20 v21 v22 v23 v24 v25 v26 v27 v28 v16.length, s))))
abbrev A63_2 := List D × Int × Int × Int × Int × Int × ByteArray × List D × Int × Int × Int × ByteArray × List D × Nat
inductive O63_2 where
  | x0 (o116 : Int) (o117 : Int) (o118 : Int) (o119 : Int) (o120 : ByteArray) (o121 : List D) (o122 : Int) (o123 : Int) (o124 : Int) (o125 : ByteArray) (o126 : List D) (q127 : Nat)
  | x1 (o128 : Int) (o129 : Int) (o130 : Int) (o131 : ByteArray) (o132 : List D) (o133 : Int) (o134 : Int) (o135 : Int) (o136 : ByteArray) (o137 : List D) (q138 : Nat)
def l63_2 : LoopS A63_2 O63_2 where
  n := 92
  ks := [3, 74, 75, 76]
  kso := [4]
  m := 2
  mt := 1
  decV := fun vs bs ts => match vs, bs, ts with
    | [.ptr 1 0, .d (.slice v79), .d (.val (.int .i64 v80)), .d (.val (.int .i64 v81))], [.cells none [.d (.val (.int .i64 v82)), .d (.val (.int .i64 v83)), .d (.val (.int .i64 v84)), .d (.val (.string v85)), .d (.slice v86)], .cells none [.d (.val (.int .i64 v87)), .d (.val (.int .i64 v88)), .d (.val (.int .i64 v89)), .d (.val (.string v90)), .d (.slice v91)]], [k92] => some (v79, v80, v81, v82, v83, v84, v85, v86, v87, v88, v89, v90, v91, k92)
    | _, _, _ => none
  encV := fun (v79, v80, v81, v82, v83, v84, v85, v86, v87, v88, v89, v90, v91, k92) => [.ptr 1 0, .d (.slice v79), .d (.val (.int .i64 v80)), .d (.val (.int .i64 v81))]
  encB := fun (v79, v80, v81, v82, v83, v84, v85, v86, v87, v88, v89, v90, v91, k92) => [.cells none [.d (.val (.int .i64 v82)), .d (.val (.int .i64 v83)), .d (.val (.int .i64 v84)), .d (.val (.string v85)), .d (.slice v86)], .cells none [.d (.val (.int .i64 v87)), .d (.val (.int .i64 v88)), .d (.val (.int .i64 v89)), .d (.val (.string v90)), .d (.slice v91)]]
  tk := fun (v79, v80, v81, v82, v83, v84, v85, v86, v87, v88, v89, v90, v91, k92) => [k92]
  decO := fun ex vs bs ts => match ex, vs, bs, ts with
    | .ret, [.d (.val (.int .i64 o116))], [.cells none [.d (.val (.int .i64 o117)), .d (.val (.int .i64 o118)), .d (.val (.int .i64 o119)), .d (.val (.string o120)), .d (.slice o121)], .cells none [.d (.val (.int .i64 o122)), .d (.val (.int .i64 o123)), .d (.val (.int .i64 o124)), .d (.val (.string o125)), .d (.slice o126)]], [q127] => some (.x0 o116 o117 o118 o119 o120 o121 o122 o123 o124 o125 o126 q127)
    | .normal, [.undef], [.cells none [.d (.val (.int .i64 o128)), .d (.val (.int .i64 o129)), .d (.val (.int .i64 o130)), .d (.val (.string o131)), .d (.slice o132)], .cells none [.d (.val (.int .i64 o133)), .d (.val (.int .i64 o134)), .d (.val (.int .i64 o135)), .d (.val (.string o136)), .d (.slice o137)]], [q138] => some (.x1 o128 o129 o130 o131 o132 o133 o134 o135 o136 o137 q138)
    | _, _, _, _ => none
  exO := fun x => match x with
    | .x0 o116 o117 o118 o119 o120 o121 o122 o123 o124 o125 o126 q127 => .ret
    | .x1 o128 o129 o130 o131 o132 o133 o134 o135 o136 o137 q138 => .normal
  outV := fun x => match x with
    | .x0 o116 o117 o118 o119 o120 o121 o122 o123 o124 o125 o126 q127 => [.d (.val (.int .i64 o116))]
    | .x1 o128 o129 o130 o131 o132 o133 o134 o135 o136 o137 q138 => [.undef]
  outB := fun x => match x with
    | .x0 o116 o117 o118 o119 o120 o121 o122 o123 o124 o125 o126 q127 => [.cells none [.d (.val (.int .i64 o117)), .d (.val (.int .i64 o118)), .d (.val (.int .i64 o119)), .d (.val (.string o120)), .d (.slice o121)], .cells none [.d (.val (.int .i64 o122)), .d (.val (.int .i64 o123)), .d (.val (.int .i64 o124)), .d (.val (.string o125)), .d (.slice o126)]]
    | .x1 o128 o129 o130 o131 o132 o133 o134 o135 o136 o137 q138 => [.cells none [.d (.val (.int .i64 o128)), .d (.val (.int .i64 o129)), .d (.val (.int .i64 o130)), .d (.val (.string o131)), .d (.slice o132)], .cells none [.d (.val (.int .i64 o133)), .d (.val (.int .i64 o134)), .d (.val (.int .i64 o135)), .d (.val (.string o136)), .d (.slice o137)]]
  tkO := fun x => match x with
    | .x0 o116 o117 o118 o119 o120 o121 o122 o123 o124 o125 o126 q127 => [q127]
    | .x1 o128 o129 o130 o131 o132 o133 o134 o135 o136 o137 q138 => [q138]
  elim := fun x k => match x with
    | .x0 o116 o117 o118 o119 o120 o121 o122 o123 o124 o125 o126 q127 => k .ret [.d (.val (.int .i64 o116))] [.cells none [.d (.val (.int .i64 o117)), .d (.val (.int .i64 o118)), .d (.val (.int .i64 o119)), .d (.val (.string o120)), .d (.slice o121)], .cells none [.d (.val (.int .i64 o122)), .d (.val (.int .i64 o123)), .d (.val (.int .i64 o124)), .d (.val (.string o125)), .d (.slice o126)]] [q127]
    | .x1 o128 o129 o130 o131 o132 o133 o134 o135 o136 o137 q138 => k .normal [.undef] [.cells none [.d (.val (.int .i64 o128)), .d (.val (.int .i64 o129)), .d (.val (.int .i64 o130)), .d (.val (.string o131)), .d (.slice o132)], .cells none [.d (.val (.int .i64 o133)), .d (.val (.int .i64 o134)), .d (.val (.int .i64 o135)), .d (.val (.string o136)), .d (.slice o137)]] [q138]
theorem k63_2 : l63_2.Ok where
  ok1 := by kernel_rfl
  ok2 := by kernel_rfl
  dec := by
    intro vs bs ts a h
    simp only [l63_2] at h ⊢
    split at h
    · cases h; exact ⟨rfl, rfl⟩
    · cases h
  out := by
    intro ex vs bs ts o h
    simp only [l63_2] at h ⊢
    split at h
    · cases h; exact ⟨rfl, rfl, rfl⟩
    · cases h; exact ⟨rfl, rfl, rfl⟩
    · cases h
  len := fun _ => ⟨rfl, rfl⟩
  elim := fun β o k => by cases o <;> rfl
def L63_2 {σ : Type} (F : Int × Int × Int × ByteArray × List D × Int × Int × Int × ByteArray × List D → Option (Int)) : Nat → A63_2 → σ → Option (O63_2 × σ)
  | 0, _, _ => none
  | n+1, (v79, v80, v81, v82, v83, v84, v85, v86, v87, v88, v89, v90, v91, k92), s => (bif (decide (v81 < v80)) then ((lidx v79 v81).bind fun d93 => ask (d93.cells.length = 5) ((cellAt 0 d93).bind fun x94 => (asInt .i64 x94).bind fun x95 => ((cellAt 1 d93).bind fun x96 => (asInt .i64 x96).bind fun x97 => ((cellAt 2 d93).bind fun x98 => (asInt .i64 x98).bind fun x99 => ((cellAt 3 d93).bind fun x100 => (asStr x100).bind fun x101 => ((cellAt 4 d93).bind fun x102 => (asRow x102).bind fun x103 => ((lidx v91 v81).bind fun d104 => ask (d104.cells.length = 5) ((cellAt 0 d104).bind fun x105 => (asInt .i64 x105).bind fun x106 => ((cellAt 1 d104).bind fun x107 => (asInt .i64 x107).bind fun x108 => ((cellAt 2 d104).bind fun x109 => (asInt .i64 x109).bind fun x110 => ((cellAt 3 d104).bind fun x111 => (asStr x111).bind fun x112 => ((cellAt 4 d104).bind fun x113 => (asRow x113).bind fun x114 => ((F (x95, x97, x99, x101, x103, x106, x108, x110, x112, x114)).bind fun y115 => (bif (y115 != 0) then (ask (([k92] : List Nat) = [k92]) (some (O63_2.x0 y115 v82 v83 v84 v85 v86 v87 v88 v89 v90 v91 k92, s))) else (ask (([k92] : List Nat) = [k92]) (L63_2 F n (v79, v80, (w64 (v81 + 1)), v82, v83, v84, v85, v86, v87, v88, v89, v90, v91, k92) s)))))))))))))))) else (ask (([k92] : List Nat) = [k92]) (some (O63_2.x1 v82 v83 v84 v85 v86 v87 v88 v89 v90 v91 k92, s))))
def d63 (ds : List D) : Option (Int × Int × Int × ByteArray × List D × Int × Int × Int × ByteArray × List D) := match ds with
  | [.agg [.val (.int .i64 a0), .val (.int .i64 a1), .val (.int .i64 a2), .val (.string a3), .slice a4], .agg [.val (.int .i64 a5), .val (.int .i64 a6), .val (.int .i64 a7), .val (.string a8), .slice a9]] => some (a0, a1, a2, a3, a4, a5, a6, a7, a8, a9)
  | _ => none
def r63 (v : AV) : Option (Int) := match toPR v with
  | some (.one (.val (.int .i64 a10))) => some a10
  | _ => none
def n63 : Nat → Int × Int × Int × ByteArray × List D × Int × Int × Int × ByteArray × List D → Option (Int)
  | 0, _ => none
  | k + 1, (a0, a1, a2, a3, a4, a5, a6, a7, a8, a9) => (bif (a0 != a5) then ((n98 ((decide (a0 < a5)), true)).bind fun y11 => (some y11)) else (bif (((a4.length : Nat) : Int) != ((a9.length : Nat) : Int)) then ((n98 ((decide (((a4.length : Nat) : Int) < ((a9.length : Nat) : Int))), true)).bind fun y12 => (some y12)) else ((n98 ((decide (a1 < a6)), (decide (a1 > a6)))).bind fun y13 => ((n98 ((decide (a2 < a7)), (decide (a2 > a7)))).bind fun y14 => ((n99 (a3, a8)).bind fun y15 => (ask (([3] : List Nat) = [([.val (.int .i64 y13), .val (.int .i64 y14), .val (.int .i64 y15)] : List D).length]) ((L63_0 (n63 k) 1000000000000 (([.val (.int .i64 y13), .val (.int .i64 y14), .val (.int .i64 y15)] : List D), ((([.val (.int .i64 y13), .val (.int .i64 y14), .val (.int .i64 y15)] : List D).length : Nat) : Int), 0, a0, a1, a2, a3, a4, a5, a6, a7, a8, a9) ()).bind fun p55 => match p55.1 with | .x0 z56 z57 z58 z59 z60 z61 z62 z63 z64 z65 z66 z67 => (some z56) | .x1 z68 z69 z70 z71 z72 z73 z74 z75 z76 z77 z78 => (ask (([z78] : List Nat) = [z78]) ((L63_2 (n63 k) 1000000000000 (z72, ((z72.length : Nat) : Int), 0, z68, z69, z70, z71, z72, z73, z74, z75, z76, z77, z78) p55.2).bind fun p139 => match p139.1 with | .x0 z140 z141 z142 z143 z144 z145 z146 z147 z148 z149 z150 z151 => (some z140) | .x1 z152 z153 z154 z155 z156 z157 z158 z159 z160 z161 z162 => (some 0))))))))))
def e63 : PureE := mkE d63 (n63 64) (fun a10 => .one (.val (.int .i64 a10)))
def g63 (k : Nat) {σ : Type} : Nat → Option (SegE σ)
  | 0 => some (l63_0.seg σ (L63_0 (n63 k) 1000000000000))
  | 2 => some (l63_2.seg σ (L63_2 (n63 k) 1000000000000))
  | _ => none
theorem E63_0 {σ : Type} (k : Nat) (Y : Yd σ) : ∀ n a (s : σ), L63_0 (n63 k) (n + 1) a s = evK (cfgOf Tryz.prog (tabsS1 gl) (((63, mkE d63 (n63 k) (fun a10 => .one (.val (.int .i64 a10)))) :: tS1) : Tab)) (toldOf (((63, mkE d63 (n63 k) (fun a10 => .one (.val (.int .i64 a10)))) :: tS1) : Tab)) Y (inlN (cfgOf Tryz.prog (tabsS1 gl) (((63, mkE d63 (n63 k) (fun a10 => .one (.val (.int .i64 a10)))) :: tS1) : Tab)) (toldOf (((63, mkE d63 (n63 k) (fun a10 => .one (.val (.int .i64 a10)))) :: tS1) : Tab)) Y) (g63 k) 63 (loopAt Tryz.f63 0) ((l63_0.toT σ).enc a s) (fun ex st' => l63_0.next (cfgOf Tryz.prog (tabsS1 gl) (((63, mkE d63 (n63 k) (fun a10 => .one (.val (.int .i64 a10)))) :: tS1) : Tab)) 63 0 (L63_0 (n63 k) n) ex st') := by
  intro n ⟨v16, v17, v18, v19, v20, v21, v22, v23, v24, v25, v26, v27, v28⟩ s
  kernel_rfl
theorem Q63_0 {σ : Type} (hl : LibFits gl) (k : Nat) (hk : TabOk Tryz.prog gl (((63, mkE d63 (n63 k) (fun a10 => .one (.val (.int .i64 a10)))) :: tS1) : Tab)) (Y : Yd σ) (rnd : Bool) : SegOk (cfgOf Tryz.prog (tabsS1 gl) (((63, mkE d63 (n63 k) (fun a10 => .one (.val (.int .i64 a10)))) :: tS1) : Tab)) (evFn (cfgOf Tryz.prog (tabsS1 gl) (((63, mkE d63 (n63 k) (fun a10 => .one (.val (.int .i64 a10)))) :: tS1) : Tab)) 9) 63 rnd Y (l63_0.seg σ (L63_0 (n63 k) 1000000000000)) (.block 0 (.loop (loopAt Tryz.f63 0))) :=
  told_loop hk k63_0 (by kernel_rfl) (by kernel_rfl) (fun _ _ => rfl) (segs_no (by kernel_rfl)) (E63_0 k Y) (hr := by kernel_rfl)
theorem E63_2 {σ : Type} (k : Nat) (Y : Yd σ) : ∀ n a (s : σ), L63_2 (n63 k) (n + 1) a s = evK (cfgOf Tryz.prog (tabsS1 gl) (((63, mkE d63 (n63 k) (fun a10 => .one (.val (.int .i64 a10)))) :: tS1) : Tab)) (toldOf (((63, mkE d63 (n63 k) (fun a10 => .one (.val (.int .i64 a10)))) :: tS1) : Tab)) Y (inlN (cfgOf Tryz.prog (tabsS1 gl) (((63, mkE d63 (n63 k) (fun a10 => .one (.val (.int .i64 a10)))) :: tS1) : Tab)) (toldOf (((63, mkE d63 (n63 k) (fun a10 => .one (.val (.int .i64 a10)))) :: tS1) : Tab)) Y) (g63 k) 63 (loopAt Tryz.f63 2) ((l63_2.toT σ).enc a s) (fun ex st' => l63_2.next (cfgOf Tryz.prog (tabsS1 gl) (((63, mkE d63 (n63 k) (fun a10 => .one (.val (.int .i64 a10)))) :: tS1) : Tab)) 63 2 (L63_2 (n63 k) n) ex st') := by
  intro n ⟨v79, v80, v81, v82, v83, v84, v85, v86, v87, v88, v89, v90, v91, k92⟩ s
  kernel_rfl
theorem Q63_2 {σ : Type} (hl : LibFits gl) (k : Nat) (hk : TabOk Tryz.prog gl (((63, mkE d63 (n63 k) (fun a10 => .one (.val (.int .i64 a10)))) :: tS1) : Tab)) (Y : Yd σ) (rnd : Bool) : SegOk (cfgOf Tryz.prog (tabsS1 gl) (((63, mkE d63 (n63 k) (fun a10 => .one (.val (.int .i64 a10)))) :: tS1) : Tab)) (evFn (cfgOf Tryz.prog (tabsS1 gl) (((63, mkE d63 (n63 k) (fun a10 => .one (.val (.int .i64 a10)))) :: tS1) : Tab)) 9) 63 rnd Y (l63_2.seg σ (L63_2 (n63 k) 1000000000000)) (.block 2 (.loop (loopAt Tryz.f63 2))) :=
  told_loop hk k63_2 (by kernel_rfl) (by kernel_rfl) (fun _ _ => rfl) (segs_no (by kernel_rfl)) (E63_2 k Y) (hr := by kernel_rfl)
theorem N63 : ∀ k a, n63 (k + 1) a = bodyK (cfgOf Tryz.prog (tabsS1 gl) (((63, mkE d63 (n63 k) (fun a10 => .one (.val (.int .i64 a10)))) :: tS1) : Tab)) (toldOf (((63, mkE d63 (n63 k) (fun a10 => .one (.val (.int .i64 a10)))) :: tS1) : Tab)) noY (inlN (cfgOf Tryz.prog (tabsS1 gl) (((63, mkE d63 (n63 k) (fun a10 => .one (.val (.int .i64 a10)))) :: tS1) : Tab)) (toldOf (((63, mkE d63 (n63 k) (fun a10 => .one (.val (.int .i64 a10)))) :: tS1) : Tab)) noY) (g63 k) 63 Tryz.f63 (((fun (a0, a1, a2, a3, a4, a5, a6, a7, a8, a9) => [.agg [.val (.int .i64 a0), .val (.int .i64 a1), .val (.int .i64 a2), .val (.string a3), .slice a4], .agg [.val (.int .i64 a5), .val (.int .i64 a6), .val (.int .i64 a7), .val (.string a8), .slice a9]] : (Int × Int × Int × ByteArray × List D × Int × Int × Int × ByteArray × List D) → List D) a).map .d) [] [] () (fun v _ _ _ => r63 v) := by
  intro k a
  obtain ⟨a0, a1, a2, a3, a4, a5, a6, a7, a8, a9⟩ := a
  kernel_rfl
noncomputable def t63 : Tab := (63, e63) :: tS1
theorem ok63 (hl : LibFits gl) : TabOk Tryz.prog gl t63 :=
  told_rec (t := tabsS1 gl) (okS1 hl) mixed (oddOkS1 hl) Tryz.func63 (by kernel_rfl) (nat := n63) (seg := fun k => g63 k) (by kernel_rfl) (fun k hk => (fun p hp e he => by
    have hq : segsOf (σ := Unit) (g63 k (σ := Unit)) (bodyOf Tryz.f63) = [(0, .loop (loopAt Tryz.f63 0)), (2, .loop (loopAt Tryz.f63 2))] := by kernel_rfl
    rw [hq] at hp
    simp only [List.mem_cons, List.not_mem_nil, or_false] at hp
    rcases hp with rfl | rfl
    · cases he; exact Q63_0 hl k hk _ _
    · cases he; exact Q63_2 hl k hk _ _
    ))
    (args := fun (a0, a1, a2, a3, a4, a5, a6, a7, a8, a9) => [.agg [.val (.int .i64 a0), .val (.int .i64 a1), .val (.int .i64 a2), .val (.string a3), .slice a4], .agg [.val (.int .i64 a5), .val (.int .i64 a6), .val (.int .i64 a7), .val (.string a8), .slice a9]]) (res := r63)
    (fun ds a h => by
      unfold d63 at h
      split at h
      · cases h; rfl
      · cases h)
    (fun v r h => by
      unfold r63 at h
      split at h
      · rename_i hv; cases h; exact hv
      · cases h)
    (fun _ => rfl) N63 64
def d104 (ds : List D) : Option (ByteArray × Int) := match ds with
  | [.val (.string a0), .val (.int .i64 a1)] => some (a0, a1)
  | _ => none
def r104 (v : AV) : Option (Int × Int × Int) := match toPR v with
  | some (.one (.agg [.val (.int .i64 a2), .val (.int .i64 a3), .val (.int .i64 a4)])) => some (a2, a3, a4)
  | _ => none
def n104 : ByteArray × Int → Option (Int × Int × Int) := fun (a0, a1) => ((sidx a0 a1).bind fun c5 => (bif (decide ((c5.toNat : Int) < 128)) then (some ((w64 (c5.toNat : Int)), a1, 1)) else (bif (bif (decide ((c5.toNat : Int) ≥ 194)) then (decide ((c5.toNat : Int) ≤ 223)) else false) then ((n115 (a0, (w64 (a1 + 1)), 128, 191)).bind fun y6 => (bif y6 then ((sidx a0 (w64 (a1 + 1))).bind fun c7 => (some ((bOr .i64 (w64 ((w64 (bAnd .u8 (c5.toNat : Int) 31)) * 2 ^ (min (Int.toNat 6) 64))) (w64 (bAnd .u8 (c7.toNat : Int) 63))), a1, 2))) else (some ((-1), a1, 1)))) else (bif (bif (decide ((c5.toNat : Int) ≥ 224)) then (decide ((c5.toNat : Int) ≤ 239)) else false) then (bif ((c5.toNat : Int) == 224) then (bif ((c5.toNat : Int) == 237) then ((n115 (a0, (w64 (a1 + 1)), 160, 159)).bind fun y8 => (bif y8 then ((n115 (a0, (w64 (a1 + 2)), 128, 191)).bind fun y9 => (bif y9 then ((sidx a0 (w64 (a1 + 1))).bind fun c10 => ((sidx a0 (w64 (a1 + 2))).bind fun c11 => (some ((bOr .i64 (bOr .i64 (w64 ((w64 (bAnd .u8 (c5.toNat : Int) 15)) * 2 ^ (min (Int.toNat 12) 64))) (w64 ((w64 (bAnd .u8 (c10.toNat : Int) 63)) * 2 ^ (min (Int.toNat 6) 64)))) (w64 (bAnd .u8 (c11.toNat : Int) 63))), a1, 3)))) else (some ((-1), a1, 1)))) else (some ((-1), a1, 1)))) else ((n115 (a0, (w64 (a1 + 1)), 160, 191)).bind fun y12 => (bif y12 then ((n115 (a0, (w64 (a1 + 2)), 128, 191)).bind fun y13 => (bif y13 then ((sidx a0 (w64 (a1 + 1))).bind fun c14 => ((sidx a0 (w64 (a1 + 2))).bind fun c15 => (some ((bOr .i64 (bOr .i64 (w64 ((w64 (bAnd .u8 (c5.toNat : Int) 15)) * 2 ^ (min (Int.toNat 12) 64))) (w64 ((w64 (bAnd .u8 (c14.toNat : Int) 63)) * 2 ^ (min (Int.toNat 6) 64)))) (w64 (bAnd .u8 (c15.toNat : Int) 63))), a1, 3)))) else (some ((-1), a1, 1)))) else (some ((-1), a1, 1))))) else (bif ((c5.toNat : Int) == 237) then ((n115 (a0, (w64 (a1 + 1)), 128, 159)).bind fun y16 => (bif y16 then ((n115 (a0, (w64 (a1 + 2)), 128, 191)).bind fun y17 => (bif y17 then ((sidx a0 (w64 (a1 + 1))).bind fun c18 => ((sidx a0 (w64 (a1 + 2))).bind fun c19 => (some ((bOr .i64 (bOr .i64 (w64 ((w64 (bAnd .u8 (c5.toNat : Int) 15)) * 2 ^ (min (Int.toNat 12) 64))) (w64 ((w64 (bAnd .u8 (c18.toNat : Int) 63)) * 2 ^ (min (Int.toNat 6) 64)))) (w64 (bAnd .u8 (c19.toNat : Int) 63))), a1, 3)))) else (some ((-1), a1, 1)))) else (some ((-1), a1, 1)))) else ((n115 (a0, (w64 (a1 + 1)), 128, 191)).bind fun y20 => (bif y20 then ((n115 (a0, (w64 (a1 + 2)), 128, 191)).bind fun y21 => (bif y21 then ((sidx a0 (w64 (a1 + 1))).bind fun c22 => ((sidx a0 (w64 (a1 + 2))).bind fun c23 => (some ((bOr .i64 (bOr .i64 (w64 ((w64 (bAnd .u8 (c5.toNat : Int) 15)) * 2 ^ (min (Int.toNat 12) 64))) (w64 ((w64 (bAnd .u8 (c22.toNat : Int) 63)) * 2 ^ (min (Int.toNat 6) 64)))) (w64 (bAnd .u8 (c23.toNat : Int) 63))), a1, 3)))) else (some ((-1), a1, 1)))) else (some ((-1), a1, 1)))))) else (bif (bif (decide ((c5.toNat : Int) ≥ 240)) then (decide ((c5.toNat : Int) ≤ 244)) else false) then (bif ((c5.toNat : Int) == 240) then (bif ((c5.toNat : Int) == 244) then ((n115 (a0, (w64 (a1 + 1)), 144, 143)).bind fun y24 => (bif y24 then ((n115 (a0, (w64 (a1 + 2)), 128, 191)).bind fun y25 => (bif y25 then ((n115 (a0, (w64 (a1 + 3)), 128, 191)).bind fun y26 => (bif y26 then ((sidx a0 (w64 (a1 + 1))).bind fun c27 => ((sidx a0 (w64 (a1 + 2))).bind fun c28 => ((sidx a0 (w64 (a1 + 3))).bind fun c29 => (some ((bOr .i64 (bOr .i64 (bOr .i64 (w64 ((w64 (bAnd .u8 (c5.toNat : Int) 7)) * 2 ^ (min (Int.toNat 18) 64))) (w64 ((w64 (bAnd .u8 (c27.toNat : Int) 63)) * 2 ^ (min (Int.toNat 12) 64)))) (w64 ((w64 (bAnd .u8 (c28.toNat : Int) 63)) * 2 ^ (min (Int.toNat 6) 64)))) (w64 (bAnd .u8 (c29.toNat : Int) 63))), a1, 4))))) else (some ((-1), a1, 1)))) else (some ((-1), a1, 1)))) else (some ((-1), a1, 1)))) else ((n115 (a0, (w64 (a1 + 1)), 144, 191)).bind fun y30 => (bif y30 then ((n115 (a0, (w64 (a1 + 2)), 128, 191)).bind fun y31 => (bif y31 then ((n115 (a0, (w64 (a1 + 3)), 128, 191)).bind fun y32 => (bif y32 then ((sidx a0 (w64 (a1 + 1))).bind fun c33 => ((sidx a0 (w64 (a1 + 2))).bind fun c34 => ((sidx a0 (w64 (a1 + 3))).bind fun c35 => (some ((bOr .i64 (bOr .i64 (bOr .i64 (w64 ((w64 (bAnd .u8 (c5.toNat : Int) 7)) * 2 ^ (min (Int.toNat 18) 64))) (w64 ((w64 (bAnd .u8 (c33.toNat : Int) 63)) * 2 ^ (min (Int.toNat 12) 64)))) (w64 ((w64 (bAnd .u8 (c34.toNat : Int) 63)) * 2 ^ (min (Int.toNat 6) 64)))) (w64 (bAnd .u8 (c35.toNat : Int) 63))), a1, 4))))) else (some ((-1), a1, 1)))) else (some ((-1), a1, 1)))) else (some ((-1), a1, 1))))) else (bif ((c5.toNat : Int) == 244) then ((n115 (a0, (w64 (a1 + 1)), 128, 143)).bind fun y36 => (bif y36 then ((n115 (a0, (w64 (a1 + 2)), 128, 191)).bind fun y37 => (bif y37 then ((n115 (a0, (w64 (a1 + 3)), 128, 191)).bind fun y38 => (bif y38 then ((sidx a0 (w64 (a1 + 1))).bind fun c39 => ((sidx a0 (w64 (a1 + 2))).bind fun c40 => ((sidx a0 (w64 (a1 + 3))).bind fun c41 => (some ((bOr .i64 (bOr .i64 (bOr .i64 (w64 ((w64 (bAnd .u8 (c5.toNat : Int) 7)) * 2 ^ (min (Int.toNat 18) 64))) (w64 ((w64 (bAnd .u8 (c39.toNat : Int) 63)) * 2 ^ (min (Int.toNat 12) 64)))) (w64 ((w64 (bAnd .u8 (c40.toNat : Int) 63)) * 2 ^ (min (Int.toNat 6) 64)))) (w64 (bAnd .u8 (c41.toNat : Int) 63))), a1, 4))))) else (some ((-1), a1, 1)))) else (some ((-1), a1, 1)))) else (some ((-1), a1, 1)))) else ((n115 (a0, (w64 (a1 + 1)), 128, 191)).bind fun y42 => (bif y42 then ((n115 (a0, (w64 (a1 + 2)), 128, 191)).bind fun y43 => (bif y43 then ((n115 (a0, (w64 (a1 + 3)), 128, 191)).bind fun y44 => (bif y44 then ((sidx a0 (w64 (a1 + 1))).bind fun c45 => ((sidx a0 (w64 (a1 + 2))).bind fun c46 => ((sidx a0 (w64 (a1 + 3))).bind fun c47 => (some ((bOr .i64 (bOr .i64 (bOr .i64 (w64 ((w64 (bAnd .u8 (c5.toNat : Int) 7)) * 2 ^ (min (Int.toNat 18) 64))) (w64 ((w64 (bAnd .u8 (c45.toNat : Int) 63)) * 2 ^ (min (Int.toNat 12) 64)))) (w64 ((w64 (bAnd .u8 (c46.toNat : Int) 63)) * 2 ^ (min (Int.toNat 6) 64)))) (w64 (bAnd .u8 (c47.toNat : Int) 63))), a1, 4))))) else (some ((-1), a1, 1)))) else (some ((-1), a1, 1)))) else (some ((-1), a1, 1)))))) else (some ((-1), a1, 1)))))))
def e104 : PureE := mkE d104 n104 (fun (a2, a3, a4) => .one (.agg [.val (.int .i64 a2), .val (.int .i64 a3), .val (.int .i64 a4)]))
def g104 {σ : Type} : Nat → Option (SegE σ)
  | _ => none
theorem N104 : ∀ a, n104 a = bodyK (cfgOf Tryz.prog (tabsS1 gl) tS1) (toldOf tS1) noY (inlN (cfgOf Tryz.prog (tabsS1 gl) tS1) (toldOf tS1) noY) g104 104 Tryz.f104 (((fun (a0, a1) => [.val (.string a0), .val (.int .i64 a1)] : (ByteArray × Int) → List D) a).map .d) [] [] () (fun v _ _ _ => r104 v) := by
  intro a
  obtain ⟨a0, a1⟩ := a
  kernel_rfl
noncomputable def t104 : Tab := (104, e104) :: tS1
theorem ok104 (hl : LibFits gl) : TabOk Tryz.prog gl t104 :=
  told_fn (okS1 hl) mixed (oddOkS1 hl) Tryz.func104 (by kernel_rfl) (by kernel_rfl) (by kernel_rfl) (segs_no (by kernel_rfl))
    (args := fun (a0, a1) => [.val (.string a0), .val (.int .i64 a1)]) (res := r104)
    (fun ds a h => by
      unfold d104 at h
      split at h
      · cases h; rfl
      · cases h)
    (fun v r h => by
      unfold r104 at h
      split at h
      · rename_i hv; cases h; exact hv
      · cases h)
    N104
def d70 (ds : List D) : Option (Int) := match ds with
  | [.val (.int .i64 a0)] => some a0
  | _ => none
def r70 (v : AV) : Option (Bool) := match toPR v with
  | some (.one (.val (.bool a1))) => some a1
  | _ => none
def n70 : Int → Option (Bool) := fun a0 => ((n69 a0).bind fun y2 => (bif y2 then (some true) else (bif (decide (a0 ≥ 48)) then (some (bif (decide (a0 ≤ 57)) then true else (a0 == 39))) else (some (a0 == 39)))))
def e70 : PureE := mkE d70 n70 (fun a1 => .one (.val (.bool a1)))
def g70 {σ : Type} : Nat → Option (SegE σ)
  | _ => none
theorem N70 : ∀ a, n70 a = bodyK (cfgOf Tryz.prog (tabsS1 gl) tS1) (toldOf tS1) noY (inlN (cfgOf Tryz.prog (tabsS1 gl) tS1) (toldOf tS1) noY) g70 70 Tryz.f70 (((fun a0 => [.val (.int .i64 a0)] : (Int) → List D) a).map .d) [] [] () (fun v _ _ _ => r70 v) := by
  intro a0
  kernel_rfl
noncomputable def t70 : Tab := (70, e70) :: tS1
theorem ok70 (hl : LibFits gl) : TabOk Tryz.prog gl t70 :=
  told_fn (okS1 hl) mixed (oddOkS1 hl) Tryz.func70 (by kernel_rfl) (by kernel_rfl) (by kernel_rfl) (segs_no (by kernel_rfl))
    (args := fun a0 => [.val (.int .i64 a0)]) (res := r70)
    (fun ds a h => by
      unfold d70 at h
      split at h
      · cases h; rfl
      · cases h)
    (fun v r h => by
      unfold r70 at h
      split at h
      · rename_i hv; cases h; exact hv
      · cases h)
    N70
def d64 (ds : List D) : Option (Int) := match ds with
  | [.val (.int .i32 a0)] => some a0
  | _ => none
def r64 (v : AV) : Option (Bool) := match toPR v with
  | some (.one (.val (.bool a1))) => some a1
  | _ => none
def n64 : Int → Option (Bool) := fun a0 => ((n100 ()).bind fun y2 => (bif (bif (decide (a0 ≥ y2.1)) then (decide (a0 ≤ y2.2.1)) else false) then (some true) else (bif (bif (decide (a0 ≥ y2.2.2.1)) then (decide (a0 ≤ y2.2.2.2.1)) else false) then (some true) else (bif (bif (decide (a0 ≥ y2.2.2.2.2.1)) then (decide (a0 ≤ y2.2.2.2.2.2.1)) else false) then (some true) else (bif (bif (decide (a0 ≥ y2.2.2.2.2.2.2.1)) then (decide (a0 ≤ y2.2.2.2.2.2.2.2.1)) else false) then (some true) else (bif (bif (decide (a0 ≥ y2.2.2.2.2.2.2.2.2.1)) then (decide (a0 ≤ y2.2.2.2.2.2.2.2.2.2.1)) else false) then (some true) else (bif (bif (decide (a0 ≥ y2.2.2.2.2.2.2.2.2.2.2.1)) then (decide (a0 ≤ y2.2.2.2.2.2.2.2.2.2.2.2.1)) else false) then (some true) else (bif (bif (decide (a0 ≥ y2.2.2.2.2.2.2.2.2.2.2.2.2.1)) then (decide (a0 ≤ y2.2.2.2.2.2.2.2.2.2.2.2.2.2.1)) else false) then (some true) else (bif (bif (decide (a0 ≥ y2.2.2.2.2.2.2.2.2.2.2.2.2.2.2.1)) then (decide (a0 ≤ y2.2.2.2.2.2.2.2.2.2.2.2.2.2.2.2)) else false) then (some true) else (some false))))))))))
def e64 : PureE := mkE d64 n64 (fun a1 => .one (.val (.bool a1)))
def g64 {σ : Type} : Nat → Option (SegE σ)
  | _ => none
theorem N64 : ∀ a, n64 a = bodyK (cfgOf Tryz.prog (tabsS1 gl) tS1) (toldOf tS1) noY (inlN (cfgOf Tryz.prog (tabsS1 gl) tS1) (toldOf tS1) noY) g64 64 Tryz.f64 (((fun a0 => [.val (.int .i32 a0)] : (Int) → List D) a).map .d) [] [] () (fun v _ _ _ => r64 v) := by
  intro a0
  kernel_rfl
noncomputable def t64 : Tab := (64, e64) :: tS1
theorem ok64 (hl : LibFits gl) : TabOk Tryz.prog gl t64 :=
  told_fn (okS1 hl) mixed (oddOkS1 hl) Tryz.func64 (by kernel_rfl) (by kernel_rfl) (by kernel_rfl) (segs_no (by kernel_rfl))
    (args := fun a0 => [.val (.int .i32 a0)]) (res := r64)
    (fun ds a h => by
      unfold d64 at h
      split at h
      · cases h; rfl
      · cases h)
    (fun v r h => by
      unfold r64 at h
      split at h
      · rename_i hv; cases h; exact hv
      · cases h)
    N64
abbrev A48_0 := Int × Int × Int × Int × ByteArray × List D × Int × Int × Int × ByteArray × List D
inductive O48_0 where
  | x0 (o50 : Int) (o51 : Int) (o52 : Int) (o53 : Int) (o54 : ByteArray) (o55 : List D) (o56 : Int) (o57 : Int) (o58 : Int) (o59 : ByteArray) (o60 : List D)
  | x1 (o61 : Int) (o62 : Int) (o63 : Int) (o64 : ByteArray) (o65 : List D) (o66 : Int) (o67 : Int) (o68 : Int) (o69 : ByteArray) (o70 : List D)
def l48_0 : LoopS A48_0 O48_0 where
  n := 114
  ks := [2, 3, 5]
  kso := [4]
  m := 2
  mt := 0
  decV := fun vs bs ts => match vs, bs, ts with
    | [.ptr 0 0, .ptr 1 0, .d (.val (.int .i64 v16))], [.cells none [.d (.val (.int .i64 v17)), .d (.val (.int .i64 v18)), .d (.val (.int .i64 v19)), .d (.val (.string v20)), .d (.slice v21)], .cells none [.d (.val (.int .i64 v22)), .d (.val (.int .i64 v23)), .d (.val (.int .i64 v24)), .d (.val (.string v25)), .d (.slice v26)]], [] => some (v16, v17, v18, v19, v20, v21, v22, v23, v24, v25, v26)
    | _, _, _ => none
  encV := fun (v16, v17, v18, v19, v20, v21, v22, v23, v24, v25, v26) => [.ptr 0 0, .ptr 1 0, .d (.val (.int .i64 v16))]
  encB := fun (v16, v17, v18, v19, v20, v21, v22, v23, v24, v25, v26) => [.cells none [.d (.val (.int .i64 v17)), .d (.val (.int .i64 v18)), .d (.val (.int .i64 v19)), .d (.val (.string v20)), .d (.slice v21)], .cells none [.d (.val (.int .i64 v22)), .d (.val (.int .i64 v23)), .d (.val (.int .i64 v24)), .d (.val (.string v25)), .d (.slice v26)]]
  tk := fun _ => []
  decO := fun ex vs bs ts => match ex, vs, bs, ts with
    | .ret, [.d (.val (.int .i64 o50))], [.cells none [.d (.val (.int .i64 o51)), .d (.val (.int .i64 o52)), .d (.val (.int .i64 o53)), .d (.val (.string o54)), .d (.slice o55)], .cells none [.d (.val (.int .i64 o56)), .d (.val (.int .i64 o57)), .d (.val (.int .i64 o58)), .d (.val (.string o59)), .d (.slice o60)]], [] => some (.x0 o50 o51 o52 o53 o54 o55 o56 o57 o58 o59 o60)
    | .normal, [.undef], [.cells none [.d (.val (.int .i64 o61)), .d (.val (.int .i64 o62)), .d (.val (.int .i64 o63)), .d (.val (.string o64)), .d (.slice o65)], .cells none [.d (.val (.int .i64 o66)), .d (.val (.int .i64 o67)), .d (.val (.int .i64 o68)), .d (.val (.string o69)), .d (.slice o70)]], [] => some (.x1 o61 o62 o63 o64 o65 o66 o67 o68 o69 o70)
    | _, _, _, _ => none
  exO := fun x => match x with
    | .x0 o50 o51 o52 o53 o54 o55 o56 o57 o58 o59 o60 => .ret
    | .x1 o61 o62 o63 o64 o65 o66 o67 o68 o69 o70 => .normal
  outV := fun x => match x with
    | .x0 o50 o51 o52 o53 o54 o55 o56 o57 o58 o59 o60 => [.d (.val (.int .i64 o50))]
    | .x1 o61 o62 o63 o64 o65 o66 o67 o68 o69 o70 => [.undef]
  outB := fun x => match x with
    | .x0 o50 o51 o52 o53 o54 o55 o56 o57 o58 o59 o60 => [.cells none [.d (.val (.int .i64 o51)), .d (.val (.int .i64 o52)), .d (.val (.int .i64 o53)), .d (.val (.string o54)), .d (.slice o55)], .cells none [.d (.val (.int .i64 o56)), .d (.val (.int .i64 o57)), .d (.val (.int .i64 o58)), .d (.val (.string o59)), .d (.slice o60)]]
    | .x1 o61 o62 o63 o64 o65 o66 o67 o68 o69 o70 => [.cells none [.d (.val (.int .i64 o61)), .d (.val (.int .i64 o62)), .d (.val (.int .i64 o63)), .d (.val (.string o64)), .d (.slice o65)], .cells none [.d (.val (.int .i64 o66)), .d (.val (.int .i64 o67)), .d (.val (.int .i64 o68)), .d (.val (.string o69)), .d (.slice o70)]]
  tkO := fun x => match x with
    | .x0 o50 o51 o52 o53 o54 o55 o56 o57 o58 o59 o60 => []
    | .x1 o61 o62 o63 o64 o65 o66 o67 o68 o69 o70 => []
  elim := fun x k => match x with
    | .x0 o50 o51 o52 o53 o54 o55 o56 o57 o58 o59 o60 => k .ret [.d (.val (.int .i64 o50))] [.cells none [.d (.val (.int .i64 o51)), .d (.val (.int .i64 o52)), .d (.val (.int .i64 o53)), .d (.val (.string o54)), .d (.slice o55)], .cells none [.d (.val (.int .i64 o56)), .d (.val (.int .i64 o57)), .d (.val (.int .i64 o58)), .d (.val (.string o59)), .d (.slice o60)]] []
    | .x1 o61 o62 o63 o64 o65 o66 o67 o68 o69 o70 => k .normal [.undef] [.cells none [.d (.val (.int .i64 o61)), .d (.val (.int .i64 o62)), .d (.val (.int .i64 o63)), .d (.val (.string o64)), .d (.slice o65)], .cells none [.d (.val (.int .i64 o66)), .d (.val (.int .i64 o67)), .d (.val (.int .i64 o68)), .d (.val (.string o69)), .d (.slice o70)]] []
theorem k48_0 : l48_0.Ok where
  ok1 := by kernel_rfl
  ok2 := by kernel_rfl
  dec := by
    intro vs bs ts a h
    simp only [l48_0] at h ⊢
    split at h
    · cases h; exact ⟨rfl, rfl⟩
    · cases h
  out := by
    intro ex vs bs ts o h
    simp only [l48_0] at h ⊢
    split at h
    · cases h; exact ⟨rfl, rfl, rfl⟩
    · cases h; exact ⟨rfl, rfl, rfl⟩
    · cases h
  len := fun _ => ⟨rfl, rfl⟩
  elim := fun β o k => by cases o <;> rfl
def L48_0 {σ : Type} (F : Int × Int × Int × ByteArray × List D × Int × Int × Int × ByteArray × List D → Option (Int)) : Nat → A48_0 → σ → Option (O48_0 × σ)
  | 0, _, _ => none
  | n+1, (v16, v17, v18, v19, v20, v21, v22, v23, v24, v25, v26), s => (bif (decide (v16 < ((v21.length : Nat) : Int))) then ((lidx v21 v16).bind fun d27 => ask (d27.cells.length = 5) ((cellAt 0 d27).bind fun x28 => (asInt .i64 x28).bind fun x29 => ((cellAt 1 d27).bind fun x30 => (asInt .i64 x30).bind fun x31 => ((cellAt 2 d27).bind fun x32 => (asInt .i64 x32).bind fun x33 => ((cellAt 3 d27).bind fun x34 => (asStr x34).bind fun x35 => ((cellAt 4 d27).bind fun x36 => (asRow x36).bind fun x37 => ((lidx v26 v16).bind fun d38 => ask (d38.cells.length = 5) ((cellAt 0 d38).bind fun x39 => (asInt .i64 x39).bind fun x40 => ((cellAt 1 d38).bind fun x41 => (asInt .i64 x41).bind fun x42 => ((cellAt 2 d38).bind fun x43 => (asInt .i64 x43).bind fun x44 => ((cellAt 3 d38).bind fun x45 => (asStr x45).bind fun x46 => ((cellAt 4 d38).bind fun x47 => (asRow x47).bind fun x48 => ((F (x29, x31, x33, x35, x37, x40, x42, x44, x46, x48)).bind fun y49 => (bif (y49 != 0) then (some (O48_0.x0 y49 v17 v18 v19 v20 v21 v22 v23 v24 v25 v26, s)) else (L48_0 F n ((w64 (v16 + 1)), v17, v18, v19, v20, v21, v22, v23, v24, v25, v26) s))))))))))))))) else (some (O48_0.x1 v17 v18 v19 v20 v21 v22 v23 v24 v25 v26, s)))
def d48 (ds : List D) : Option (Int × Int × Int × ByteArray × List D × Int × Int × Int × ByteArray × List D) := match ds with
  | [.agg [.val (.int .i64 a0), .val (.int .i64 a1), .val (.int .i64 a2), .val (.string a3), .slice a4], .agg [.val (.int .i64 a5), .val (.int .i64 a6), .val (.int .i64 a7), .val (.string a8), .slice a9]] => some (a0, a1, a2, a3, a4, a5, a6, a7, a8, a9)
  | _ => none
def r48 (v : AV) : Option (Int) := match toPR v with
  | some (.one (.val (.int .i64 a10))) => some a10
  | _ => none
def n48 : Nat → Int × Int × Int × ByteArray × List D × Int × Int × Int × ByteArray × List D → Option (Int)
  | 0, _ => none
  | k + 1, (a0, a1, a2, a3, a4, a5, a6, a7, a8, a9) => (bif (a0 != a5) then ((n75 ((decide (a0 < a5)), (decide (a0 > a5)))).bind fun y11 => (some y11)) else (bif (a1 != a6) then ((n75 ((decide (a1 < a6)), (decide (a1 > a6)))).bind fun y12 => (some y12)) else (bif (a2 != a7) then ((n75 ((decide (a2 < a7)), (decide (a2 > a7)))).bind fun y13 => (some y13)) else (bif (!(sEq a3 a8)) then ((n75 ((sLt a3 a8), (!(sLt a3 a8 || sEq a3 a8)))).bind fun y14 => (some y14)) else (bif (((a4.length : Nat) : Int) != ((a9.length : Nat) : Int)) then ((n75 ((decide (((a4.length : Nat) : Int) < ((a9.length : Nat) : Int))), (decide (((a4.length : Nat) : Int) > ((a9.length : Nat) : Int))))).bind fun y15 => (some y15)) else ((L48_0 (n48 k) 1000000000000 (0, a0, a1, a2, a3, a4, a5, a6, a7, a8, a9) ()).bind fun p71 => match p71.1 with | .x0 z72 z73 z74 z75 z76 z77 z78 z79 z80 z81 z82 => (some z72) | .x1 z83 z84 z85 z86 z87 z88 z89 z90 z91 z92 => (some 0)))))))
def e48 : PureE := mkE d48 (n48 64) (fun a10 => .one (.val (.int .i64 a10)))
def g48 (k : Nat) {σ : Type} : Nat → Option (SegE σ)
  | 0 => some (l48_0.seg σ (L48_0 (n48 k) 1000000000000))
  | _ => none
theorem E48_0 {σ : Type} (k : Nat) (Y : Yd σ) : ∀ n a (s : σ), L48_0 (n48 k) (n + 1) a s = evK (cfgOf Tryz.prog (tabsS1 gl) (((48, mkE d48 (n48 k) (fun a10 => .one (.val (.int .i64 a10)))) :: tS1) : Tab)) (toldOf (((48, mkE d48 (n48 k) (fun a10 => .one (.val (.int .i64 a10)))) :: tS1) : Tab)) Y (inlN (cfgOf Tryz.prog (tabsS1 gl) (((48, mkE d48 (n48 k) (fun a10 => .one (.val (.int .i64 a10)))) :: tS1) : Tab)) (toldOf (((48, mkE d48 (n48 k) (fun a10 => .one (.val (.int .i64 a10)))) :: tS1) : Tab)) Y) (g48 k) 48 (loopAt Tryz.f48 0) ((l48_0.toT σ).enc a s) (fun ex st' => l48_0.next (cfgOf Tryz.prog (tabsS1 gl) (((48, mkE d48 (n48 k) (fun a10 => .one (.val (.int .i64 a10)))) :: tS1) : Tab)) 48 0 (L48_0 (n48 k) n) ex st') := by
  intro n ⟨v16, v17, v18, v19, v20, v21, v22, v23, v24, v25, v26⟩ s
  kernel_rfl
theorem Q48_0 {σ : Type} (hl : LibFits gl) (k : Nat) (hk : TabOk Tryz.prog gl (((48, mkE d48 (n48 k) (fun a10 => .one (.val (.int .i64 a10)))) :: tS1) : Tab)) (Y : Yd σ) (rnd : Bool) : SegOk (cfgOf Tryz.prog (tabsS1 gl) (((48, mkE d48 (n48 k) (fun a10 => .one (.val (.int .i64 a10)))) :: tS1) : Tab)) (evFn (cfgOf Tryz.prog (tabsS1 gl) (((48, mkE d48 (n48 k) (fun a10 => .one (.val (.int .i64 a10)))) :: tS1) : Tab)) 9) 48 rnd Y (l48_0.seg σ (L48_0 (n48 k) 1000000000000)) (.block 0 (.loop (loopAt Tryz.f48 0))) :=
  told_loop hk k48_0 (by kernel_rfl) (by kernel_rfl) (fun _ _ => rfl) (segs_no (by kernel_rfl)) (E48_0 k Y) (hr := by kernel_rfl)
theorem N48 : ∀ k a, n48 (k + 1) a = bodyK (cfgOf Tryz.prog (tabsS1 gl) (((48, mkE d48 (n48 k) (fun a10 => .one (.val (.int .i64 a10)))) :: tS1) : Tab)) (toldOf (((48, mkE d48 (n48 k) (fun a10 => .one (.val (.int .i64 a10)))) :: tS1) : Tab)) noY (inlN (cfgOf Tryz.prog (tabsS1 gl) (((48, mkE d48 (n48 k) (fun a10 => .one (.val (.int .i64 a10)))) :: tS1) : Tab)) (toldOf (((48, mkE d48 (n48 k) (fun a10 => .one (.val (.int .i64 a10)))) :: tS1) : Tab)) noY) (g48 k) 48 Tryz.f48 (((fun (a0, a1, a2, a3, a4, a5, a6, a7, a8, a9) => [.agg [.val (.int .i64 a0), .val (.int .i64 a1), .val (.int .i64 a2), .val (.string a3), .slice a4], .agg [.val (.int .i64 a5), .val (.int .i64 a6), .val (.int .i64 a7), .val (.string a8), .slice a9]] : (Int × Int × Int × ByteArray × List D × Int × Int × Int × ByteArray × List D) → List D) a).map .d) [] [] () (fun v _ _ _ => r48 v) := by
  intro k a
  obtain ⟨a0, a1, a2, a3, a4, a5, a6, a7, a8, a9⟩ := a
  kernel_rfl
noncomputable def t48 : Tab := (48, e48) :: tS1
theorem ok48 (hl : LibFits gl) : TabOk Tryz.prog gl t48 :=
  told_rec (t := tabsS1 gl) (okS1 hl) mixed (oddOkS1 hl) Tryz.func48 (by kernel_rfl) (nat := n48) (seg := fun k => g48 k) (by kernel_rfl) (fun k hk => (fun p hp e he => by
    have hq : segsOf (σ := Unit) (g48 k (σ := Unit)) (bodyOf Tryz.f48) = [(0, .loop (loopAt Tryz.f48 0))] := by kernel_rfl
    rw [hq] at hp
    simp only [List.mem_cons, List.not_mem_nil, or_false] at hp
    subst hp
    cases he
    exact Q48_0 hl k hk _ _))
    (args := fun (a0, a1, a2, a3, a4, a5, a6, a7, a8, a9) => [.agg [.val (.int .i64 a0), .val (.int .i64 a1), .val (.int .i64 a2), .val (.string a3), .slice a4], .agg [.val (.int .i64 a5), .val (.int .i64 a6), .val (.int .i64 a7), .val (.string a8), .slice a9]]) (res := r48)
    (fun ds a h => by
      unfold d48 at h
      split at h
      · cases h; rfl
      · cases h)
    (fun v r h => by
      unfold r48 at h
      split at h
      · rename_i hv; cases h; exact hv
      · cases h)
    (fun _ => rfl) N48 64
def d15 (ds : List D) : Option (Int × Int × Int × ByteArray × List D) := match ds with
  | [.agg [.val (.int .i64 a0), .val (.int .i64 a1), .val (.int .i64 a2), .val (.string a3), .slice a4]] => some (a0, a1, a2, a3, a4)
  | _ => none
def r15 (v : AV) : Option (Int × Int × Int × ByteArray × List D) := match toPR v with
  | some (.one (.agg [.val (.int .i64 a5), .val (.int .i64 a6), .val (.int .i64 a7), .val (.string a8), .slice a9])) => some (a5, a6, a7, a8, a9)
  | _ => none
def n15 : Int × Int × Int × ByteArray × List D → Option (Int × Int × Int × ByteArray × List D) := fun (a0, a1, a2, a3, a4) => ((n36 64 (a0, a1, a2, a3, a4, 0, 1)).bind fun y10 => (bif (decide (y10 > 4096)) then (some (a0, a1, a2, a3, a4)) else ((n37 64 (a0, a1, a2, a3, a4)).bind fun y11 => (some (y11.1, y11.2.1, y11.2.2.1, y11.2.2.2.1, y11.2.2.2.2)))))
def e15 : PureE := mkE d15 n15 (fun (a5, a6, a7, a8, a9) => .one (.agg [.val (.int .i64 a5), .val (.int .i64 a6), .val (.int .i64 a7), .val (.string a8), .slice a9]))
def g15 {σ : Type} : Nat → Option (SegE σ)
  | _ => none
theorem N15 : ∀ a, n15 a = bodyK (cfgOf Tryz.prog (tabsS1 gl) tS1) (toldOf tS1) noY (inlN (cfgOf Tryz.prog (tabsS1 gl) tS1) (toldOf tS1) noY) g15 15 Tryz.f15 (((fun (a0, a1, a2, a3, a4) => [.agg [.val (.int .i64 a0), .val (.int .i64 a1), .val (.int .i64 a2), .val (.string a3), .slice a4]] : (Int × Int × Int × ByteArray × List D) → List D) a).map .d) [] [] () (fun v _ _ _ => r15 v) := by
  intro a
  obtain ⟨a0, a1, a2, a3, a4⟩ := a
  kernel_rfl
noncomputable def t15 : Tab := (15, e15) :: tS1
theorem ok15 (hl : LibFits gl) : TabOk Tryz.prog gl t15 :=
  told_fn (okS1 hl) mixed (oddOkS1 hl) Tryz.func15 (by kernel_rfl) (by kernel_rfl) (by kernel_rfl) (segs_no (by kernel_rfl))
    (args := fun (a0, a1, a2, a3, a4) => [.agg [.val (.int .i64 a0), .val (.int .i64 a1), .val (.int .i64 a2), .val (.string a3), .slice a4]]) (res := r15)
    (fun ds a h => by
      unfold d15 at h
      split at h
      · cases h; rfl
      · cases h)
    (fun v r h => by
      unfold r15 at h
      split at h
      · rename_i hv; cases h; exact hv
      · cases h)
    N15
noncomputable def tS2 : Tab := (61, e61) :: (63, e63) :: (104, e104) :: (70, e70) :: (64, e64) :: (48, e48) :: (15, e15) :: tS1
theorem okS2 (hl : LibFits gl) : TabOk Tryz.prog gl tS2 :=
  TabOk.cons (TabOk.cons (TabOk.cons (TabOk.cons (TabOk.cons (TabOk.cons (TabOk.cons (okS1 hl) ((ok15 hl).fair (15, e15) (List.mem_cons_self (l := tS1))) ((ok15 hl).spec (15, e15) (List.mem_cons_self (l := tS1)))) ((ok48 hl).fair (48, e48) (List.mem_cons_self (l := tS1))) ((ok48 hl).spec (48, e48) (List.mem_cons_self (l := tS1)))) ((ok64 hl).fair (64, e64) (List.mem_cons_self (l := tS1))) ((ok64 hl).spec (64, e64) (List.mem_cons_self (l := tS1)))) ((ok70 hl).fair (70, e70) (List.mem_cons_self (l := tS1))) ((ok70 hl).spec (70, e70) (List.mem_cons_self (l := tS1)))) ((ok104 hl).fair (104, e104) (List.mem_cons_self (l := tS1))) ((ok104 hl).spec (104, e104) (List.mem_cons_self (l := tS1)))) ((ok63 hl).fair (63, e63) (List.mem_cons_self (l := tS1))) ((ok63 hl).spec (63, e63) (List.mem_cons_self (l := tS1)))) ((ok61 hl).fair (61, e61) (List.mem_cons_self (l := tS1))) ((ok61 hl).spec (61, e61) (List.mem_cons_self (l := tS1)))
abbrev A68_0 := ByteArray × List D × Int × Nat
inductive O68_0 where
  | x0 (o7 : List D) (q8 : Nat)
def l68_0 : LoopS A68_0 O68_0 where
  n := 22
  ks := [0, 3, 4]
  kso := [3]
  m := 0
  mt := 2
  decV := fun vs bs ts => match vs, bs, ts with
    | [.d (.val (.string v2)), .osl 1 v3, .d (.val (.int .i64 v4))], [], [k5, _] => some (v2, v3, v4, k5)
    | _, _, _ => none
  encV := fun (v2, v3, v4, k5) => [.d (.val (.string v2)), .osl 1 v3, .d (.val (.int .i64 v4))]
  encB := fun (v2, v3, v4, k5) => []
  tk := fun (v2, v3, v4, k5) => [k5, v3.length]
  decO := fun ex vs bs ts => match ex, vs, bs, ts with
    | .normal, [.osl 1 o7], [], [q8, _] => some (.x0 o7 q8)
    | _, _, _, _ => none
  exO := fun x => match x with
    | .x0 o7 q8 => .normal
  outV := fun x => match x with
    | .x0 o7 q8 => [.osl 1 o7]
  outB := fun x => match x with
    | .x0 o7 q8 => []
  tkO := fun x => match x with
    | .x0 o7 q8 => [q8, o7.length]
  elim := fun x k => match x with
    | .x0 o7 q8 => k .normal [.osl 1 o7] [] [q8, o7.length]
theorem k68_0 : l68_0.Ok where
  ok1 := by kernel_rfl
  ok2 := by kernel_rfl
  dec := by
    intro vs bs ts a h
    simp only [l68_0] at h ⊢
    split at h
    · cases h; exact ⟨rfl, rfl⟩
    · cases h
  out := by
    intro ex vs bs ts o h
    simp only [l68_0] at h ⊢
    split at h
    · cases h; exact ⟨rfl, rfl, rfl⟩
    · cases h
  len := fun _ => ⟨rfl, rfl⟩
  elim := fun β o k => by cases o <;> rfl
def L68_0 {σ : Type} : Nat → A68_0 → σ → Option (O68_0 × σ)
  | 0, _, _ => none
  | n+1, (v2, v3, v4, k5), s => (bif (decide (v4 < (v2.size : Int))) then ((n104 (v2, v4)).bind fun y6 => (ask (addOk v3.length v3 ([.agg [.val (.int .i64 y6.1), .val (.int .i64 y6.2.1), .val (.int .i64 y6.2.2)]] : List D) 3 24) (ask (([k5, (v3.length + ([.agg [.val (.int .i64 y6.1), .val (.int .i64 y6.2.1), .val (.int .i64 y6.2.2)]] : List D).length)] : List Nat) = [k5, (v3 ++ ([.agg [.val (.int .i64 y6.1), .val (.int .i64 y6.2.1), .val (.int .i64 y6.2.2)]] : List D)).length]) (L68_0 n (v2, (v3 ++ ([.agg [.val (.int .i64 y6.1), .val (.int .i64 y6.2.1), .val (.int .i64 y6.2.2)]] : List D)), (w64 (v4 + y6.2.2)), k5) s)))) else (ask (([k5, v3.length] : List Nat) = [k5, v3.length]) (some (O68_0.x0 v3 k5, s))))
def d68 (ds : List D) : Option (ByteArray) := match ds with
  | [.val (.string a0)] => some a0
  | _ => none
def r68 (v : AV) : Option (List D) := match toPR v with
  | some (.one (.slice a1)) => some a1
  | _ => none
def n68 : ByteArray → Option (List D) := fun a0 => (ask (([0, 0] : List Nat) = [0, ([] : List D).length]) ((L68_0 1000000000000 (a0, ([] : List D), 0, 0) ()).bind fun p9 => match p9.1 with | .x0 z10 z11 => (some z10)))
def e68 : PureE := mkE d68 n68 (fun a1 => .one (.slice a1))
def g68 {σ : Type} : Nat → Option (SegE σ)
  | 0 => some (l68_0.seg σ (L68_0 1000000000000))
  | _ => none
theorem E68_0 {σ : Type} (Y : Yd σ) : ∀ n a (s : σ), L68_0 (n + 1) a s = evK (cfgOf Tryz.prog (tabsS1 gl) tS2) (toldOf tS2) Y (inlN (cfgOf Tryz.prog (tabsS1 gl) tS2) (toldOf tS2) Y) g68 68 (loopAt Tryz.f68 0) ((l68_0.toT σ).enc a s) (fun ex st' => l68_0.next (cfgOf Tryz.prog (tabsS1 gl) tS2) 68 0 (L68_0 n) ex st') := by
  intro n ⟨v2, v3, v4, k5⟩ s
  kernel_rfl
theorem Q68_0 {σ : Type} (hl : LibFits gl) (Y : Yd σ) (rnd : Bool) : SegOk (cfgOf Tryz.prog (tabsS1 gl) tS2) (evFn (cfgOf Tryz.prog (tabsS1 gl) tS2) 9) 68 rnd Y (l68_0.seg σ (L68_0 1000000000000)) (.block 0 (.loop (loopAt Tryz.f68 0))) :=
  told_loop (okS2 hl) k68_0 (by kernel_rfl) (by kernel_rfl) (fun _ _ => rfl) (segs_no (by kernel_rfl)) (E68_0 Y) (hr := by kernel_rfl)
theorem N68 : ∀ a, n68 a = bodyK (cfgOf Tryz.prog (tabsS1 gl) tS2) (toldOf tS2) noY (inlN (cfgOf Tryz.prog (tabsS1 gl) tS2) (toldOf tS2) noY) g68 68 Tryz.f68 (((fun a0 => [.val (.string a0)] : (ByteArray) → List D) a).map .d) [] [] () (fun v _ _ _ => r68 v) := by
  intro a0
  kernel_rfl
noncomputable def t68 : Tab := (68, e68) :: tS2
theorem ok68 (hl : LibFits gl) : TabOk Tryz.prog gl t68 :=
  told_fn (okS2 hl) mixed (oddOkS1 hl) Tryz.func68 (by kernel_rfl) (by kernel_rfl) (by kernel_rfl) (fun p hp e he => by
    have hq : segsOf (σ := Unit) (g68 (σ := Unit)) (bodyOf Tryz.f68) = [(0, .loop (loopAt Tryz.f68 0))] := by kernel_rfl
    rw [hq] at hp
    simp only [List.mem_cons, List.not_mem_nil, or_false] at hp
    subst hp
    cases he
    exact Q68_0 hl _ _)
    (args := fun a0 => [.val (.string a0)]) (res := r68)
    (fun ds a h => by
      unfold d68 at h
      split at h
      · cases h; rfl
      · cases h)
    (fun v r h => by
      unfold r68 at h
      split at h
      · rename_i hv; cases h; exact hv
      · cases h)
    N68
abbrev A39_0 := Int × ByteArray × Nat
inductive O39_0 where
  | x0 (o6 : Int) (o7 : ByteArray) (o8 : Nat)
  | x1 (o9 : Int) (o10 : ByteArray) (o11 : Nat)
def l39_0 : LoopS A39_0 O39_0 where
  n := 38
  ks := [3, 7]
  kso := [2, 3]
  m := 1
  mt := 0
  decV := fun vs bs ts => match vs, bs, ts with
    | [.d (.val (.int .i64 v2)), .iter 0], [.iter v3 v4], [] => some (v2, v3, v4)
    | _, _, _ => none
  encV := fun (v2, v3, v4) => [.d (.val (.int .i64 v2)), .iter 0]
  encB := fun (v2, v3, v4) => [.iter v3 v4]
  tk := fun _ => []
  decO := fun ex vs bs ts => match ex, vs, bs, ts with
    | .ret, [.d (.val (.int .i64 o6)), .undef], [.iter o7 o8], [] => some (.x0 o6 o7 o8)
    | .normal, [.undef, .d (.val (.int .i64 o9))], [.iter o10 o11], [] => some (.x1 o9 o10 o11)
    | _, _, _, _ => none
  exO := fun x => match x with
    | .x0 o6 o7 o8 => .ret
    | .x1 o9 o10 o11 => .normal
  outV := fun x => match x with
    | .x0 o6 o7 o8 => [.d (.val (.int .i64 o6)), .undef]
    | .x1 o9 o10 o11 => [.undef, .d (.val (.int .i64 o9))]
  outB := fun x => match x with
    | .x0 o6 o7 o8 => [.iter o7 o8]
    | .x1 o9 o10 o11 => [.iter o10 o11]
  tkO := fun x => match x with
    | .x0 o6 o7 o8 => []
    | .x1 o9 o10 o11 => []
  elim := fun x k => match x with
    | .x0 o6 o7 o8 => k .ret [.d (.val (.int .i64 o6)), .undef] [.iter o7 o8] []
    | .x1 o9 o10 o11 => k .normal [.undef, .d (.val (.int .i64 o9))] [.iter o10 o11] []
theorem k39_0 : l39_0.Ok where
  ok1 := by kernel_rfl
  ok2 := by kernel_rfl
  dec := by
    intro vs bs ts a h
    simp only [l39_0] at h ⊢
    split at h
    · cases h; exact ⟨rfl, rfl⟩
    · cases h
  out := by
    intro ex vs bs ts o h
    simp only [l39_0] at h ⊢
    split at h
    · cases h; exact ⟨rfl, rfl, rfl⟩
    · cases h; exact ⟨rfl, rfl, rfl⟩
    · cases h
  len := fun _ => ⟨rfl, rfl⟩
  elim := fun β o k => by cases o <;> rfl
def L39_0 {σ : Type} : Nat → A39_0 → σ → Option (O39_0 × σ)
  | 0, _, _ => none
  | n+1, (v2, v3, v4), s => (bif decide (v4 < v3.size) then ((n64 ((Utf8.decode v3 v4).1 : Int)).bind fun y5 => (bif (!y5) then (bif ((w64 (v2 + 1)) == 1) then (some (O39_0.x0 21 v3 (v4 + (Utf8.decode v3 v4).2), s)) else (bif (((Utf8.decode v3 v4).1 : Int) != 39) then (bif (decide (((Utf8.decode v3 v4).1 : Int) < 48)) then (some (O39_0.x0 21 v3 (v4 + (Utf8.decode v3 v4).2), s)) else (bif (decide (((Utf8.decode v3 v4).1 : Int) > 57)) then (some (O39_0.x0 21 v3 (v4 + (Utf8.decode v3 v4).2), s)) else (L39_0 n ((w64 (v2 + 1)), v3, (v4 + (Utf8.decode v3 v4).2)) s))) else (L39_0 n ((w64 (v2 + 1)), v3, (v4 + (Utf8.decode v3 v4).2)) s))) else (L39_0 n ((w64 (v2 + 1)), v3, (v4 + (Utf8.decode v3 v4).2)) s))) else (some (O39_0.x1 v2 v3 v4, s)))
def d39 (ds : List D) : Option (ByteArray) := match ds with
  | [.val (.string a0)] => some a0
  | _ => none
def r39 (v : AV) : Option (Int) := match toPR v with
  | some (.one (.val (.int .i64 a1))) => some a1
  | _ => none
def n39 : ByteArray → Option (Int) := fun a0 => ((L39_0 1000000000000 (0, a0, 0) ()).bind fun p12 => match p12.1 with | .x0 z13 z14 z15 => (some z13) | .x1 z16 z17 z18 => (bif (bif (z16 == 0) then true else (decide (z16 > 32))) then (some 21) else (some 0)))
def e39 : PureE := mkE d39 n39 (fun a1 => .one (.val (.int .i64 a1)))
def g39 {σ : Type} : Nat → Option (SegE σ)
  | 0 => some (l39_0.seg σ (L39_0 1000000000000))
  | _ => none
theorem E39_0 {σ : Type} (Y : Yd σ) : ∀ n a (s : σ), L39_0 (n + 1) a s = evK (cfgOf Tryz.prog (tabsS1 gl) tS2) (toldOf tS2) Y (inlN (cfgOf Tryz.prog (tabsS1 gl) tS2) (toldOf tS2) Y) g39 39 (loopAt Tryz.f39 0) ((l39_0.toT σ).enc a s) (fun ex st' => l39_0.next (cfgOf Tryz.prog (tabsS1 gl) tS2) 39 0 (L39_0 n) ex st') := by
  intro n ⟨v2, v3, v4⟩ s
  kernel_rfl
theorem Q39_0 {σ : Type} (hl : LibFits gl) (Y : Yd σ) (rnd : Bool) : SegOk (cfgOf Tryz.prog (tabsS1 gl) tS2) (evFn (cfgOf Tryz.prog (tabsS1 gl) tS2) 9) 39 rnd Y (l39_0.seg σ (L39_0 1000000000000)) (.block 0 (.loop (loopAt Tryz.f39 0))) :=
  told_loop (okS2 hl) k39_0 (by kernel_rfl) (by kernel_rfl) (fun _ _ => rfl) (segs_no (by kernel_rfl)) (E39_0 Y) (hr := by kernel_rfl)
theorem N39 : ∀ a, n39 a = bodyK (cfgOf Tryz.prog (tabsS1 gl) tS2) (toldOf tS2) noY (inlN (cfgOf Tryz.prog (tabsS1 gl) tS2) (toldOf tS2) noY) g39 39 Tryz.f39 (((fun a0 => [.val (.string a0)] : (ByteArray) → List D) a).map .d) [] [] () (fun v _ _ _ => r39 v) := by
  intro a0
  kernel_rfl
noncomputable def t39 : Tab := (39, e39) :: tS2
theorem ok39 (hl : LibFits gl) : TabOk Tryz.prog gl t39 :=
  told_fn (okS2 hl) mixed (oddOkS1 hl) Tryz.func39 (by kernel_rfl) (by kernel_rfl) (by kernel_rfl) (fun p hp e he => by
    have hq : segsOf (σ := Unit) (g39 (σ := Unit)) (bodyOf Tryz.f39) = [(0, .loop (loopAt Tryz.f39 0))] := by kernel_rfl
    rw [hq] at hp
    simp only [List.mem_cons, List.not_mem_nil, or_false] at hp
    subst hp
    cases he
    exact Q39_0 hl _ _)
    (args := fun a0 => [.val (.string a0)]) (res := r39)
    (fun ds a h => by
      unfold d39 at h
      split at h
      · cases h; rfl
      · cases h)
    (fun v r h => by
      unfold r39 at h
      split at h
      · rename_i hv; cases h; exact hv
      · cases h)
    N39
def d23 (ds : List D) : Option (Int × Int × Int × ByteArray × List D × Int × Int × Int × ByteArray × List D) := match ds with
  | [.agg [.val (.int .i64 a0), .val (.int .i64 a1), .val (.int .i64 a2), .val (.string a3), .slice a4], .agg [.val (.int .i64 a5), .val (.int .i64 a6), .val (.int .i64 a7), .val (.string a8), .slice a9]] => some (a0, a1, a2, a3, a4, a5, a6, a7, a8, a9)
  | _ => none
def r23 (v : AV) : Option (Bool) := match toPR v with
  | some (.one (.val (.bool a10))) => some a10
  | _ => none
def n23 : Int × Int × Int × ByteArray × List D × Int × Int × Int × ByteArray × List D → Option (Bool) := fun (a0, a1, a2, a3, a4, a5, a6, a7, a8, a9) => ((n48 64 (a0, a1, a2, a3, a4, a5, a6, a7, a8, a9)).bind fun y11 => (some (y11 == 0)))
def e23 : PureE := mkE d23 n23 (fun a10 => .one (.val (.bool a10)))
def g23 {σ : Type} : Nat → Option (SegE σ)
  | _ => none
theorem N23 : ∀ a, n23 a = bodyK (cfgOf Tryz.prog (tabsS1 gl) tS2) (toldOf tS2) noY (inlN (cfgOf Tryz.prog (tabsS1 gl) tS2) (toldOf tS2) noY) g23 23 Tryz.f23 (((fun (a0, a1, a2, a3, a4, a5, a6, a7, a8, a9) => [.agg [.val (.int .i64 a0), .val (.int .i64 a1), .val (.int .i64 a2), .val (.string a3), .slice a4], .agg [.val (.int .i64 a5), .val (.int .i64 a6), .val (.int .i64 a7), .val (.string a8), .slice a9]] : (Int × Int × Int × ByteArray × List D × Int × Int × Int × ByteArray × List D) → List D) a).map .d) [] [] () (fun v _ _ _ => r23 v) := by
  intro a
  obtain ⟨a0, a1, a2, a3, a4, a5, a6, a7, a8, a9⟩ := a
  kernel_rfl
noncomputable def t23 : Tab := (23, e23) :: tS2
theorem ok23 (hl : LibFits gl) : TabOk Tryz.prog gl t23 :=
  told_fn (okS2 hl) mixed (oddOkS1 hl) Tryz.func23 (by kernel_rfl) (by kernel_rfl) (by kernel_rfl) (segs_no (by kernel_rfl))
    (args := fun (a0, a1, a2, a3, a4, a5, a6, a7, a8, a9) => [.agg [.val (.int .i64 a0), .val (.int .i64 a1), .val (.int .i64 a2), .val (.string a3), .slice a4], .agg [.val (.int .i64 a5), .val (.int .i64 a6), .val (.int .i64 a7), .val (.string a8), .slice a9]]) (res := r23)
    (fun ds a h => by
      unfold d23 at h
      split at h
      · cases h; rfl
      · cases h)
    (fun v r h => by
      unfold r23 at h
      split at h
      · rename_i hv; cases h; exact hv
      · cases h)
    N23
noncomputable def tS3 : Tab := (68, e68) :: (39, e39) :: (23, e23) :: tS2
theorem okS3 (hl : LibFits gl) : TabOk Tryz.prog gl tS3 :=
  TabOk.cons (TabOk.cons (TabOk.cons (okS2 hl) ((ok23 hl).fair (23, e23) (List.mem_cons_self (l := tS2))) ((ok23 hl).spec (23, e23) (List.mem_cons_self (l := tS2)))) ((ok39 hl).fair (39, e39) (List.mem_cons_self (l := tS2))) ((ok39 hl).spec (39, e39) (List.mem_cons_self (l := tS2)))) ((ok68 hl).fair (68, e68) (List.mem_cons_self (l := tS2))) ((ok68 hl).spec (68, e68) (List.mem_cons_self (l := tS2)))
abbrev A45_0 := List D × Int
inductive O45_0 where
  | x0 (o13 : Bool)
  | x1 
def l45_0 : LoopS A45_0 O45_0 where
  n := 36
  ks := [3, 4]
  kso := [2]
  m := 0
  mt := 0
  decV := fun vs bs ts => match vs, bs, ts with
    | [.d (.slice v7), .d (.val (.int .i64 v8))], [], [] => some (v7, v8)
    | _, _, _ => none
  encV := fun (v7, v8) => [.d (.slice v7), .d (.val (.int .i64 v8))]
  encB := fun (v7, v8) => []
  tk := fun _ => []
  decO := fun ex vs bs ts => match ex, vs, bs, ts with
    | .ret, [.d (.val (.bool o13))], [], [] => some (.x0 o13)
    | .normal, [.undef], [], [] => some (.x1 )
    | _, _, _, _ => none
  exO := fun x => match x with
    | .x0 o13 => .ret
    | .x1  => .normal
  outV := fun x => match x with
    | .x0 o13 => [.d (.val (.bool o13))]
    | .x1  => [.undef]
  outB := fun x => match x with
    | .x0 o13 => []
    | .x1  => []
  tkO := fun x => match x with
    | .x0 o13 => []
    | .x1  => []
  elim := fun x k => match x with
    | .x0 o13 => k .ret [.d (.val (.bool o13))] [] []
    | .x1  => k .normal [.undef] [] []
theorem k45_0 : l45_0.Ok where
  ok1 := by kernel_rfl
  ok2 := by kernel_rfl
  dec := by
    intro vs bs ts a h
    simp only [l45_0] at h ⊢
    split at h
    · cases h; exact ⟨rfl, rfl⟩
    · cases h
  out := by
    intro ex vs bs ts o h
    simp only [l45_0] at h ⊢
    split at h
    · cases h; exact ⟨rfl, rfl, rfl⟩
    · cases h; exact ⟨rfl, rfl, rfl⟩
    · cases h
  len := fun _ => ⟨rfl, rfl⟩
  elim := fun β o k => by cases o <;> rfl
def L45_0 {σ : Type} : Nat → A45_0 → σ → Option (O45_0 × σ)
  | 0, _, _ => none
  | n+1, (v7, v8), s => (bif (decide (v8 < ((v7.length : Nat) : Int))) then ((lidx v7 v8).bind fun d9 => ask (d9.cells.length = 3) ((cellAt 0 d9).bind fun x10 => (asInt .i64 x10).bind fun x11 => ((n70 x11).bind fun y12 => (bif (!y12) then (some (O45_0.x0 false, s)) else (L45_0 n (v7, (w64 (v8 + 1))) s))))) else (some (O45_0.x1 , s)))
def d45 (ds : List D) : Option (ByteArray) := match ds with
  | [.val (.string a0)] => some a0
  | _ => none
def r45 (v : AV) : Option (Bool) := match toPR v with
  | some (.one (.val (.bool a1))) => some a1
  | _ => none
def n45 : ByteArray → Option (Bool) := fun a0 => ((n68 a0).bind fun y2 => (bif (bif (decide (((y2.length : Nat) : Int) < 1)) then true else (decide (((y2.length : Nat) : Int) > 32))) then (some false) else ((lidx y2 0).bind fun d3 => ask (d3.cells.length = 3) ((cellAt 0 d3).bind fun x4 => (asInt .i64 x4).bind fun x5 => ((n69 x5).bind fun y6 => (bif (!y6) then (some false) else ((L45_0 1000000000000 (y2, 1) ()).bind fun p14 => match p14.1 with | .x0 z15 => (some z15) | .x1  => (some true))))))))
def e45 : PureE := mkE d45 n45 (fun a1 => .one (.val (.bool a1)))
def g45 {σ : Type} : Nat → Option (SegE σ)
  | 0 => some (l45_0.seg σ (L45_0 1000000000000))
  | _ => none
theorem E45_0 {σ : Type} (Y : Yd σ) : ∀ n a (s : σ), L45_0 (n + 1) a s = evK (cfgOf Tryz.prog (tabsS1 gl) tS3) (toldOf tS3) Y (inlN (cfgOf Tryz.prog (tabsS1 gl) tS3) (toldOf tS3) Y) g45 45 (loopAt Tryz.f45 0) ((l45_0.toT σ).enc a s) (fun ex st' => l45_0.next (cfgOf Tryz.prog (tabsS1 gl) tS3) 45 0 (L45_0 n) ex st') := by
  intro n ⟨v7, v8⟩ s
  kernel_rfl
theorem Q45_0 {σ : Type} (hl : LibFits gl) (Y : Yd σ) (rnd : Bool) : SegOk (cfgOf Tryz.prog (tabsS1 gl) tS3) (evFn (cfgOf Tryz.prog (tabsS1 gl) tS3) 9) 45 rnd Y (l45_0.seg σ (L45_0 1000000000000)) (.block 0 (.loop (loopAt Tryz.f45 0))) :=
  told_loop (okS3 hl) k45_0 (by kernel_rfl) (by kernel_rfl) (fun _ _ => rfl) (segs_no (by kernel_rfl)) (E45_0 Y) (hr := by kernel_rfl)
theorem N45 : ∀ a, n45 a = bodyK (cfgOf Tryz.prog (tabsS1 gl) tS3) (toldOf tS3) noY (inlN (cfgOf Tryz.prog (tabsS1 gl) tS3) (toldOf tS3) noY) g45 45 Tryz.f45 (((fun a0 => [.val (.string a0)] : (ByteArray) → List D) a).map .d) [] [] () (fun v _ _ _ => r45 v) := by
  intro a0
  kernel_rfl
noncomputable def t45 : Tab := (45, e45) :: tS3
theorem ok45 (hl : LibFits gl) : TabOk Tryz.prog gl t45 :=
  told_fn (okS3 hl) mixed (oddOkS1 hl) Tryz.func45 (by kernel_rfl) (by kernel_rfl) (by kernel_rfl) (fun p hp e he => by
    have hq : segsOf (σ := Unit) (g45 (σ := Unit)) (bodyOf Tryz.f45) = [(0, .loop (loopAt Tryz.f45 0))] := by kernel_rfl
    rw [hq] at hp
    simp only [List.mem_cons, List.not_mem_nil, or_false] at hp
    subst hp
    cases he
    exact Q45_0 hl _ _)
    (args := fun a0 => [.val (.string a0)]) (res := r45)
    (fun ds a h => by
      unfold d45 at h
      split at h
      · cases h; rfl
      · cases h)
    (fun v r h => by
      unfold r45 at h
      split at h
      · rename_i hv; cases h; exact hv
      · cases h)
    N45
def d97 (ds : List D) : Option (ByteArray) := match ds with
  | [.val (.string a0)] => some a0
  | _ => none
def r97 (v : AV) : Option (Bool) := match toPR v with
  | some (.one (.val (.bool a1))) => some a1
  | _ => none
def n97 : ByteArray → Option (Bool) := fun a0 => ((n39 a0).bind fun y2 => (some (bif (bif (y2 == 0) then (!(sEq a0 (⟨#[116, 114, 117, 101]⟩ : ByteArray))) else false) then (!(sEq a0 (⟨#[102, 97, 108, 115, 101]⟩ : ByteArray))) else false)))
def e97 : PureE := mkE d97 n97 (fun a1 => .one (.val (.bool a1)))
def g97 {σ : Type} : Nat → Option (SegE σ)
  | _ => none
theorem N97 : ∀ a, n97 a = bodyK (cfgOf Tryz.prog (tabsS1 gl) tS3) (toldOf tS3) noY (inlN (cfgOf Tryz.prog (tabsS1 gl) tS3) (toldOf tS3) noY) g97 97 Tryz.f97 (((fun a0 => [.val (.string a0)] : (ByteArray) → List D) a).map .d) [] [] () (fun v _ _ _ => r97 v) := by
  intro a0
  kernel_rfl
noncomputable def t97 : Tab := (97, e97) :: tS3
theorem ok97 (hl : LibFits gl) : TabOk Tryz.prog gl t97 :=
  told_fn (okS3 hl) mixed (oddOkS1 hl) Tryz.func97 (by kernel_rfl) (by kernel_rfl) (by kernel_rfl) (segs_no (by kernel_rfl))
    (args := fun a0 => [.val (.string a0)]) (res := r97)
    (fun ds a h => by
      unfold d97 at h
      split at h
      · cases h; rfl
      · cases h)
    (fun v r h => by
      unfold r97 at h
      split at h
      · rename_i hv; cases h; exact hv
      · cases h)
    N97
def d38 (ds : List D) : Option (ByteArray) := match ds with
  | [.val (.string a0)] => some a0
  | _ => none
def r38 (v : AV) : Option (Bool) := match toPR v with
  | some (.one (.val (.bool a1))) => some a1
  | _ => none
def n38 : ByteArray → Option (Bool) := fun a0 => ((n39 a0).bind fun y2 => (some (bif (bif (y2 == 0) then (!(sEq a0 (⟨#[116, 114, 117, 101]⟩ : ByteArray))) else false) then (!(sEq a0 (⟨#[102, 97, 108, 115, 101]⟩ : ByteArray))) else false)))
def e38 : PureE := mkE d38 n38 (fun a1 => .one (.val (.bool a1)))
def g38 {σ : Type} : Nat → Option (SegE σ)
  | _ => none
theorem N38 : ∀ a, n38 a = bodyK (cfgOf Tryz.prog (tabsS1 gl) tS3) (toldOf tS3) noY (inlN (cfgOf Tryz.prog (tabsS1 gl) tS3) (toldOf tS3) noY) g38 38 Tryz.f38 (((fun a0 => [.val (.string a0)] : (ByteArray) → List D) a).map .d) [] [] () (fun v _ _ _ => r38 v) := by
  intro a0
  kernel_rfl
noncomputable def t38 : Tab := (38, e38) :: tS3
theorem ok38 (hl : LibFits gl) : TabOk Tryz.prog gl t38 :=
  told_fn (okS3 hl) mixed (oddOkS1 hl) Tryz.func38 (by kernel_rfl) (by kernel_rfl) (by kernel_rfl) (segs_no (by kernel_rfl))
    (args := fun a0 => [.val (.string a0)]) (res := r38)
    (fun ds a h => by
      unfold d38 at h
      split at h
      · cases h; rfl
      · cases h)
    (fun v r h => by
      unfold r38 at h
      split at h
      · rename_i hv; cases h; exact hv
      · cases h)
    N38
noncomputable def tS4 : Tab := (45, e45) :: (97, e97) :: (38, e38) :: tS3
theorem okS4 (hl : LibFits gl) : TabOk Tryz.prog gl tS4 :=
  TabOk.cons (TabOk.cons (TabOk.cons (okS3 hl) ((ok38 hl).fair (38, e38) (List.mem_cons_self (l := tS3))) ((ok38 hl).spec (38, e38) (List.mem_cons_self (l := tS3)))) ((ok97 hl).fair (97, e97) (List.mem_cons_self (l := tS3))) ((ok97 hl).spec (97, e97) (List.mem_cons_self (l := tS3)))) ((ok45 hl).fair (45, e45) (List.mem_cons_self (l := tS3))) ((ok45 hl).spec (45, e45) (List.mem_cons_self (l := tS3)))
def d74 (ds : List D) : Option (ByteArray) := match ds with
  | [.val (.string a0)] => some a0
  | _ => none
def r74 (v : AV) : Option (Bool) := match toPR v with
  | some (.one (.val (.bool a1))) => some a1
  | _ => none
def n74 : ByteArray → Option (Bool) := fun a0 => ((n45 a0).bind fun y2 => (some (bif (bif y2 then (!(sEq a0 (⟨#[116, 114, 117, 101]⟩ : ByteArray))) else false) then (!(sEq a0 (⟨#[102, 97, 108, 115, 101]⟩ : ByteArray))) else false)))
def e74 : PureE := mkE d74 n74 (fun a1 => .one (.val (.bool a1)))
def g74 {σ : Type} : Nat → Option (SegE σ)
  | _ => none
theorem N74 : ∀ a, n74 a = bodyK (cfgOf Tryz.prog (tabsS1 gl) tS4) (toldOf tS4) noY (inlN (cfgOf Tryz.prog (tabsS1 gl) tS4) (toldOf tS4) noY) g74 74 Tryz.f74 (((fun a0 => [.val (.string a0)] : (ByteArray) → List D) a).map .d) [] [] () (fun v _ _ _ => r74 v) := by
  intro a0
  kernel_rfl
noncomputable def t74 : Tab := (74, e74) :: tS4
theorem ok74 (hl : LibFits gl) : TabOk Tryz.prog gl t74 :=
  told_fn (okS4 hl) mixed (oddOkS1 hl) Tryz.func74 (by kernel_rfl) (by kernel_rfl) (by kernel_rfl) (segs_no (by kernel_rfl))
    (args := fun a0 => [.val (.string a0)]) (res := r74)
    (fun ds a h => by
      unfold d74 at h
      split at h
      · cases h; rfl
      · cases h)
    (fun v r h => by
      unfold r74 at h
      split at h
      · rename_i hv; cases h; exact hv
      · cases h)
    N74
def d44 (ds : List D) : Option (ByteArray) := match ds with
  | [.val (.string a0)] => some a0
  | _ => none
def r44 (v : AV) : Option (Bool) := match toPR v with
  | some (.one (.val (.bool a1))) => some a1
  | _ => none
def n44 : ByteArray → Option (Bool) := fun a0 => ((n45 a0).bind fun y2 => (some (bif (bif y2 then (!(sEq a0 (⟨#[116, 114, 117, 101]⟩ : ByteArray))) else false) then (!(sEq a0 (⟨#[102, 97, 108, 115, 101]⟩ : ByteArray))) else false)))
def e44 : PureE := mkE d44 n44 (fun a1 => .one (.val (.bool a1)))
def g44 {σ : Type} : Nat → Option (SegE σ)
  | _ => none
theorem N44 : ∀ a, n44 a = bodyK (cfgOf Tryz.prog (tabsS1 gl) tS4) (toldOf tS4) noY (inlN (cfgOf Tryz.prog (tabsS1 gl) tS4) (toldOf tS4) noY) g44 44 Tryz.f44 (((fun a0 => [.val (.string a0)] : (ByteArray) → List D) a).map .d) [] [] () (fun v _ _ _ => r44 v) := by
  intro a0
  kernel_rfl
noncomputable def t44 : Tab := (44, e44) :: tS4
theorem ok44 (hl : LibFits gl) : TabOk Tryz.prog gl t44 :=
  told_fn (okS4 hl) mixed (oddOkS1 hl) Tryz.func44 (by kernel_rfl) (by kernel_rfl) (by kernel_rfl) (segs_no (by kernel_rfl))
    (args := fun a0 => [.val (.string a0)]) (res := r44)
    (fun ds a h => by
      unfold d44 at h
      split at h
      · cases h; rfl
      · cases h)
    (fun v r h => by
      unfold r44 at h
      split at h
      · rename_i hv; cases h; exact hv
      · cases h)
    N44
abbrev A62_1 := List D × Int × Int × Int × Int × Int × ByteArray × List D
inductive O62_1 where
  | x0 (o29 : Bool) (o30 : Int) (o31 : Int) (o32 : Int) (o33 : ByteArray) (o34 : List D)
  | x1 (o47 : Int) (o48 : Int) (o49 : Int) (o50 : ByteArray) (o51 : List D)
def l62_1 : LoopS A62_1 O62_1 where
  n := 126
  ks := [1, 95, 96, 97]
  kso := [2]
  m := 1
  mt := 0
  decV := fun vs bs ts => match vs, bs, ts with
    | [.ptr 0 0, .d (.slice v9), .d (.val (.int .i64 v10)), .d (.val (.int .i64 v11))], [.cells none [.d (.val (.int .i64 v12)), .d (.val (.int .i64 v13)), .d (.val (.int .i64 v14)), .d (.val (.string v15)), .d (.slice v16)]], [] => some (v9, v10, v11, v12, v13, v14, v15, v16)
    | _, _, _ => none
  encV := fun (v9, v10, v11, v12, v13, v14, v15, v16) => [.ptr 0 0, .d (.slice v9), .d (.val (.int .i64 v10)), .d (.val (.int .i64 v11))]
  encB := fun (v9, v10, v11, v12, v13, v14, v15, v16) => [.cells none [.d (.val (.int .i64 v12)), .d (.val (.int .i64 v13)), .d (.val (.int .i64 v14)), .d (.val (.string v15)), .d (.slice v16)]]
  tk := fun _ => []
  decO := fun ex vs bs ts => match ex, vs, bs, ts with
    | .ret, [.d (.val (.bool o29))], [.cells none [.d (.val (.int .i64 o30)), .d (.val (.int .i64 o31)), .d (.val (.int .i64 o32)), .d (.val (.string o33)), .d (.slice o34)]], [] => some (.x0 o29 o30 o31 o32 o33 o34)
    | .normal, [.undef], [.cells none [.d (.val (.int .i64 o47)), .d (.val (.int .i64 o48)), .d (.val (.int .i64 o49)), .d (.val (.string o50)), .d (.slice o51)]], [] => some (.x1 o47 o48 o49 o50 o51)
    | _, _, _, _ => none
  exO := fun x => match x with
    | .x0 o29 o30 o31 o32 o33 o34 => .ret
    | .x1 o47 o48 o49 o50 o51 => .normal
  outV := fun x => match x with
    | .x0 o29 o30 o31 o32 o33 o34 => [.d (.val (.bool o29))]
    | .x1 o47 o48 o49 o50 o51 => [.undef]
  outB := fun x => match x with
    | .x0 o29 o30 o31 o32 o33 o34 => [.cells none [.d (.val (.int .i64 o30)), .d (.val (.int .i64 o31)), .d (.val (.int .i64 o32)), .d (.val (.string o33)), .d (.slice o34)]]
    | .x1 o47 o48 o49 o50 o51 => [.cells none [.d (.val (.int .i64 o47)), .d (.val (.int .i64 o48)), .d (.val (.int .i64 o49)), .d (.val (.string o50)), .d (.slice o51)]]
  tkO := fun x => match x with
    | .x0 o29 o30 o31 o32 o33 o34 => []
    | .x1 o47 o48 o49 o50 o51 => []
  elim := fun x k => match x with
    | .x0 o29 o30 o31 o32 o33 o34 => k .ret [.d (.val (.bool o29))] [.cells none [.d (.val (.int .i64 o30)), .d (.val (.int .i64 o31)), .d (.val (.int .i64 o32)), .d (.val (.string o33)), .d (.slice o34)]] []
    | .x1 o47 o48 o49 o50 o51 => k .normal [.undef] [.cells none [.d (.val (.int .i64 o47)), .d (.val (.int .i64 o48)), .d (.val (.int .i64 o49)), .d (.val (.string o50)), .d (.slice o51)]] []
theorem k62_1 : l62_1.Ok where
  ok1 := by kernel_rfl
  ok2 := by kernel_rfl
  dec := by
    intro vs bs ts a h
    simp only [l62_1] at h ⊢
    split at h
    · cases h; exact ⟨rfl, rfl⟩
    · cases h
  out := by
    intro ex vs bs ts o h
    simp only [l62_1] at h ⊢
    split at h
    · cases h; exact ⟨rfl, rfl, rfl⟩
    · cases h; exact ⟨rfl, rfl, rfl⟩
    · cases h
  len := fun _ => ⟨rfl, rfl⟩
  elim := fun β o k => by cases o <;> rfl
def L62_1 {σ : Type} (F : Int × Int × Int × ByteArray × List D → Option (Bool)) : Nat → A62_1 → σ → Option (O62_1 × σ)
  | 0, _, _ => none
  | n+1, (v9, v10, v11, v12, v13, v14, v15, v16), s => (bif (decide (v11 < v10)) then ((lidx v9 v11).bind fun d17 => ask (d17.cells.length = 5) ((cellAt 0 d17).bind fun x18 => (asInt .i64 x18).bind fun x19 => ((cellAt 1 d17).bind fun x20 => (asInt .i64 x20).bind fun x21 => ((cellAt 2 d17).bind fun x22 => (asInt .i64 x22).bind fun x23 => ((cellAt 3 d17).bind fun x24 => (asStr x24).bind fun x25 => ((cellAt 4 d17).bind fun x26 => (asRow x26).bind fun x27 => ((F (x19, x21, x23, x25, x27)).bind fun y28 => (bif (!y28) then (some (O62_1.x0 false v12 v13 v14 v15 v16, s)) else (bif (v12 == 7) then (bif (decide (v11 > 0)) then ((lidx v16 (w64 (v11 - 1))).bind fun d35 => ask (d35.cells.length = 5) ((cellAt 0 d35).bind fun x36 => (asInt .i64 x36).bind fun x37 => ((cellAt 1 d35).bind fun x38 => (asInt .i64 x38).bind fun x39 => ((cellAt 2 d35).bind fun x40 => (asInt .i64 x40).bind fun x41 => ((cellAt 3 d35).bind fun x42 => (asStr x42).bind fun x43 => ((cellAt 4 d35).bind fun x44 => (asRow x44).bind fun x45 => ((n63 64 (x37, x39, x41, x43, x45, x19, x21, x23, x25, x27)).bind fun y46 => (bif (decide (y46 ≥ 0)) then (some (O62_1.x0 false v12 v13 v14 v15 v16, s)) else (L62_1 F n (v9, v10, (w64 (v11 + 1)), v12, v13, v14, v15, v16) s))))))))) else (L62_1 F n (v9, v10, (w64 (v11 + 1)), v12, v13, v14, v15, v16) s)) else (L62_1 F n (v9, v10, (w64 (v11 + 1)), v12, v13, v14, v15, v16) s)))))))))) else (some (O62_1.x1 v12 v13 v14 v15 v16, s)))
def d62 (ds : List D) : Option (Int × Int × Int × ByteArray × List D) := match ds with
  | [.agg [.val (.int .i64 a0), .val (.int .i64 a1), .val (.int .i64 a2), .val (.string a3), .slice a4]] => some (a0, a1, a2, a3, a4)
  | _ => none
def r62 (v : AV) : Option (Bool) := match toPR v with
  | some (.one (.val (.bool a5))) => some a5
  | _ => none
def n62 : Nat → Int × Int × Int × ByteArray × List D → Option (Bool)
  | 0, _ => none
  | k + 1, (a0, a1, a2, a3, a4) => (bif (a0 == 1) then (bif (bif (bif (sEq a3 (⟨#[]⟩ : ByteArray)) then (((a4.length : Nat) : Int) == 0) else false) then (a2 == 0) else false) then (bif (a1 == 0) then (some true) else (some (a1 == 1))) else (some false)) else (bif (a0 == 2) then (some (bif (bif (sEq a3 (⟨#[]⟩ : ByteArray)) then (((a4.length : Nat) : Int) == 0) else false) then (a2 == 0) else false)) else (bif (a0 == 3) then (bif (bif (sEq a3 (⟨#[]⟩ : ByteArray)) then (((a4.length : Nat) : Int) == 0) else false) then ((n96 a1).bind fun y6 => (bif y6 then ((n96 a2).bind fun y7 => (some y7)) else (some false))) else (some false)) else (bif (a0 == 4) then (bif (bif (bif (a1 == 0) then (a2 == 0) else false) then (((a4.length : Nat) : Int) == 0) else false) then ((n97 a3).bind fun y8 => (some y8)) else (some false)) else (bif (a0 == 5) then (bif (bif (bif (a1 != 0) then true else (a2 != 0)) then true else (!(sEq a3 (⟨#[]⟩ : ByteArray)))) then (some false) else ((L62_1 (n62 k) 1000000000000 (a4, ((a4.length : Nat) : Int), 0, a0, a1, a2, a3, a4) ()).bind fun p52 => match p52.1 with | .x0 z53 z54 z55 z56 z57 z58 => (some z53) | .x1 z59 z60 z61 z62 z63 => (some true))) else (bif (a0 == 6) then (bif (bif (bif (a1 != 0) then true else (a2 != 0)) then true else (!(sEq a3 (⟨#[]⟩ : ByteArray)))) then (some false) else ((L62_1 (n62 k) 1000000000000 (a4, ((a4.length : Nat) : Int), 0, a0, a1, a2, a3, a4) ()).bind fun p107 => match p107.1 with | .x0 z108 z109 z110 z111 z112 z113 => (some z108) | .x1 z114 z115 z116 z117 z118 => (some true))) else (bif (a0 == 7) then (bif (bif (bif (a1 != 0) then true else (a2 != 0)) then true else (!(sEq a3 (⟨#[]⟩ : ByteArray)))) then (some false) else ((L62_1 (n62 k) 1000000000000 (a4, ((a4.length : Nat) : Int), 0, a0, a1, a2, a3, a4) ()).bind fun p162 => match p162.1 with | .x0 z163 z164 z165 z166 z167 z168 => (some z163) | .x1 z169 z170 z171 z172 z173 => (some true))) else (some false))))))))
def e62 : PureE := mkE d62 (n62 64) (fun a5 => .one (.val (.bool a5)))
def g62 (k : Nat) {σ : Type} : Nat → Option (SegE σ)
  | 1 => some (l62_1.seg σ (L62_1 (n62 k) 1000000000000))
  | _ => none
theorem E62_1 {σ : Type} (k : Nat) (Y : Yd σ) : ∀ n a (s : σ), L62_1 (n62 k) (n + 1) a s = evK (cfgOf Tryz.prog (tabsS1 gl) (((62, mkE d62 (n62 k) (fun a5 => .one (.val (.bool a5)))) :: tS4) : Tab)) (toldOf (((62, mkE d62 (n62 k) (fun a5 => .one (.val (.bool a5)))) :: tS4) : Tab)) Y (inlN (cfgOf Tryz.prog (tabsS1 gl) (((62, mkE d62 (n62 k) (fun a5 => .one (.val (.bool a5)))) :: tS4) : Tab)) (toldOf (((62, mkE d62 (n62 k) (fun a5 => .one (.val (.bool a5)))) :: tS4) : Tab)) Y) (g62 k) 62 (loopAt Tryz.f62 1) ((l62_1.toT σ).enc a s) (fun ex st' => l62_1.next (cfgOf Tryz.prog (tabsS1 gl) (((62, mkE d62 (n62 k) (fun a5 => .one (.val (.bool a5)))) :: tS4) : Tab)) 62 1 (L62_1 (n62 k) n) ex st') := by
  intro n ⟨v9, v10, v11, v12, v13, v14, v15, v16⟩ s
  kernel_rfl
theorem Q62_1 {σ : Type} (hl : LibFits gl) (k : Nat) (hk : TabOk Tryz.prog gl (((62, mkE d62 (n62 k) (fun a5 => .one (.val (.bool a5)))) :: tS4) : Tab)) (Y : Yd σ) (rnd : Bool) : SegOk (cfgOf Tryz.prog (tabsS1 gl) (((62, mkE d62 (n62 k) (fun a5 => .one (.val (.bool a5)))) :: tS4) : Tab)) (evFn (cfgOf Tryz.prog (tabsS1 gl) (((62, mkE d62 (n62 k) (fun a5 => .one (.val (.bool a5)))) :: tS4) : Tab)) 9) 62 rnd Y (l62_1.seg σ (L62_1 (n62 k) 1000000000000)) (.block 1 (.loop (loopAt Tryz.f62 1))) :=
  told_loop hk k62_1 (by kernel_rfl) (by kernel_rfl) (fun _ _ => rfl) (segs_no (by kernel_rfl)) (E62_1 k Y) (hr := by kernel_rfl)
theorem N62 : ∀ k a, n62 (k + 1) a = bodyK (cfgOf Tryz.prog (tabsS1 gl) (((62, mkE d62 (n62 k) (fun a5 => .one (.val (.bool a5)))) :: tS4) : Tab)) (toldOf (((62, mkE d62 (n62 k) (fun a5 => .one (.val (.bool a5)))) :: tS4) : Tab)) noY (inlN (cfgOf Tryz.prog (tabsS1 gl) (((62, mkE d62 (n62 k) (fun a5 => .one (.val (.bool a5)))) :: tS4) : Tab)) (toldOf (((62, mkE d62 (n62 k) (fun a5 => .one (.val (.bool a5)))) :: tS4) : Tab)) noY) (g62 k) 62 Tryz.f62 (((fun (a0, a1, a2, a3, a4) => [.agg [.val (.int .i64 a0), .val (.int .i64 a1), .val (.int .i64 a2), .val (.string a3), .slice a4]] : (Int × Int × Int × ByteArray × List D) → List D) a).map .d) [] [] () (fun v _ _ _ => r62 v) := by
  intro k a
  obtain ⟨a0, a1, a2, a3, a4⟩ := a
  kernel_rfl
noncomputable def t62 : Tab := (62, e62) :: tS4
theorem ok62 (hl : LibFits gl) : TabOk Tryz.prog gl t62 :=
  told_rec (t := tabsS1 gl) (okS4 hl) mixed (oddOkS1 hl) Tryz.func62 (by kernel_rfl) (nat := n62) (seg := fun k => g62 k) (by kernel_rfl) (fun k hk => (fun p hp e he => by
    have hq : segsOf (σ := Unit) (g62 k (σ := Unit)) (bodyOf Tryz.f62) = [(1, .loop (loopAt Tryz.f62 1))] := by kernel_rfl
    rw [hq] at hp
    simp only [List.mem_cons, List.not_mem_nil, or_false] at hp
    subst hp
    cases he
    exact Q62_1 hl k hk _ _))
    (args := fun (a0, a1, a2, a3, a4) => [.agg [.val (.int .i64 a0), .val (.int .i64 a1), .val (.int .i64 a2), .val (.string a3), .slice a4]]) (res := r62)
    (fun ds a h => by
      unfold d62 at h
      split at h
      · cases h; rfl
      · cases h)
    (fun v r h => by
      unfold r62 at h
      split at h
      · rename_i hv; cases h; exact hv
      · cases h)
    (fun _ => rfl) N62 64
noncomputable def tS5 : Tab := (74, e74) :: (44, e44) :: (62, e62) :: tS4
theorem okS5 (hl : LibFits gl) : TabOk Tryz.prog gl tS5 :=
  TabOk.cons (TabOk.cons (TabOk.cons (okS4 hl) ((ok62 hl).fair (62, e62) (List.mem_cons_self (l := tS4))) ((ok62 hl).spec (62, e62) (List.mem_cons_self (l := tS4)))) ((ok44 hl).fair (44, e44) (List.mem_cons_self (l := tS4))) ((ok44 hl).spec (44, e44) (List.mem_cons_self (l := tS4)))) ((ok74 hl).fair (74, e74) (List.mem_cons_self (l := tS4))) ((ok74 hl).spec (74, e74) (List.mem_cons_self (l := tS4)))
abbrev A47_1 := Int × Int × Int × Int × ByteArray × List D
inductive O47_1 where
  | x0 (o32 : Bool) (o33 : Int) (o34 : Int) (o35 : Int) (o36 : ByteArray) (o37 : List D)
  | x1 (o61 : Int) (o62 : Int) (o63 : Int) (o64 : ByteArray) (o65 : List D)
def l47_1 : LoopS A47_1 O47_1 where
  n := 92
  ks := [1, 3]
  kso := [2]
  m := 1
  mt := 0
  decV := fun vs bs ts => match vs, bs, ts with
    | [.ptr 0 0, .d (.val (.int .i64 v14))], [.cells none [.d (.val (.int .i64 v15)), .d (.val (.int .i64 v16)), .d (.val (.int .i64 v17)), .d (.val (.string v18)), .d (.slice v19)]], [] => some (v14, v15, v16, v17, v18, v19)
    | _, _, _ => none
  encV := fun (v14, v15, v16, v17, v18, v19) => [.ptr 0 0, .d (.val (.int .i64 v14))]
  encB := fun (v14, v15, v16, v17, v18, v19) => [.cells none [.d (.val (.int .i64 v15)), .d (.val (.int .i64 v16)), .d (.val (.int .i64 v17)), .d (.val (.string v18)), .d (.slice v19)]]
  tk := fun _ => []
  decO := fun ex vs bs ts => match ex, vs, bs, ts with
    | .ret, [.d (.val (.bool o32))], [.cells none [.d (.val (.int .i64 o33)), .d (.val (.int .i64 o34)), .d (.val (.int .i64 o35)), .d (.val (.string o36)), .d (.slice o37)]], [] => some (.x0 o32 o33 o34 o35 o36 o37)
    | .normal, [.undef], [.cells none [.d (.val (.int .i64 o61)), .d (.val (.int .i64 o62)), .d (.val (.int .i64 o63)), .d (.val (.string o64)), .d (.slice o65)]], [] => some (.x1 o61 o62 o63 o64 o65)
    | _, _, _, _ => none
  exO := fun x => match x with
    | .x0 o32 o33 o34 o35 o36 o37 => .ret
    | .x1 o61 o62 o63 o64 o65 => .normal
  outV := fun x => match x with
    | .x0 o32 o33 o34 o35 o36 o37 => [.d (.val (.bool o32))]
    | .x1 o61 o62 o63 o64 o65 => [.undef]
  outB := fun x => match x with
    | .x0 o32 o33 o34 o35 o36 o37 => [.cells none [.d (.val (.int .i64 o33)), .d (.val (.int .i64 o34)), .d (.val (.int .i64 o35)), .d (.val (.string o36)), .d (.slice o37)]]
    | .x1 o61 o62 o63 o64 o65 => [.cells none [.d (.val (.int .i64 o61)), .d (.val (.int .i64 o62)), .d (.val (.int .i64 o63)), .d (.val (.string o64)), .d (.slice o65)]]
  tkO := fun x => match x with
    | .x0 o32 o33 o34 o35 o36 o37 => []
    | .x1 o61 o62 o63 o64 o65 => []
  elim := fun x k => match x with
    | .x0 o32 o33 o34 o35 o36 o37 => k .ret [.d (.val (.bool o32))] [.cells none [.d (.val (.int .i64 o33)), .d (.val (.int .i64 o34)), .d (.val (.int .i64 o35)), .d (.val (.string o36)), .d (.slice o37)]] []
    | .x1 o61 o62 o63 o64 o65 => k .normal [.undef] [.cells none [.d (.val (.int .i64 o61)), .d (.val (.int .i64 o62)), .d (.val (.int .i64 o63)), .d (.val (.string o64)), .d (.slice o65)]] []
theorem k47_1 : l47_1.Ok where
  ok1 := by kernel_rfl
  ok2 := by kernel_rfl
  dec := by
    intro vs bs ts a h
    simp only [l47_1] at h ⊢
    split at h
    · cases h; exact ⟨rfl, rfl⟩
    · cases h
  out := by
    intro ex vs bs ts o h
    simp only [l47_1] at h ⊢
    split at h
    · cases h; exact ⟨rfl, rfl, rfl⟩
    · cases h; exact ⟨rfl, rfl, rfl⟩
    · cases h
  len := fun _ => ⟨rfl, rfl⟩
  elim := fun β o k => by cases o <;> rfl
def L47_1 {σ : Type} (F : Int × Int × Int × ByteArray × List D → Option (Bool)) : Nat → A47_1 → σ → Option (O47_1 × σ)
  | 0, _, _ => none
  | n+1, (v14, v15, v16, v17, v18, v19), s => (bif (decide (v14 < ((v19.length : Nat) : Int))) then ((lidx v19 v14).bind fun d20 => ask (d20.cells.length = 5) ((cellAt 0 d20).bind fun x21 => (asInt .i64 x21).bind fun x22 => ((cellAt 1 d20).bind fun x23 => (asInt .i64 x23).bind fun x24 => ((cellAt 2 d20).bind fun x25 => (asInt .i64 x25).bind fun x26 => ((cellAt 3 d20).bind fun x27 => (asStr x27).bind fun x28 => ((cellAt 4 d20).bind fun x29 => (asRow x29).bind fun x30 => ((F (x22, x24, x26, x28, x30)).bind fun y31 => (bif (!y31) then (some (O47_1.x0 false v15 v16 v17 v18 v19, s)) else (bif (v15 == 7) then (bif (decide (v14 > 0)) then ((lidx v19 (w64 (v14 - 1))).bind fun d38 => ask (d38.cells.length = 5) ((cellAt 0 d38).bind fun x39 => (asInt .i64 x39).bind fun x40 => ((cellAt 1 d38).bind fun x41 => (asInt .i64 x41).bind fun x42 => ((cellAt 2 d38).bind fun x43 => (asInt .i64 x43).bind fun x44 => ((cellAt 3 d38).bind fun x45 => (asStr x45).bind fun x46 => ((cellAt 4 d38).bind fun x47 => (asRow x47).bind fun x48 => ((lidx v19 v14).bind fun d49 => ask (d49.cells.length = 5) ((cellAt 0 d49).bind fun x50 => (asInt .i64 x50).bind fun x51 => ((cellAt 1 d49).bind fun x52 => (asInt .i64 x52).bind fun x53 => ((cellAt 2 d49).bind fun x54 => (asInt .i64 x54).bind fun x55 => ((cellAt 3 d49).bind fun x56 => (asStr x56).bind fun x57 => ((cellAt 4 d49).bind fun x58 => (asRow x58).bind fun x59 => ((n48 64 (x40, x42, x44, x46, x48, x51, x53, x55, x57, x59)).bind fun y60 => (bif (decide (y60 ≥ 0)) then (some (O47_1.x0 false v15 v16 v17 v18 v19, s)) else (L47_1 F n ((w64 (v14 + 1)), v15, v16, v17, v18, v19) s))))))))))))))) else (L47_1 F n ((w64 (v14 + 1)), v15, v16, v17, v18, v19) s)) else (L47_1 F n ((w64 (v14 + 1)), v15, v16, v17, v18, v19) s)))))))))) else (some (O47_1.x1 v15 v16 v17 v18 v19, s)))
def d47 (ds : List D) : Option (Int × Int × Int × ByteArray × List D) := match ds with
  | [.agg [.val (.int .i64 a0), .val (.int .i64 a1), .val (.int .i64 a2), .val (.string a3), .slice a4]] => some (a0, a1, a2, a3, a4)
  | _ => none
def r47 (v : AV) : Option (Bool) := match toPR v with
  | some (.one (.val (.bool a5))) => some a5
  | _ => none
def n47 : Nat → Int × Int × Int × ByteArray × List D → Option (Bool)
  | 0, _ => none
  | k + 1, (a0, a1, a2, a3, a4) => (bif (a0 == 1) then ((n72 (a0, a1, a2, a3, a4, true, false, false, false)).bind fun y6 => (bif y6 then (bif (a1 == 0) then (some true) else (some (a1 == 1))) else (some false))) else (bif (a0 == 2) then ((n72 (a0, a1, a2, a3, a4, true, false, false, false)).bind fun y7 => (some y7)) else (bif (a0 == 3) then ((n72 (a0, a1, a2, a3, a4, true, true, false, false)).bind fun y8 => (bif y8 then ((n73 a1).bind fun y9 => (bif y9 then ((n73 a2).bind fun y10 => (some y10)) else (some false))) else (some false))) else (bif (a0 == 4) then ((n72 (a0, a1, a2, a3, a4, false, false, true, false)).bind fun y11 => (bif y11 then ((n74 a3).bind fun y12 => (some y12)) else (some false))) else (bif (a0 == 5) then ((n72 (a0, a1, a2, a3, a4, false, false, false, true)).bind fun y13 => (bif (!y13) then (some false) else ((L47_1 (n47 k) 1000000000000 (0, a0, a1, a2, a3, a4) ()).bind fun p66 => match p66.1 with | .x0 z67 z68 z69 z70 z71 z72 => (some z67) | .x1 z73 z74 z75 z76 z77 => (some true)))) else (bif (a0 == 6) then ((n72 (a0, a1, a2, a3, a4, false, false, false, true)).bind fun y78 => (bif (!y78) then (some false) else ((L47_1 (n47 k) 1000000000000 (0, a0, a1, a2, a3, a4) ()).bind fun p131 => match p131.1 with | .x0 z132 z133 z134 z135 z136 z137 => (some z132) | .x1 z138 z139 z140 z141 z142 => (some true)))) else (bif (a0 == 7) then ((n72 (a0, a1, a2, a3, a4, false, false, false, true)).bind fun y143 => (bif (!y143) then (some false) else ((L47_1 (n47 k) 1000000000000 (0, a0, a1, a2, a3, a4) ()).bind fun p196 => match p196.1 with | .x0 z197 z198 z199 z200 z201 z202 => (some z197) | .x1 z203 z204 z205 z206 z207 => (some true)))) else (some false))))))))
def e47 : PureE := mkE d47 (n47 64) (fun a5 => .one (.val (.bool a5)))
def g47 (k : Nat) {σ : Type} : Nat → Option (SegE σ)
  | 1 => some (l47_1.seg σ (L47_1 (n47 k) 1000000000000))
  | _ => none
theorem E47_1 {σ : Type} (k : Nat) (Y : Yd σ) : ∀ n a (s : σ), L47_1 (n47 k) (n + 1) a s = evK (cfgOf Tryz.prog (tabsS1 gl) (((47, mkE d47 (n47 k) (fun a5 => .one (.val (.bool a5)))) :: tS5) : Tab)) (toldOf (((47, mkE d47 (n47 k) (fun a5 => .one (.val (.bool a5)))) :: tS5) : Tab)) Y (inlN (cfgOf Tryz.prog (tabsS1 gl) (((47, mkE d47 (n47 k) (fun a5 => .one (.val (.bool a5)))) :: tS5) : Tab)) (toldOf (((47, mkE d47 (n47 k) (fun a5 => .one (.val (.bool a5)))) :: tS5) : Tab)) Y) (g47 k) 47 (loopAt Tryz.f47 1) ((l47_1.toT σ).enc a s) (fun ex st' => l47_1.next (cfgOf Tryz.prog (tabsS1 gl) (((47, mkE d47 (n47 k) (fun a5 => .one (.val (.bool a5)))) :: tS5) : Tab)) 47 1 (L47_1 (n47 k) n) ex st') := by
  intro n ⟨v14, v15, v16, v17, v18, v19⟩ s
  kernel_rfl
theorem Q47_1 {σ : Type} (hl : LibFits gl) (k : Nat) (hk : TabOk Tryz.prog gl (((47, mkE d47 (n47 k) (fun a5 => .one (.val (.bool a5)))) :: tS5) : Tab)) (Y : Yd σ) (rnd : Bool) : SegOk (cfgOf Tryz.prog (tabsS1 gl) (((47, mkE d47 (n47 k) (fun a5 => .one (.val (.bool a5)))) :: tS5) : Tab)) (evFn (cfgOf Tryz.prog (tabsS1 gl) (((47, mkE d47 (n47 k) (fun a5 => .one (.val (.bool a5)))) :: tS5) : Tab)) 9) 47 rnd Y (l47_1.seg σ (L47_1 (n47 k) 1000000000000)) (.block 1 (.loop (loopAt Tryz.f47 1))) :=
  told_loop hk k47_1 (by kernel_rfl) (by kernel_rfl) (fun _ _ => rfl) (segs_no (by kernel_rfl)) (E47_1 k Y) (hr := by kernel_rfl)
theorem N47 : ∀ k a, n47 (k + 1) a = bodyK (cfgOf Tryz.prog (tabsS1 gl) (((47, mkE d47 (n47 k) (fun a5 => .one (.val (.bool a5)))) :: tS5) : Tab)) (toldOf (((47, mkE d47 (n47 k) (fun a5 => .one (.val (.bool a5)))) :: tS5) : Tab)) noY (inlN (cfgOf Tryz.prog (tabsS1 gl) (((47, mkE d47 (n47 k) (fun a5 => .one (.val (.bool a5)))) :: tS5) : Tab)) (toldOf (((47, mkE d47 (n47 k) (fun a5 => .one (.val (.bool a5)))) :: tS5) : Tab)) noY) (g47 k) 47 Tryz.f47 (((fun (a0, a1, a2, a3, a4) => [.agg [.val (.int .i64 a0), .val (.int .i64 a1), .val (.int .i64 a2), .val (.string a3), .slice a4]] : (Int × Int × Int × ByteArray × List D) → List D) a).map .d) [] [] () (fun v _ _ _ => r47 v) := by
  intro k a
  obtain ⟨a0, a1, a2, a3, a4⟩ := a
  kernel_rfl
noncomputable def t47 : Tab := (47, e47) :: tS5
theorem ok47 (hl : LibFits gl) : TabOk Tryz.prog gl t47 :=
  told_rec (t := tabsS1 gl) (okS5 hl) mixed (oddOkS1 hl) Tryz.func47 (by kernel_rfl) (nat := n47) (seg := fun k => g47 k) (by kernel_rfl) (fun k hk => (fun p hp e he => by
    have hq : segsOf (σ := Unit) (g47 k (σ := Unit)) (bodyOf Tryz.f47) = [(1, .loop (loopAt Tryz.f47 1))] := by kernel_rfl
    rw [hq] at hp
    simp only [List.mem_cons, List.not_mem_nil, or_false] at hp
    subst hp
    cases he
    exact Q47_1 hl k hk _ _))
    (args := fun (a0, a1, a2, a3, a4) => [.agg [.val (.int .i64 a0), .val (.int .i64 a1), .val (.int .i64 a2), .val (.string a3), .slice a4]]) (res := r47)
    (fun ds a h => by
      unfold d47 at h
      split at h
      · cases h; rfl
      · cases h)
    (fun v r h => by
      unfold r47 at h
      split at h
      · rename_i hv; cases h; exact hv
      · cases h)
    (fun _ => rfl) N47 64
def d34 (ds : List D) : Option (Int × Int × Int × ByteArray × List D) := match ds with
  | [.agg [.val (.int .i64 a0), .val (.int .i64 a1), .val (.int .i64 a2), .val (.string a3), .slice a4]] => some (a0, a1, a2, a3, a4)
  | _ => none
def r34 (v : AV) : Option (Int) := match toPR v with
  | some (.one (.val (.int .i64 a5))) => some a5
  | _ => none
def n34 : Int × Int × Int × ByteArray × List D → Option (Int) := fun (a0, a1, a2, a3, a4) => ((n61 (a0, a1, a2, a3, a4)).bind fun y6 => (bif (!y6) then (some 40) else ((n62 64 (a0, a1, a2, a3, a4)).bind fun y7 => (bif (!y7) then (some 40) else (some 0)))))
def e34 : PureE := mkE d34 n34 (fun a5 => .one (.val (.int .i64 a5)))
def g34 {σ : Type} : Nat → Option (SegE σ)
  | _ => none
theorem N34 : ∀ a, n34 a = bodyK (cfgOf Tryz.prog (tabsS1 gl) tS5) (toldOf tS5) noY (inlN (cfgOf Tryz.prog (tabsS1 gl) tS5) (toldOf tS5) noY) g34 34 Tryz.f34 (((fun (a0, a1, a2, a3, a4) => [.agg [.val (.int .i64 a0), .val (.int .i64 a1), .val (.int .i64 a2), .val (.string a3), .slice a4]] : (Int × Int × Int × ByteArray × List D) → List D) a).map .d) [] [] () (fun v _ _ _ => r34 v) := by
  intro a
  obtain ⟨a0, a1, a2, a3, a4⟩ := a
  kernel_rfl
noncomputable def t34 : Tab := (34, e34) :: tS5
theorem ok34 (hl : LibFits gl) : TabOk Tryz.prog gl t34 :=
  told_fn (okS5 hl) mixed (oddOkS1 hl) Tryz.func34 (by kernel_rfl) (by kernel_rfl) (by kernel_rfl) (segs_no (by kernel_rfl))
    (args := fun (a0, a1, a2, a3, a4) => [.agg [.val (.int .i64 a0), .val (.int .i64 a1), .val (.int .i64 a2), .val (.string a3), .slice a4]]) (res := r34)
    (fun ds a h => by
      unfold d34 at h
      split at h
      · cases h; rfl
      · cases h)
    (fun v r h => by
      unfold r34 at h
      split at h
      · rename_i hv; cases h; exact hv
      · cases h)
    N34
noncomputable def tS6 : Tab := (47, e47) :: (34, e34) :: tS5
theorem okS6 (hl : LibFits gl) : TabOk Tryz.prog gl tS6 :=
  TabOk.cons (TabOk.cons (okS5 hl) ((ok34 hl).fair (34, e34) (List.mem_cons_self (l := tS5))) ((ok34 hl).spec (34, e34) (List.mem_cons_self (l := tS5)))) ((ok47 hl).fair (47, e47) (List.mem_cons_self (l := tS5))) ((ok47 hl).spec (47, e47) (List.mem_cons_self (l := tS5)))
def d22 (ds : List D) : Option (Int × Int × Int × ByteArray × List D) := match ds with
  | [.agg [.val (.int .i64 a0), .val (.int .i64 a1), .val (.int .i64 a2), .val (.string a3), .slice a4]] => some (a0, a1, a2, a3, a4)
  | _ => none
def r22 (v : AV) : Option (Bool) := match toPR v with
  | some (.one (.val (.bool a5))) => some a5
  | _ => none
def n22 : Int × Int × Int × ByteArray × List D → Option (Bool) := fun (a0, a1, a2, a3, a4) => ((n36 64 (a0, a1, a2, a3, a4, 0, 1)).bind fun y6 => (bif (decide (y6 ≤ 4096)) then ((n47 64 (a0, a1, a2, a3, a4)).bind fun y7 => (some y7)) else (some false)))
def e22 : PureE := mkE d22 n22 (fun a5 => .one (.val (.bool a5)))
def g22 {σ : Type} : Nat → Option (SegE σ)
  | _ => none
theorem N22 : ∀ a, n22 a = bodyK (cfgOf Tryz.prog (tabsS1 gl) tS6) (toldOf tS6) noY (inlN (cfgOf Tryz.prog (tabsS1 gl) tS6) (toldOf tS6) noY) g22 22 Tryz.f22 (((fun (a0, a1, a2, a3, a4) => [.agg [.val (.int .i64 a0), .val (.int .i64 a1), .val (.int .i64 a2), .val (.string a3), .slice a4]] : (Int × Int × Int × ByteArray × List D) → List D) a).map .d) [] [] () (fun v _ _ _ => r22 v) := by
  intro a
  obtain ⟨a0, a1, a2, a3, a4⟩ := a
  kernel_rfl
noncomputable def t22 : Tab := (22, e22) :: tS6
theorem ok22 (hl : LibFits gl) : TabOk Tryz.prog gl t22 :=
  told_fn (okS6 hl) mixed (oddOkS1 hl) Tryz.func22 (by kernel_rfl) (by kernel_rfl) (by kernel_rfl) (segs_no (by kernel_rfl))
    (args := fun (a0, a1, a2, a3, a4) => [.agg [.val (.int .i64 a0), .val (.int .i64 a1), .val (.int .i64 a2), .val (.string a3), .slice a4]]) (res := r22)
    (fun ds a h => by
      unfold d22 at h
      split at h
      · cases h; rfl
      · cases h)
    (fun v r h => by
      unfold r22 at h
      split at h
      · rename_i hv; cases h; exact hv
      · cases h)
    N22
def d35 (ds : List D) : Option (Int × Int × Int × ByteArray × List D × Int × Int × Int × ByteArray × List D) := match ds with
  | [.agg [.val (.int .i64 a0), .val (.int .i64 a1), .val (.int .i64 a2), .val (.string a3), .slice a4], .agg [.val (.int .i64 a5), .val (.int .i64 a6), .val (.int .i64 a7), .val (.string a8), .slice a9]] => some (a0, a1, a2, a3, a4, a5, a6, a7, a8, a9)
  | _ => none
def r35 (v : AV) : Option (Int) := match toPR v with
  | some (.one (.val (.int .i64 a10))) => some a10
  | _ => none
def n35 : Int × Int × Int × ByteArray × List D × Int × Int × Int × ByteArray × List D → Option (Int) := fun (a0, a1, a2, a3, a4, a5, a6, a7, a8, a9) => ((n34 (a0, a1, a2, a3, a4)).bind fun y11 => ((n34 (a5, a6, a7, a8, a9)).bind fun y12 => (bif (bif (y11 == 0) then (y12 == 0) else false) then ((n63 64 (a0, a1, a2, a3, a4, a5, a6, a7, a8, a9)).bind fun y13 => (some y13)) else (bif (y11 == 0) then (some (-1)) else (bif (y12 == 0) then (some 1) else (some 0))))))
def e35 : PureE := mkE d35 n35 (fun a10 => .one (.val (.int .i64 a10)))
def g35 {σ : Type} : Nat → Option (SegE σ)
  | _ => none
theorem N35 : ∀ a, n35 a = bodyK (cfgOf Tryz.prog (tabsS1 gl) tS6) (toldOf tS6) noY (inlN (cfgOf Tryz.prog (tabsS1 gl) tS6) (toldOf tS6) noY) g35 35 Tryz.f35 (((fun (a0, a1, a2, a3, a4, a5, a6, a7, a8, a9) => [.agg [.val (.int .i64 a0), .val (.int .i64 a1), .val (.int .i64 a2), .val (.string a3), .slice a4], .agg [.val (.int .i64 a5), .val (.int .i64 a6), .val (.int .i64 a7), .val (.string a8), .slice a9]] : (Int × Int × Int × ByteArray × List D × Int × Int × Int × ByteArray × List D) → List D) a).map .d) [] [] () (fun v _ _ _ => r35 v) := by
  intro a
  obtain ⟨a0, a1, a2, a3, a4, a5, a6, a7, a8, a9⟩ := a
  kernel_rfl
noncomputable def t35 : Tab := (35, e35) :: tS6
theorem ok35 (hl : LibFits gl) : TabOk Tryz.prog gl t35 :=
  told_fn (okS6 hl) mixed (oddOkS1 hl) Tryz.func35 (by kernel_rfl) (by kernel_rfl) (by kernel_rfl) (segs_no (by kernel_rfl))
    (args := fun (a0, a1, a2, a3, a4, a5, a6, a7, a8, a9) => [.agg [.val (.int .i64 a0), .val (.int .i64 a1), .val (.int .i64 a2), .val (.string a3), .slice a4], .agg [.val (.int .i64 a5), .val (.int .i64 a6), .val (.int .i64 a7), .val (.string a8), .slice a9]]) (res := r35)
    (fun ds a h => by
      unfold d35 at h
      split at h
      · cases h; rfl
      · cases h)
    (fun v r h => by
      unfold r35 at h
      split at h
      · rename_i hv; cases h; exact hv
      · cases h)
    N35
def d16 (ds : List D) : Option (Int × ByteArray × ByteArray × ByteArray × Int × Int × Int × ByteArray × List D × Int × Int × Int) := match ds with
  | [.agg [.val (.int .i64 a0), .val (.string a1), .val (.string a2), .val (.string a3), .val (.int .i64 a4), .val (.int .i64 a5), .val (.int .i64 a6), .val (.string a7), .slice a8, .val (.int .i64 a9), .val (.int .i64 a10), .val (.int .i64 a11)]] => some (a0, a1, a2, a3, a4, a5, a6, a7, a8, a9, a10, a11)
  | _ => none
def r16 (v : AV) : Option (Bool) := match toPR v with
  | some (.one (.val (.bool a12))) => some a12
  | _ => none
def n16 : Int × ByteArray × ByteArray × ByteArray × Int × Int × Int × ByteArray × List D × Int × Int × Int → Option (Bool) := fun (a0, a1, a2, a3, a4, a5, a6, a7, a8, a9, a10, a11) => ((n38 a1).bind fun y13 => (bif (!y13) then (some false) else ((n34 (a4, a5, a6, a7, a8)).bind fun y14 => (bif (y14 != 0) then (some false) else (bif (a0 == 1) then ((n39 a2).bind fun y15 => (bif (y15 == 0) then ((n38 a3).bind fun y16 => (some y16)) else (some false))) else (bif (a0 == 2) then (some (bif (sEq a2 (⟨#[]⟩ : ByteArray)) then (sEq a3 (⟨#[]⟩ : ByteArray)) else false)) else (some false)))))))
def e16 : PureE := mkE d16 n16 (fun a12 => .one (.val (.bool a12)))
def g16 {σ : Type} : Nat → Option (SegE σ)
  | _ => none
theorem N16 : ∀ a, n16 a = bodyK (cfgOf Tryz.prog (tabsS1 gl) tS6) (toldOf tS6) noY (inlN (cfgOf Tryz.prog (tabsS1 gl) tS6) (toldOf tS6) noY) g16 16 Tryz.f16 (((fun (a0, a1, a2, a3, a4, a5, a6, a7, a8, a9, a10, a11) => [.agg [.val (.int .i64 a0), .val (.string a1), .val (.string a2), .val (.string a3), .val (.int .i64 a4), .val (.int .i64 a5), .val (.int .i64 a6), .val (.string a7), .slice a8, .val (.int .i64 a9), .val (.int .i64 a10), .val (.int .i64 a11)]] : (Int × ByteArray × ByteArray × ByteArray × Int × Int × Int × ByteArray × List D × Int × Int × Int) → List D) a).map .d) [] [] () (fun v _ _ _ => r16 v) := by
  intro a
  obtain ⟨a0, a1, a2, a3, a4, a5, a6, a7, a8, a9, a10, a11⟩ := a
  kernel_rfl
noncomputable def t16 : Tab := (16, e16) :: tS6
theorem ok16 (hl : LibFits gl) : TabOk Tryz.prog gl t16 :=
  told_fn (okS6 hl) mixed (oddOkS1 hl) Tryz.func16 (by kernel_rfl) (by kernel_rfl) (by kernel_rfl) (segs_no (by kernel_rfl))
    (args := fun (a0, a1, a2, a3, a4, a5, a6, a7, a8, a9, a10, a11) => [.agg [.val (.int .i64 a0), .val (.string a1), .val (.string a2), .val (.string a3), .val (.int .i64 a4), .val (.int .i64 a5), .val (.int .i64 a6), .val (.string a7), .slice a8, .val (.int .i64 a9), .val (.int .i64 a10), .val (.int .i64 a11)]]) (res := r16)
    (fun ds a h => by
      unfold d16 at h
      split at h
      · cases h; rfl
      · cases h)
    (fun v r h => by
      unfold r16 at h
      split at h
      · rename_i hv; cases h; exact hv
      · cases h)
    N16
noncomputable def tS7 : Tab := (22, e22) :: (35, e35) :: (16, e16) :: tS6
theorem okS7 (hl : LibFits gl) : TabOk Tryz.prog gl tS7 :=
  TabOk.cons (TabOk.cons (TabOk.cons (okS6 hl) ((ok16 hl).fair (16, e16) (List.mem_cons_self (l := tS6))) ((ok16 hl).spec (16, e16) (List.mem_cons_self (l := tS6)))) ((ok35 hl).fair (35, e35) (List.mem_cons_self (l := tS6))) ((ok35 hl).spec (35, e35) (List.mem_cons_self (l := tS6)))) ((ok22 hl).fair (22, e22) (List.mem_cons_self (l := tS6))) ((ok22 hl).spec (22, e22) (List.mem_cons_self (l := tS6)))
def d20 (ds : List D) : Option (Int × ByteArray × ByteArray × ByteArray × Int × Int × Int × ByteArray × List D × Int × Int × Int) := match ds with
  | [.agg [.val (.int .i64 a0), .val (.string a1), .val (.string a2), .val (.string a3), .val (.int .i64 a4), .val (.int .i64 a5), .val (.int .i64 a6), .val (.string a7), .slice a8, .val (.int .i64 a9), .val (.int .i64 a10), .val (.int .i64 a11)]] => some (a0, a1, a2, a3, a4, a5, a6, a7, a8, a9, a10, a11)
  | _ => none
def r20 (v : AV) : Option (Bool) := match toPR v with
  | some (.one (.val (.bool a12))) => some a12
  | _ => none
def n20 : Int × ByteArray × ByteArray × ByteArray × Int × Int × Int × ByteArray × List D × Int × Int × Int → Option (Bool) := fun (a0, a1, a2, a3, a4, a5, a6, a7, a8, a9, a10, a11) => ((n44 a1).bind fun y13 => (bif (!y13) then (some false) else ((n22 (a4, a5, a6, a7, a8)).bind fun y14 => (bif (!y14) then (some false) else (bif (a0 == 1) then ((n45 a2).bind fun y15 => (bif y15 then ((n44 a3).bind fun y16 => (some y16)) else (some false))) else (some (bif (bif (a0 == 2) then (sEq a2 (⟨#[]⟩ : ByteArray)) else false) then (sEq a3 (⟨#[]⟩ : ByteArray)) else false)))))))
def e20 : PureE := mkE d20 n20 (fun a12 => .one (.val (.bool a12)))
def g20 {σ : Type} : Nat → Option (SegE σ)
  | _ => none
theorem N20 : ∀ a, n20 a = bodyK (cfgOf Tryz.prog (tabsS1 gl) tS7) (toldOf tS7) noY (inlN (cfgOf Tryz.prog (tabsS1 gl) tS7) (toldOf tS7) noY) g20 20 Tryz.f20 (((fun (a0, a1, a2, a3, a4, a5, a6, a7, a8, a9, a10, a11) => [.agg [.val (.int .i64 a0), .val (.string a1), .val (.string a2), .val (.string a3), .val (.int .i64 a4), .val (.int .i64 a5), .val (.int .i64 a6), .val (.string a7), .slice a8, .val (.int .i64 a9), .val (.int .i64 a10), .val (.int .i64 a11)]] : (Int × ByteArray × ByteArray × ByteArray × Int × Int × Int × ByteArray × List D × Int × Int × Int) → List D) a).map .d) [] [] () (fun v _ _ _ => r20 v) := by
  intro a
  obtain ⟨a0, a1, a2, a3, a4, a5, a6, a7, a8, a9, a10, a11⟩ := a
  kernel_rfl
noncomputable def t20 : Tab := (20, e20) :: tS7
theorem ok20 (hl : LibFits gl) : TabOk Tryz.prog gl t20 :=
  told_fn (okS7 hl) mixed (oddOkS1 hl) Tryz.func20 (by kernel_rfl) (by kernel_rfl) (by kernel_rfl) (segs_no (by kernel_rfl))
    (args := fun (a0, a1, a2, a3, a4, a5, a6, a7, a8, a9, a10, a11) => [.agg [.val (.int .i64 a0), .val (.string a1), .val (.string a2), .val (.string a3), .val (.int .i64 a4), .val (.int .i64 a5), .val (.int .i64 a6), .val (.string a7), .slice a8, .val (.int .i64 a9), .val (.int .i64 a10), .val (.int .i64 a11)]]) (res := r20)
    (fun ds a h => by
      unfold d20 at h
      split at h
      · cases h; rfl
      · cases h)
    (fun v r h => by
      unfold r20 at h
      split at h
      · rename_i hv; cases h; exact hv
      · cases h)
    N20
abbrev A6_0 := List D × List D × Int × Nat
inductive O6_0 where
  | x0 (o32 : List D) (q33 : Nat)
def l6_0 : LoopS A6_0 O6_0 where
  n := 25
  ks := [0, 3, 4]
  kso := [3]
  m := 0
  mt := 2
  decV := fun vs bs ts => match vs, bs, ts with
    | [.d (.slice v2), .osl 1 v3, .d (.val (.int .i64 v4))], [], [k5, _] => some (v2, v3, v4, k5)
    | _, _, _ => none
  encV := fun (v2, v3, v4, k5) => [.d (.slice v2), .osl 1 v3, .d (.val (.int .i64 v4))]
  encB := fun (v2, v3, v4, k5) => []
  tk := fun (v2, v3, v4, k5) => [k5, v3.length]
  decO := fun ex vs bs ts => match ex, vs, bs, ts with
    | .normal, [.osl 1 o32], [], [q33, _] => some (.x0 o32 q33)
    | _, _, _, _ => none
  exO := fun x => match x with
    | .x0 o32 q33 => .normal
  outV := fun x => match x with
    | .x0 o32 q33 => [.osl 1 o32]
  outB := fun x => match x with
    | .x0 o32 q33 => []
  tkO := fun x => match x with
    | .x0 o32 q33 => [q33, o32.length]
  elim := fun x k => match x with
    | .x0 o32 q33 => k .normal [.osl 1 o32] [] [q33, o32.length]
theorem k6_0 : l6_0.Ok where
  ok1 := by kernel_rfl
  ok2 := by kernel_rfl
  dec := by
    intro vs bs ts a h
    simp only [l6_0] at h ⊢
    split at h
    · cases h; exact ⟨rfl, rfl⟩
    · cases h
  out := by
    intro ex vs bs ts o h
    simp only [l6_0] at h ⊢
    split at h
    · cases h; exact ⟨rfl, rfl, rfl⟩
    · cases h
  len := fun _ => ⟨rfl, rfl⟩
  elim := fun β o k => by cases o <;> rfl
def L6_0 {σ : Type} : Nat → A6_0 → σ → Option (O6_0 × σ)
  | 0, _, _ => none
  | n+1, (v2, v3, v4, k5), s => (bif (decide (v4 < ((v2.length : Nat) : Int))) then ((lidx v2 v4).bind fun d6 => ask (d6.cells.length = 12) ((cellAt 0 d6).bind fun x7 => (asInt .i64 x7).bind fun x8 => ((cellAt 1 d6).bind fun x9 => (asStr x9).bind fun x10 => ((cellAt 2 d6).bind fun x11 => (asStr x11).bind fun x12 => ((cellAt 3 d6).bind fun x13 => (asStr x13).bind fun x14 => ((cellAt 4 d6).bind fun x15 => (asInt .i64 x15).bind fun x16 => ((cellAt 5 d6).bind fun x17 => (asInt .i64 x17).bind fun x18 => ((cellAt 6 d6).bind fun x19 => (asInt .i64 x19).bind fun x20 => ((cellAt 7 d6).bind fun x21 => (asStr x21).bind fun x22 => ((cellAt 8 d6).bind fun x23 => (asRow x23).bind fun x24 => ((cellAt 9 d6).bind fun x25 => (asInt .i64 x25).bind fun x26 => ((cellAt 10 d6).bind fun x27 => (asInt .i64 x27).bind fun x28 => ((cellAt 11 d6).bind fun x29 => (asInt .i64 x29).bind fun x30 => ((n15 (x16, x18, x20, x22, x24)).bind fun y31 => (ask (addOk v3.length v3 ([.agg [.val (.int .i64 x8), .val (.string x10), .val (.string x12), .val (.string x14), .val (.int .i64 y31.1), .val (.int .i64 y31.2.1), .val (.int .i64 y31.2.2.1), .val (.string y31.2.2.2.1), .slice y31.2.2.2.2, .val (.int .i64 x26), .val (.int .i64 x28), .val (.int .i64 x30)]] : List D) 12 144) (ask (([k5, (v3.length + ([.agg [.val (.int .i64 x8), .val (.string x10), .val (.string x12), .val (.string x14), .val (.int .i64 y31.1), .val (.int .i64 y31.2.1), .val (.int .i64 y31.2.2.1), .val (.string y31.2.2.2.1), .slice y31.2.2.2.2, .val (.int .i64 x26), .val (.int .i64 x28), .val (.int .i64 x30)]] : List D).length)] : List Nat) = [k5, (v3 ++ ([.agg [.val (.int .i64 x8), .val (.string x10), .val (.string x12), .val (.string x14), .val (.int .i64 y31.1), .val (.int .i64 y31.2.1), .val (.int .i64 y31.2.2.1), .val (.string y31.2.2.2.1), .slice y31.2.2.2.2, .val (.int .i64 x26), .val (.int .i64 x28), .val (.int .i64 x30)]] : List D)).length]) (L6_0 n (v2, (v3 ++ ([.agg [.val (.int .i64 x8), .val (.string x10), .val (.string x12), .val (.string x14), .val (.int .i64 y31.1), .val (.int .i64 y31.2.1), .val (.int .i64 y31.2.2.1), .val (.string y31.2.2.2.1), .slice y31.2.2.2.2, .val (.int .i64 x26), .val (.int .i64 x28), .val (.int .i64 x30)]] : List D)), (w64 (v4 + 1)), k5) s))))))))))))))))) else (ask (([k5, v3.length] : List Nat) = [k5, v3.length]) (some (O6_0.x0 v3 k5, s))))
def d6 (ds : List D) : Option (List D) := match ds with
  | [.slice a0] => some a0
  | _ => none
def r6 (v : AV) : Option (List D) := match toPR v with
  | some (.one (.slice a1)) => some a1
  | _ => none
def n6 : List D → Option (List D) := fun a0 => (ask (([0, 0] : List Nat) = [0, ([] : List D).length]) ((L6_0 1000000000000 (a0, ([] : List D), 0, 0) ()).bind fun p34 => match p34.1 with | .x0 z35 z36 => (some z35)))
def e6 : PureE := mkE d6 n6 (fun a1 => .one (.slice a1))
def g6 {σ : Type} : Nat → Option (SegE σ)
  | 0 => some (l6_0.seg σ (L6_0 1000000000000))
  | _ => none
theorem E6_0 {σ : Type} (Y : Yd σ) : ∀ n a (s : σ), L6_0 (n + 1) a s = evK (cfgOf Tryz.prog (tabsS1 gl) tS7) (toldOf tS7) Y (inlN (cfgOf Tryz.prog (tabsS1 gl) tS7) (toldOf tS7) Y) g6 6 (loopAt Tryz.f6 0) ((l6_0.toT σ).enc a s) (fun ex st' => l6_0.next (cfgOf Tryz.prog (tabsS1 gl) tS7) 6 0 (L6_0 n) ex st') := by
  intro n ⟨v2, v3, v4, k5⟩ s
  kernel_rfl
theorem Q6_0 {σ : Type} (hl : LibFits gl) (Y : Yd σ) (rnd : Bool) : SegOk (cfgOf Tryz.prog (tabsS1 gl) tS7) (evFn (cfgOf Tryz.prog (tabsS1 gl) tS7) 9) 6 rnd Y (l6_0.seg σ (L6_0 1000000000000)) (.block 0 (.loop (loopAt Tryz.f6 0))) :=
  told_loop (okS7 hl) k6_0 (by kernel_rfl) (by kernel_rfl) (fun _ _ => rfl) (segs_no (by kernel_rfl)) (E6_0 Y) (hr := by kernel_rfl)
theorem N6 : ∀ a, n6 a = bodyK (cfgOf Tryz.prog (tabsS1 gl) tS7) (toldOf tS7) noY (inlN (cfgOf Tryz.prog (tabsS1 gl) tS7) (toldOf tS7) noY) g6 6 Tryz.f6 (((fun a0 => [.slice a0] : (List D) → List D) a).map .d) [] [] () (fun v _ _ _ => r6 v) := by
  intro a0
  kernel_rfl
noncomputable def t6 : Tab := (6, e6) :: tS7
theorem ok6 (hl : LibFits gl) : TabOk Tryz.prog gl t6 :=
  told_fn (okS7 hl) mixed (oddOkS1 hl) Tryz.func6 (by kernel_rfl) (by kernel_rfl) (by kernel_rfl) (fun p hp e he => by
    have hq : segsOf (σ := Unit) (g6 (σ := Unit)) (bodyOf Tryz.f6) = [(0, .loop (loopAt Tryz.f6 0))] := by kernel_rfl
    rw [hq] at hp
    simp only [List.mem_cons, List.not_mem_nil, or_false] at hp
    subst hp
    cases he
    exact Q6_0 hl _ _)
    (args := fun a0 => [.slice a0]) (res := r6)
    (fun ds a h => by
      unfold d6 at h
      split at h
      · cases h; rfl
      · cases h)
    (fun v r h => by
      unfold r6 at h
      split at h
      · rename_i hv; cases h; exact hv
      · cases h)
    N6
def d105 (ds : List D) : Option (Int) := match ds with
  | [.val (.int .u64 a0)] => some a0
  | _ => none
def r105 (v : AV) : Option (ByteArray) := match toPR v with
  | some (.one (.val (.string a1))) => some a1
  | _ => none
def n105 : Nat → Int → Option (ByteArray)
  | 0, _ => none
  | k + 1, a0 => (bif (decide (a0 < 10)) then (ask (byteOk (wu8 (wu64 (48 + a0)))) (some (bcons (wu8 (wu64 (48 + a0))) ByteArray.empty))) else ((n105 k (wu64 ((a0 : Int).tdiv 10))).bind fun y2 => ((n105 k ((a0 : Int).tmod 10)).bind fun y3 => (ask (catOk y2 y3) (some (y2 ++ y3))))))
def e105 : PureE := mkE d105 (n105 64) (fun a1 => .one (.val (.string a1)))
def g105 {σ : Type} : Nat → Option (SegE σ)
  | _ => none
theorem N105 : ∀ k a, n105 (k + 1) a = bodyK (cfgOf Tryz.prog (tabsS1 gl) (((105, mkE d105 (n105 k) (fun a1 => .one (.val (.string a1)))) :: tS7) : Tab)) (toldOf (((105, mkE d105 (n105 k) (fun a1 => .one (.val (.string a1)))) :: tS7) : Tab)) noY (inlN (cfgOf Tryz.prog (tabsS1 gl) (((105, mkE d105 (n105 k) (fun a1 => .one (.val (.string a1)))) :: tS7) : Tab)) (toldOf (((105, mkE d105 (n105 k) (fun a1 => .one (.val (.string a1)))) :: tS7) : Tab)) noY) g105 105 Tryz.f105 (((fun a0 => [.val (.int .u64 a0)] : (Int) → List D) a).map .d) [] [] () (fun v _ _ _ => r105 v) := by
  intro k a0
  kernel_rfl
noncomputable def t105 : Tab := (105, e105) :: tS7
theorem ok105 (hl : LibFits gl) : TabOk Tryz.prog gl t105 :=
  told_rec (t := tabsS1 gl) (okS7 hl) mixed (oddOkS1 hl) Tryz.func105 (by kernel_rfl) (nat := n105) (seg := fun _ => g105) (by kernel_rfl) (fun k hk => (segs_no (by kernel_rfl)))
    (args := fun a0 => [.val (.int .u64 a0)]) (res := r105)
    (fun ds a h => by
      unfold d105 at h
      split at h
      · cases h; rfl
      · cases h)
    (fun v r h => by
      unfold r105 at h
      split at h
      · rename_i hv; cases h; exact hv
      · cases h)
    (fun _ => rfl) N105 64
def d65 (ds : List D) : Option (Int) := match ds with
  | [.val (.int .i64 a0)] => some a0
  | _ => none
def r65 (v : AV) : Option (ByteArray) := match toPR v with
  | some (.one (.val (.string a1))) => some a1
  | _ => none
def n65 : Int → Option (ByteArray) := fun a0 => ((n101 (a0, 10)).bind fun y2 => (some y2))
def e65 : PureE := mkE d65 n65 (fun a1 => .one (.val (.string a1)))
def g65 {σ : Type} : Nat → Option (SegE σ)
  | _ => none
theorem N65 : ∀ a, n65 a = bodyK (cfgOf Tryz.prog (tabsS1 gl) tS7) (toldOf tS7) noY (inlN (cfgOf Tryz.prog (tabsS1 gl) tS7) (toldOf tS7) noY) g65 65 Tryz.f65 (((fun a0 => [.val (.int .i64 a0)] : (Int) → List D) a).map .d) [] [] () (fun v _ _ _ => r65 v) := by
  intro a0
  kernel_rfl
noncomputable def t65 : Tab := (65, e65) :: tS7
theorem ok65 (hl : LibFits gl) : TabOk Tryz.prog gl t65 :=
  told_fn (okS7 hl) mixed (oddOkS1 hl) Tryz.func65 (by kernel_rfl) (by kernel_rfl) (by kernel_rfl) (segs_no (by kernel_rfl))
    (args := fun a0 => [.val (.int .i64 a0)]) (res := r65)
    (fun ds a h => by
      unfold d65 at h
      split at h
      · cases h; rfl
      · cases h)
    (fun v r h => by
      unfold r65 at h
      split at h
      · rename_i hv; cases h; exact hv
      · cases h)
    N65
noncomputable def tS8 : Tab := (20, e20) :: (6, e6) :: (105, e105) :: (65, e65) :: tS7
theorem okS8 (hl : LibFits gl) : TabOk Tryz.prog gl tS8 :=
  TabOk.cons (TabOk.cons (TabOk.cons (TabOk.cons (okS7 hl) ((ok65 hl).fair (65, e65) (List.mem_cons_self (l := tS7))) ((ok65 hl).spec (65, e65) (List.mem_cons_self (l := tS7)))) ((ok105 hl).fair (105, e105) (List.mem_cons_self (l := tS7))) ((ok105 hl).spec (105, e105) (List.mem_cons_self (l := tS7)))) ((ok6 hl).fair (6, e6) (List.mem_cons_self (l := tS7))) ((ok6 hl).spec (6, e6) (List.mem_cons_self (l := tS7)))) ((ok20 hl).fair (20, e20) (List.mem_cons_self (l := tS7))) ((ok20 hl).spec (20, e20) (List.mem_cons_self (l := tS7)))
def d71 (ds : List D) : Option (Int) := match ds with
  | [.val (.int .i64 a0)] => some a0
  | _ => none
def r71 (v : AV) : Option (ByteArray) := match toPR v with
  | some (.one (.val (.string a1))) => some a1
  | _ => none
def n71 : Int → Option (ByteArray) := fun a0 => (bif (decide (a0 < 0)) then ((n105 64 (wu64 ((wu64 (w64 (0 - (w64 (a0 + 1))))) + 1))).bind fun y2 => (ask (catOk (⟨#[45]⟩ : ByteArray) y2) (some ((⟨#[45]⟩ : ByteArray) ++ y2)))) else ((n105 64 (wu64 a0)).bind fun y3 => (some y3)))
def e71 : PureE := mkE d71 n71 (fun a1 => .one (.val (.string a1)))
def g71 {σ : Type} : Nat → Option (SegE σ)
  | _ => none
theorem N71 : ∀ a, n71 a = bodyK (cfgOf Tryz.prog (tabsS1 gl) tS8) (toldOf tS8) noY (inlN (cfgOf Tryz.prog (tabsS1 gl) tS8) (toldOf tS8) noY) g71 71 Tryz.f71 (((fun a0 => [.val (.int .i64 a0)] : (Int) → List D) a).map .d) [] [] () (fun v _ _ _ => r71 v) := by
  intro a0
  kernel_rfl
noncomputable def t71 : Tab := (71, e71) :: tS8
theorem ok71 (hl : LibFits gl) : TabOk Tryz.prog gl t71 :=
  told_fn (okS8 hl) mixed (oddOkS1 hl) Tryz.func71 (by kernel_rfl) (by kernel_rfl) (by kernel_rfl) (segs_no (by kernel_rfl))
    (args := fun a0 => [.val (.int .i64 a0)]) (res := r71)
    (fun ds a h => by
      unfold d71 at h
      split at h
      · cases h; rfl
      · cases h)
    (fun v r h => by
      unfold r71 at h
      split at h
      · rename_i hv; cases h; exact hv
      · cases h)
    N71
noncomputable def tS9 : Tab := (71, e71) :: tS8
theorem okS9 (hl : LibFits gl) : TabOk Tryz.prog gl tS9 :=
  TabOk.cons (okS8 hl) ((ok71 hl).fair (71, e71) (List.mem_cons_self (l := tS8))) ((ok71 hl).spec (71, e71) (List.mem_cons_self (l := tS8)))
abbrev A40_1 := ByteArray × List D × Int × Int × ByteArray × Int × Int × Int × ByteArray × List D × List (Value × Value)
inductive O40_1 where
  | x0 (o39 : ByteArray) (o40 : ByteArray) (o41 : Int) (o42 : Int) (o43 : Int) (o44 : ByteArray) (o45 : List D) (o46 : List (Value × Value))
def l40_1 : LoopS A40_1 O40_1 where
  n := 90
  ks := [0, 3, 4, 19, 20, 21]
  kso := [0, 3, 4]
  m := 3
  mt := 1
  decV := fun vs bs ts => match vs, bs, ts with
    | [.ptr 0 0, .ptr 1 0, .d (.val (.string v15)), .d (.slice v16), .d (.val (.int .i64 v17)), .d (.val (.int .i64 v18))], [.cells (some 50) [.ptr 0 0, .obs 0 v19], .cells none [.d (.val (.int .i64 v20)), .d (.val (.int .i64 v21)), .d (.val (.int .i64 v22)), .d (.val (.string v23)), .d (.slice v24)], .map v25], [_] => some (v15, v16, v17, v18, v19, v20, v21, v22, v23, v24, v25)
    | _, _, _ => none
  encV := fun (v15, v16, v17, v18, v19, v20, v21, v22, v23, v24, v25) => [.ptr 0 0, .ptr 1 0, .d (.val (.string v15)), .d (.slice v16), .d (.val (.int .i64 v17)), .d (.val (.int .i64 v18))]
  encB := fun (v15, v16, v17, v18, v19, v20, v21, v22, v23, v24, v25) => [.cells (some 50) [.ptr 0 0, .obs 0 v19], .cells none [.d (.val (.int .i64 v20)), .d (.val (.int .i64 v21)), .d (.val (.int .i64 v22)), .d (.val (.string v23)), .d (.slice v24)], .map v25]
  tk := fun (v15, v16, v17, v18, v19, v20, v21, v22, v23, v24, v25) => [v19.size]
  decO := fun ex vs bs ts => match ex, vs, bs, ts with
    | .normal, [.ptr 0 0, .ptr 1 0, .d (.val (.string o39))], [.cells (some 50) [.ptr 0 0, .obs 0 o40], .cells none [.d (.val (.int .i64 o41)), .d (.val (.int .i64 o42)), .d (.val (.int .i64 o43)), .d (.val (.string o44)), .d (.slice o45)], .map o46], [_] => some (.x0 o39 o40 o41 o42 o43 o44 o45 o46)
    | _, _, _, _ => none
  exO := fun x => match x with
    | .x0 o39 o40 o41 o42 o43 o44 o45 o46 => .normal
  outV := fun x => match x with
    | .x0 o39 o40 o41 o42 o43 o44 o45 o46 => [.ptr 0 0, .ptr 1 0, .d (.val (.string o39))]
  outB := fun x => match x with
    | .x0 o39 o40 o41 o42 o43 o44 o45 o46 => [.cells (some 50) [.ptr 0 0, .obs 0 o40], .cells none [.d (.val (.int .i64 o41)), .d (.val (.int .i64 o42)), .d (.val (.int .i64 o43)), .d (.val (.string o44)), .d (.slice o45)], .map o46]
  tkO := fun x => match x with
    | .x0 o39 o40 o41 o42 o43 o44 o45 o46 => [o40.size]
  elim := fun x k => match x with
    | .x0 o39 o40 o41 o42 o43 o44 o45 o46 => k .normal [.ptr 0 0, .ptr 1 0, .d (.val (.string o39))] [.cells (some 50) [.ptr 0 0, .obs 0 o40], .cells none [.d (.val (.int .i64 o41)), .d (.val (.int .i64 o42)), .d (.val (.int .i64 o43)), .d (.val (.string o44)), .d (.slice o45)], .map o46] [o40.size]
theorem k40_1 : l40_1.Ok where
  ok1 := by kernel_rfl
  ok2 := by kernel_rfl
  dec := by
    intro vs bs ts a h
    simp only [l40_1] at h ⊢
    split at h
    · cases h; exact ⟨rfl, rfl⟩
    · cases h
  out := by
    intro ex vs bs ts o h
    simp only [l40_1] at h ⊢
    split at h
    · cases h; exact ⟨rfl, rfl, rfl⟩
    · cases h
  len := fun _ => ⟨rfl, rfl⟩
  elim := fun β o k => by cases o <;> rfl
def L40_1 {σ : Type} (F : ByteArray × Int × Int × Int × ByteArray × List D × Nat × Bool → Option (ByteArray × Nat)) : Nat → A40_1 → σ → Option (O40_1 × σ)
  | 0, _, _ => none
  | n+1, (v15, v16, v17, v18, v19, v20, v21, v22, v23, v24, v25), s => (bif (decide (v18 < v17)) then ((lidx v16 v18).bind fun d26 => ask (d26.cells.length = 5) ((cellAt 0 d26).bind fun x27 => (asInt .i64 x27).bind fun x28 => ((cellAt 1 d26).bind fun x29 => (asInt .i64 x29).bind fun x30 => ((cellAt 2 d26).bind fun x31 => (asInt .i64 x31).bind fun x32 => ((cellAt 3 d26).bind fun x33 => (asStr x33).bind fun x34 => ((cellAt 4 d26).bind fun x35 => (asRow x35).bind fun x36 => (bif (decide (v18 > 0)) then (ask (addBOk v19.size v19 (⟨#[44, 32]⟩ : ByteArray) 1) ((F ((v19 ++ (⟨#[44, 32]⟩ : ByteArray)), x28, x30, x32, x34, x36, (v19.size + (⟨#[44, 32]⟩ : ByteArray).size), true)).bind fun y37 => (ask (([y37.2] : List Nat) = [y37.1.size]) (L40_1 F n (v15, v16, v17, (w64 (v18 + 1)), y37.1, v20, v21, v22, v23, v24, v25) s)))) else ((F (v19, x28, x30, x32, x34, x36, v19.size, true)).bind fun y38 => (ask (([y38.2] : List Nat) = [y38.1.size]) (L40_1 F n (v15, v16, v17, (w64 (v18 + 1)), y38.1, v20, v21, v22, v23, v24, v25) s)))))))))) else (ask (([v19.size] : List Nat) = [v19.size]) (some (O40_1.x0 v15 v19 v20 v21 v22 v23 v24 v25, s))))
def dM40 (av : List AV) (bs : List Box) (ts : List Nat) : Option (ByteArray × Int × Int × Int × ByteArray × List D × Nat × Bool) := match av, bs, ts with
  | [.ptr 0 0, .d (.agg [.val (.int .i64 a3), .val (.int .i64 a4), .val (.int .i64 a5), .val (.string a6), .slice a7])], [.cells (some 50) [.ptr 0 0, .obs 0 a0]], [k1] => some (a0, a3, a4, a5, a6, a7, k1, true)
  | [.ptr 0 0, .d (.agg [.val (.int .i64 a3), .val (.int .i64 a4), .val (.int .i64 a5), .val (.string a6), .slice a7])], [.cells (some 50) [.d (.val (.pointer none)), .obs 0 a0]], [k1] => some (a0, a3, a4, a5, a6, a7, k1, false)
  | _, _, _ => none
def aM40 : (ByteArray × Int × Int × Int × ByteArray × List D × Nat × Bool) → List AV := fun (a0, a3, a4, a5, a6, a7, k1, b2) => [.ptr 0 0, .d (.agg [.val (.int .i64 a3), .val (.int .i64 a4), .val (.int .i64 a5), .val (.string a6), .slice a7])]
def bM40 : (ByteArray × Int × Int × Int × ByteArray × List D × Nat × Bool) → List Box
  | (a0, a3, a4, a5, a6, a7, k1, true) => [.cells (some 50) [.ptr 0 0, .obs 0 a0]]
  | (a0, a3, a4, a5, a6, a7, k1, false) => [.cells (some 50) [.d (.val (.pointer none)), .obs 0 a0]]
def tM40 : (ByteArray × Int × Int × Int × ByteArray × List D × Nat × Bool) → List Nat := fun (a0, a3, a4, a5, a6, a7, k1, b2) => [k1]
def vM40 : (ByteArray × Nat) → AV := fun (p8, q9) => .tup []
def cM40 : (ByteArray × Nat) → List Box := fun (p8, q9) => [.cells (some 50) [.ptr 0 0, .obs 0 p8]]
def kM40 : (ByteArray × Nat) → List Nat := fun (p8, q9) => [q9]
def rM40 (v : AV) (bs : List Box) (ts : List Nat) : Option (ByteArray × Nat) := match v, bs, ts with
  | .tup [], [.cells (some 50) [.ptr 0 0, .obs 0 p8]], [q9] => some (p8, q9)
  | _, _, _ => none
def n40 : Nat → ByteArray × Int × Int × Int × ByteArray × List D × Nat × Bool → Option (ByteArray × Nat)
  | 0, _ => none
  | k + 1, (a0, a3, a4, a5, a6, a7, k1, true) => (bif (a3 == 2) then ((n65 a4).bind fun y10 => (ask (addBOk k1 a0 y10 1) (some ((a0 ++ y10), (a0.size + y10.size))))) else (bif (a3 == 1) then (bif (a4 == 1) then (ask (addBOk k1 a0 (⟨#[116, 114, 117, 101]⟩ : ByteArray) 1) (some ((a0 ++ (⟨#[116, 114, 117, 101]⟩ : ByteArray)), (a0.size + (⟨#[116, 114, 117, 101]⟩ : ByteArray).size)))) else (ask (addBOk k1 a0 (⟨#[102, 97, 108, 115, 101]⟩ : ByteArray) 1) (some ((a0 ++ (⟨#[102, 97, 108, 115, 101]⟩ : ByteArray)), (a0.size + (⟨#[102, 97, 108, 115, 101]⟩ : ByteArray).size))))) else (bif (a3 == 4) then (ask (addBOk k1 a0 a6 1) (some ((a0 ++ a6), (a0.size + a6.size)))) else (bif (a3 == 3) then ((n65 a4).bind fun y11 => (ask (addBOk k1 a0 y11 1) (bif (decide (a5 ≥ 0)) then (ask (addBOk (a0.size + y11.size) (a0 ++ y11) (bcons 43 ByteArray.empty) 1) ((n65 a5).bind fun y12 => (ask (addBOk ((a0 ++ y11).size + (bcons 43 ByteArray.empty).size) ((a0 ++ y11) ++ (bcons 43 ByteArray.empty)) y12 1) (ask (addBOk (((a0 ++ y11) ++ (bcons 43 ByteArray.empty)).size + y12.size) (((a0 ++ y11) ++ (bcons 43 ByteArray.empty)) ++ y12) (bcons 105 ByteArray.empty) 1) (some (((((a0 ++ y11) ++ (bcons 43 ByteArray.empty)) ++ y12) ++ (bcons 105 ByteArray.empty)), ((((a0 ++ y11) ++ (bcons 43 ByteArray.empty)) ++ y12).size + (bcons 105 ByteArray.empty).size))))))) else ((n65 a5).bind fun y13 => (ask (addBOk (a0.size + y11.size) (a0 ++ y11) y13 1) (ask (addBOk ((a0 ++ y11).size + y13.size) ((a0 ++ y11) ++ y13) (bcons 105 ByteArray.empty) 1) (some ((((a0 ++ y11) ++ y13) ++ (bcons 105 ByteArray.empty)), (((a0 ++ y11) ++ y13).size + (bcons 105 ByteArray.empty).size))))))))) else (bif (a3 == 5) then ((sidx (⟨#[40, 41]⟩ : ByteArray) 0).bind fun c146 => (ask (byteOk (c146.toNat : Int)) (ask (addBOk k1 a0 (bcons (c146.toNat : Int) ByteArray.empty) 1) (ask (([(a0.size + (bcons (c146.toNat : Int) ByteArray.empty).size)] : List Nat) = [(a0 ++ (bcons (c146.toNat : Int) ByteArray.empty)).size]) ((L40_1 (n40 k) 1000000000000 ((⟨#[40, 41]⟩ : ByteArray), a7, ((a7.length : Nat) : Int), 0, (a0 ++ (bcons (c146.toNat : Int) ByteArray.empty)), a3, a4, a5, a6, a7, ([((.int .i64 5), (.string (⟨#[40, 41]⟩ : ByteArray))), ((.int .i64 6), (.string (⟨#[91, 93]⟩ : ByteArray))), ((.int .i64 7), (.string (⟨#[123, 125]⟩ : ByteArray)))] : List (Value × Value))) ()).bind fun p179 => match p179.1 with | .x0 z180 z181 z182 z183 z184 z185 z186 z187 => (bif (bif (z182 == 5) then (((z186.length : Nat) : Int) == 1) else false) then (ask (addBOk z181.size z181 (bcons 44 ByteArray.empty) 1) ((sidx z180 1).bind fun c188 => (ask (byteOk (c188.toNat : Int)) (ask (addBOk (z181.size + (bcons 44 ByteArray.empty).size) (z181 ++ (bcons 44 ByteArray.empty)) (bcons (c188.toNat : Int) ByteArray.empty) 1) (some (((z181 ++ (bcons 44 ByteArray.empty)) ++ (bcons (c188.toNat : Int) ByteArray.empty)), ((z181 ++ (bcons 44 ByteArray.empty)).size + (bcons (c188.toNat : Int) ByteArray.empty).size))))))) else ((sidx z180 1).bind fun c189 => (ask (byteOk (c189.toNat : Int)) (ask (addBOk z181.size z181 (bcons (c189.toNat : Int) ByteArray.empty) 1) (some ((z181 ++ (bcons (c189.toNat : Int) ByteArray.empty)), (z181.size + (bcons (c189.toNat : Int) ByteArray.empty).size)))))))))))) else (bif (a3 == 6) then ((sidx (⟨#[91, 93]⟩ : ByteArray) 0).bind fun c102 => (ask (byteOk (c102.toNat : Int)) (ask (addBOk k1 a0 (bcons (c102.toNat : Int) ByteArray.empty) 1) (ask (([(a0.size + (bcons (c102.toNat : Int) ByteArray.empty).size)] : List Nat) = [(a0 ++ (bcons (c102.toNat : Int) ByteArray.empty)).size]) ((L40_1 (n40 k) 1000000000000 ((⟨#[91, 93]⟩ : ByteArray), a7, ((a7.length : Nat) : Int), 0, (a0 ++ (bcons (c102.toNat : Int) ByteArray.empty)), a3, a4, a5, a6, a7, ([((.int .i64 5), (.string (⟨#[40, 41]⟩ : ByteArray))), ((.int .i64 6), (.string (⟨#[91, 93]⟩ : ByteArray))), ((.int .i64 7), (.string (⟨#[123, 125]⟩ : ByteArray)))] : List (Value × Value))) ()).bind fun p135 => match p135.1 with | .x0 z136 z137 z138 z139 z140 z141 z142 z143 => (bif (bif (z138 == 5) then (((z142.length : Nat) : Int) == 1) else false) then (ask (addBOk z137.size z137 (bcons 44 ByteArray.empty) 1) ((sidx z136 1).bind fun c144 => (ask (byteOk (c144.toNat : Int)) (ask (addBOk (z137.size + (bcons 44 ByteArray.empty).size) (z137 ++ (bcons 44 ByteArray.empty)) (bcons (c144.toNat : Int) ByteArray.empty) 1) (some (((z137 ++ (bcons 44 ByteArray.empty)) ++ (bcons (c144.toNat : Int) ByteArray.empty)), ((z137 ++ (bcons 44 ByteArray.empty)).size + (bcons (c144.toNat : Int) ByteArray.empty).size))))))) else ((sidx z136 1).bind fun c145 => (ask (byteOk (c145.toNat : Int)) (ask (addBOk z137.size z137 (bcons (c145.toNat : Int) ByteArray.empty) 1) (some ((z137 ++ (bcons (c145.toNat : Int) ByteArray.empty)), (z137.size + (bcons (c145.toNat : Int) ByteArray.empty).size)))))))))))) else (bif (a3 == 7) then ((sidx (⟨#[123, 125]⟩ : ByteArray) 0).bind fun c58 => (ask (byteOk (c58.toNat : Int)) (ask (addBOk k1 a0 (bcons (c58.toNat : Int) ByteArray.empty) 1) (ask (([(a0.size + (bcons (c58.toNat : Int) ByteArray.empty).size)] : List Nat) = [(a0 ++ (bcons (c58.toNat : Int) ByteArray.empty)).size]) ((L40_1 (n40 k) 1000000000000 ((⟨#[123, 125]⟩ : ByteArray), a7, ((a7.length : Nat) : Int), 0, (a0 ++ (bcons (c58.toNat : Int) ByteArray.empty)), a3, a4, a5, a6, a7, ([((.int .i64 5), (.string (⟨#[40, 41]⟩ : ByteArray))), ((.int .i64 6), (.string (⟨#[91, 93]⟩ : ByteArray))), ((.int .i64 7), (.string (⟨#[123, 125]⟩ : ByteArray)))] : List (Value × Value))) ()).bind fun p91 => match p91.1 with | .x0 z92 z93 z94 z95 z96 z97 z98 z99 => (bif (bif (z94 == 5) then (((z98.length : Nat) : Int) == 1) else false) then (ask (addBOk z93.size z93 (bcons 44 ByteArray.empty) 1) ((sidx z92 1).bind fun c100 => (ask (byteOk (c100.toNat : Int)) (ask (addBOk (z93.size + (bcons 44 ByteArray.empty).size) (z93 ++ (bcons 44 ByteArray.empty)) (bcons (c100.toNat : Int) ByteArray.empty) 1) (some (((z93 ++ (bcons 44 ByteArray.empty)) ++ (bcons (c100.toNat : Int) ByteArray.empty)), ((z93 ++ (bcons 44 ByteArray.empty)).size + (bcons (c100.toNat : Int) ByteArray.empty).size))))))) else ((sidx z92 1).bind fun c101 => (ask (byteOk (c101.toNat : Int)) (ask (addBOk z93.size z93 (bcons (c101.toNat : Int) ByteArray.empty) 1) (some ((z93 ++ (bcons (c101.toNat : Int) ByteArray.empty)), (z93.size + (bcons (c101.toNat : Int) ByteArray.empty).size)))))))))))) else ((sidx (⟨#[]⟩ : ByteArray) 0).bind fun c14 => (ask (byteOk (c14.toNat : Int)) (ask (addBOk k1 a0 (bcons (c14.toNat : Int) ByteArray.empty) 1) (ask (([(a0.size + (bcons (c14.toNat : Int) ByteArray.empty).size)] : List Nat) = [(a0 ++ (bcons (c14.toNat : Int) ByteArray.empty)).size]) ((L40_1 (n40 k) 1000000000000 ((⟨#[]⟩ : ByteArray), a7, ((a7.length : Nat) : Int), 0, (a0 ++ (bcons (c14.toNat : Int) ByteArray.empty)), a3, a4, a5, a6, a7, ([((.int .i64 5), (.string (⟨#[40, 41]⟩ : ByteArray))), ((.int .i64 6), (.string (⟨#[91, 93]⟩ : ByteArray))), ((.int .i64 7), (.string (⟨#[123, 125]⟩ : ByteArray)))] : List (Value × Value))) ()).bind fun p47 => match p47.1 with | .x0 z48 z49 z50 z51 z52 z53 z54 z55 => (bif (bif (z50 == 5) then (((z54.length : Nat) : Int) == 1) else false) then (ask (addBOk z49.size z49 (bcons 44 ByteArray.empty) 1) ((sidx z48 1).bind fun c56 => (ask (byteOk (c56.toNat : Int)) (ask (addBOk (z49.size + (bcons 44 ByteArray.empty).size) (z49 ++ (bcons 44 ByteArray.empty)) (bcons (c56.toNat : Int) ByteArray.empty) 1) (some (((z49 ++ (bcons 44 ByteArray.empty)) ++ (bcons (c56.toNat : Int) ByteArray.empty)), ((z49 ++ (bcons 44 ByteArray.empty)).size + (bcons (c56.toNat : Int) ByteArray.empty).size))))))) else ((sidx z48 1).bind fun c57 => (ask (byteOk (c57.toNat : Int)) (ask (addBOk z49.size z49 (bcons (c57.toNat : Int) ByteArray.empty) 1) (some ((z49 ++ (bcons (c57.toNat : Int) ByteArray.empty)), (z49.size + (bcons (c57.toNat : Int) ByteArray.empty).size)))))))))))))))))))
  | k + 1, (a0, a3, a4, a5, a6, a7, k1, false) => (bif (a3 == 2) then ((n65 a4).bind fun y190 => (ask (addBOk k1 a0 y190 1) (some ((a0 ++ y190), (a0.size + y190.size))))) else (bif (a3 == 1) then (bif (a4 == 1) then (ask (addBOk k1 a0 (⟨#[116, 114, 117, 101]⟩ : ByteArray) 1) (some ((a0 ++ (⟨#[116, 114, 117, 101]⟩ : ByteArray)), (a0.size + (⟨#[116, 114, 117, 101]⟩ : ByteArray).size)))) else (ask (addBOk k1 a0 (⟨#[102, 97, 108, 115, 101]⟩ : ByteArray) 1) (some ((a0 ++ (⟨#[102, 97, 108, 115, 101]⟩ : ByteArray)), (a0.size + (⟨#[102, 97, 108, 115, 101]⟩ : ByteArray).size))))) else (bif (a3 == 4) then (ask (addBOk k1 a0 a6 1) (some ((a0 ++ a6), (a0.size + a6.size)))) else (bif (a3 == 3) then ((n65 a4).bind fun y191 => (ask (addBOk k1 a0 y191 1) (bif (decide (a5 ≥ 0)) then (ask (addBOk (a0.size + y191.size) (a0 ++ y191) (bcons 43 ByteArray.empty) 1) ((n65 a5).bind fun y192 => (ask (addBOk ((a0 ++ y191).size + (bcons 43 ByteArray.empty).size) ((a0 ++ y191) ++ (bcons 43 ByteArray.empty)) y192 1) (ask (addBOk (((a0 ++ y191) ++ (bcons 43 ByteArray.empty)).size + y192.size) (((a0 ++ y191) ++ (bcons 43 ByteArray.empty)) ++ y192) (bcons 105 ByteArray.empty) 1) (some (((((a0 ++ y191) ++ (bcons 43 ByteArray.empty)) ++ y192) ++ (bcons 105 ByteArray.empty)), ((((a0 ++ y191) ++ (bcons 43 ByteArray.empty)) ++ y192).size + (bcons 105 ByteArray.empty).size))))))) else ((n65 a5).bind fun y193 => (ask (addBOk (a0.size + y191.size) (a0 ++ y191) y193 1) (ask (addBOk ((a0 ++ y191).size + y193.size) ((a0 ++ y191) ++ y193) (bcons 105 ByteArray.empty) 1) (some ((((a0 ++ y191) ++ y193) ++ (bcons 105 ByteArray.empty)), (((a0 ++ y191) ++ y193).size + (bcons 105 ByteArray.empty).size))))))))) else (bif (a3 == 5) then ((sidx (⟨#[40, 41]⟩ : ByteArray) 0).bind fun c326 => (ask (byteOk (c326.toNat : Int)) (ask (addBOk k1 a0 (bcons (c326.toNat : Int) ByteArray.empty) 1) (ask (([(a0.size + (bcons (c326.toNat : Int) ByteArray.empty).size)] : List Nat) = [(a0 ++ (bcons (c326.toNat : Int) ByteArray.empty)).size]) ((L40_1 (n40 k) 1000000000000 ((⟨#[40, 41]⟩ : ByteArray), a7, ((a7.length : Nat) : Int), 0, (a0 ++ (bcons (c326.toNat : Int) ByteArray.empty)), a3, a4, a5, a6, a7, ([((.int .i64 5), (.string (⟨#[40, 41]⟩ : ByteArray))), ((.int .i64 6), (.string (⟨#[91, 93]⟩ : ByteArray))), ((.int .i64 7), (.string (⟨#[123, 125]⟩ : ByteArray)))] : List (Value × Value))) ()).bind fun p359 => match p359.1 with | .x0 z360 z361 z362 z363 z364 z365 z366 z367 => (bif (bif (z362 == 5) then (((z366.length : Nat) : Int) == 1) else false) then (ask (addBOk z361.size z361 (bcons 44 ByteArray.empty) 1) ((sidx z360 1).bind fun c368 => (ask (byteOk (c368.toNat : Int)) (ask (addBOk (z361.size + (bcons 44 ByteArray.empty).size) (z361 ++ (bcons 44 ByteArray.empty)) (bcons (c368.toNat : Int) ByteArray.empty) 1) (some (((z361 ++ (bcons 44 ByteArray.empty)) ++ (bcons (c368.toNat : Int) ByteArray.empty)), ((z361 ++ (bcons 44 ByteArray.empty)).size + (bcons (c368.toNat : Int) ByteArray.empty).size))))))) else ((sidx z360 1).bind fun c369 => (ask (byteOk (c369.toNat : Int)) (ask (addBOk z361.size z361 (bcons (c369.toNat : Int) ByteArray.empty) 1) (some ((z361 ++ (bcons (c369.toNat : Int) ByteArray.empty)), (z361.size + (bcons (c369.toNat : Int) ByteArray.empty).size)))))))))))) else (bif (a3 == 6) then ((sidx (⟨#[91, 93]⟩ : ByteArray) 0).bind fun c282 => (ask (byteOk (c282.toNat : Int)) (ask (addBOk k1 a0 (bcons (c282.toNat : Int) ByteArray.empty) 1) (ask (([(a0.size + (bcons (c282.toNat : Int) ByteArray.empty).size)] : List Nat) = [(a0 ++ (bcons (c282.toNat : Int) ByteArray.empty)).size]) ((L40_1 (n40 k) 1000000000000 ((⟨#[91, 93]⟩ : ByteArray), a7, ((a7.length : Nat) : Int), 0, (a0 ++ (bcons (c282.toNat : Int) ByteArray.empty)), a3, a4, a5, a6, a7, ([((.int .i64 5), (.string (⟨#[40, 41]⟩ : ByteArray))), ((.int .i64 6), (.string (⟨#[91, 93]⟩ : ByteArray))), ((.int .i64 7), (.string (⟨#[123, 125]⟩ : ByteArray)))] : List (Value × Value))) ()).bind fun p315 => match p315.1 with | .x0 z316 z317 z318 z319 z320 z321 z322 z323 => (bif (bif (z318 == 5) then (((z322.length : Nat) : Int) == 1) else false) then (ask (addBOk z317.size z317 (bcons 44 ByteArray.empty) 1) ((sidx z316 1).bind fun c324 => (ask (byteOk (c324.toNat : Int)) (ask (addBOk (z317.size + (bcons 44 ByteArray.empty).size) (z317 ++ (bcons 44 ByteArray.empty)) (bcons (c324.toNat : Int) ByteArray.empty) 1) (some (((z317 ++ (bcons 44 ByteArray.empty)) ++ (bcons (c324.toNat : Int) ByteArray.empty)), ((z317 ++ (bcons 44 ByteArray.empty)).size + (bcons (c324.toNat : Int) ByteArray.empty).size))))))) else ((sidx z316 1).bind fun c325 => (ask (byteOk (c325.toNat : Int)) (ask (addBOk z317.size z317 (bcons (c325.toNat : Int) ByteArray.empty) 1) (some ((z317 ++ (bcons (c325.toNat : Int) ByteArray.empty)), (z317.size + (bcons (c325.toNat : Int) ByteArray.empty).size)))))))))))) else (bif (a3 == 7) then ((sidx (⟨#[123, 125]⟩ : ByteArray) 0).bind fun c238 => (ask (byteOk (c238.toNat : Int)) (ask (addBOk k1 a0 (bcons (c238.toNat : Int) ByteArray.empty) 1) (ask (([(a0.size + (bcons (c238.toNat : Int) ByteArray.empty).size)] : List Nat) = [(a0 ++ (bcons (c238.toNat : Int) ByteArray.empty)).size]) ((L40_1 (n40 k) 1000000000000 ((⟨#[123, 125]⟩ : ByteArray), a7, ((a7.length : Nat) : Int), 0, (a0 ++ (bcons (c238.toNat : Int) ByteArray.empty)), a3, a4, a5, a6, a7, ([((.int .i64 5), (.string (⟨#[40, 41]⟩ : ByteArray))), ((.int .i64 6), (.string (⟨#[91, 93]⟩ : ByteArray))), ((.int .i64 7), (.string (⟨#[123, 125]⟩ : ByteArray)))] : List (Value × Value))) ()).bind fun p271 => match p271.1 with | .x0 z272 z273 z274 z275 z276 z277 z278 z279 => (bif (bif (z274 == 5) then (((z278.length : Nat) : Int) == 1) else false) then (ask (addBOk z273.size z273 (bcons 44 ByteArray.empty) 1) ((sidx z272 1).bind fun c280 => (ask (byteOk (c280.toNat : Int)) (ask (addBOk (z273.size + (bcons 44 ByteArray.empty).size) (z273 ++ (bcons 44 ByteArray.empty)) (bcons (c280.toNat : Int) ByteArray.empty) 1) (some (((z273 ++ (bcons 44 ByteArray.empty)) ++ (bcons (c280.toNat : Int) ByteArray.empty)), ((z273 ++ (bcons 44 ByteArray.empty)).size + (bcons (c280.toNat : Int) ByteArray.empty).size))))))) else ((sidx z272 1).bind fun c281 => (ask (byteOk (c281.toNat : Int)) (ask (addBOk z273.size z273 (bcons (c281.toNat : Int) ByteArray.empty) 1) (some ((z273 ++ (bcons (c281.toNat : Int) ByteArray.empty)), (z273.size + (bcons (c281.toNat : Int) ByteArray.empty).size)))))))))))) else ((sidx (⟨#[]⟩ : ByteArray) 0).bind fun c194 => (ask (byteOk (c194.toNat : Int)) (ask (addBOk k1 a0 (bcons (c194.toNat : Int) ByteArray.empty) 1) (ask (([(a0.size + (bcons (c194.toNat : Int) ByteArray.empty).size)] : List Nat) = [(a0 ++ (bcons (c194.toNat : Int) ByteArray.empty)).size]) ((L40_1 (n40 k) 1000000000000 ((⟨#[]⟩ : ByteArray), a7, ((a7.length : Nat) : Int), 0, (a0 ++ (bcons (c194.toNat : Int) ByteArray.empty)), a3, a4, a5, a6, a7, ([((.int .i64 5), (.string (⟨#[40, 41]⟩ : ByteArray))), ((.int .i64 6), (.string (⟨#[91, 93]⟩ : ByteArray))), ((.int .i64 7), (.string (⟨#[123, 125]⟩ : ByteArray)))] : List (Value × Value))) ()).bind fun p227 => match p227.1 with | .x0 z228 z229 z230 z231 z232 z233 z234 z235 => (bif (bif (z230 == 5) then (((z234.length : Nat) : Int) == 1) else false) then (ask (addBOk z229.size z229 (bcons 44 ByteArray.empty) 1) ((sidx z228 1).bind fun c236 => (ask (byteOk (c236.toNat : Int)) (ask (addBOk (z229.size + (bcons 44 ByteArray.empty).size) (z229 ++ (bcons 44 ByteArray.empty)) (bcons (c236.toNat : Int) ByteArray.empty) 1) (some (((z229 ++ (bcons 44 ByteArray.empty)) ++ (bcons (c236.toNat : Int) ByteArray.empty)), ((z229 ++ (bcons 44 ByteArray.empty)).size + (bcons (c236.toNat : Int) ByteArray.empty).size))))))) else ((sidx z228 1).bind fun c237 => (ask (byteOk (c237.toNat : Int)) (ask (addBOk z229.size z229 (bcons (c237.toNat : Int) ByteArray.empty) 1) (some ((z229 ++ (bcons (c237.toNat : Int) ByteArray.empty)), (z229.size + (bcons (c237.toNat : Int) ByteArray.empty).size)))))))))))))))))))
def g40 (k : Nat) {σ : Type} : Nat → Option (SegE σ)
  | 1 => some (l40_1.seg σ (L40_1 (n40 k) 1000000000000))
  | _ => none
noncomputable def tabsR40 (gl : Nat → Option (List D)) (k : Nat) : Tabs := oddAt (tabsS1 gl) 40 (methE 40 dM40 (n40 k) (fun _ => vM40) (fun _ => cM40) (fun _ => kM40))
theorem E40_1 {σ : Type} (k : Nat) (Y : Yd σ) : ∀ n a (s : σ), L40_1 (n40 k) (n + 1) a s = evK (cfgOf Tryz.prog (tabsR40 gl k) tS9) (toldOf tS9) Y (inlN (cfgOf Tryz.prog (tabsR40 gl k) tS9) (toldOf tS9) Y) (g40 k) 40 (loopAt Tryz.f40 1) ((l40_1.toT σ).enc a s) (fun ex st' => l40_1.next (cfgOf Tryz.prog (tabsR40 gl k) tS9) 40 1 (L40_1 (n40 k) n) ex st') := by
  intro n ⟨v15, v16, v17, v18, v19, v20, v21, v22, v23, v24, v25⟩ s
  kernel_rfl
theorem Q40_1 {σ : Type} (hl : LibFits gl) (k : Nat) (Y : Yd σ) (rnd : Bool) : SegOk (cfgOf Tryz.prog (tabsR40 gl k) tS9) (evFn (cfgOf Tryz.prog (tabsR40 gl k) tS9) 9) 40 rnd Y (l40_1.seg σ (L40_1 (n40 k) 1000000000000)) (.block 1 (.loop (loopAt Tryz.f40 1))) :=
  told_loop (okS9 hl) k40_1 (by kernel_rfl) (by kernel_rfl) (fun _ _ => rfl) (segs_no (by kernel_rfl)) (E40_1 k Y) (hr := by kernel_rfl)
theorem N40 : ∀ k a, n40 (k + 1) a = bodyK (cfgOf Tryz.prog (tabsR40 gl k) tS9) (toldOf tS9) noY (inlN (cfgOf Tryz.prog (tabsR40 gl k) tS9) (toldOf tS9) noY) (g40 k) 40 Tryz.f40 (aM40 a) (bM40 a) (tM40 a) () (fun v b tk _ => rM40 v b tk) := by
  intro k a
  obtain ⟨a0, a3, a4, a5, a6, a7, k1, b2⟩ := a
  cases b2 <;> kernel_rfl
theorem om40 (hl : LibFits gl) (k : Nat) : OddSound Tryz.prog gl (fun g => bif Nat.beq g 40 then some (methE 40 dM40 (n40 k) (fun _ => vM40) (fun _ => cM40) (fun _ => kM40)) else (tabsS1 gl).odd g) :=
  told_methRec (t := tabsS1 gl) (okS9 hl) mixed (oddOkS1 hl) Tryz.func40 (by kernel_rfl) (by kernel_rfl) (nat := n40) (argsOf := aM40) (boxOf := bM40) (tokOf := tM40) (res := fun _ => rM40) (seg := fun k => (g40 k)) (by kernel_rfl) (fun k => (fun p hp e he => by
    have hq : segsOf (σ := Unit) (g40 k (σ := Unit)) (bodyOf Tryz.f40) = [(1, .loop (loopAt Tryz.f40 1))] := by kernel_rfl
    rw [hq] at hp
    simp only [List.mem_cons, List.not_mem_nil, or_false] at hp
    subst hp
    cases he
    exact Q40_1 hl k _ _))
    (fun av bs ts a h => by
      unfold dM40 at h
      split at h <;> first | (cases h; exact ⟨rfl, rfl, rfl⟩) | cases h)
    (fun _ v b tk o h => by
      unfold rM40 at h
      split at h
      · cases h; exact ⟨rfl, rfl, rfl⟩
      · cases h)
    (fun _ => rfl) N40 k
abbrev A46_1 := ByteArray × Int × Int × Int × Int × ByteArray × List D
inductive O46_1 where
  | x0 (o42 : ByteArray) (o43 : Int) (o44 : Int) (o45 : Int) (o46 : ByteArray) (o47 : List D)
def l46_1 : LoopS A46_1 O46_1 where
  n := 77
  ks := [1, 4, 5]
  kso := [1, 4]
  m := 1
  mt := 0
  decV := fun vs bs ts => match vs, bs, ts with
    | [.ptr 0 0, .d (.val (.string v11)), .d (.val (.int .i64 v12))], [.cells none [.d (.val (.int .i64 v13)), .d (.val (.int .i64 v14)), .d (.val (.int .i64 v15)), .d (.val (.string v16)), .d (.slice v17)]], [] => some (v11, v12, v13, v14, v15, v16, v17)
    | _, _, _ => none
  encV := fun (v11, v12, v13, v14, v15, v16, v17) => [.ptr 0 0, .d (.val (.string v11)), .d (.val (.int .i64 v12))]
  encB := fun (v11, v12, v13, v14, v15, v16, v17) => [.cells none [.d (.val (.int .i64 v13)), .d (.val (.int .i64 v14)), .d (.val (.int .i64 v15)), .d (.val (.string v16)), .d (.slice v17)]]
  tk := fun _ => []
  decO := fun ex vs bs ts => match ex, vs, bs, ts with
    | .normal, [.ptr 0 0, .d (.val (.string o42))], [.cells none [.d (.val (.int .i64 o43)), .d (.val (.int .i64 o44)), .d (.val (.int .i64 o45)), .d (.val (.string o46)), .d (.slice o47)]], [] => some (.x0 o42 o43 o44 o45 o46 o47)
    | _, _, _, _ => none
  exO := fun x => match x with
    | .x0 o42 o43 o44 o45 o46 o47 => .normal
  outV := fun x => match x with
    | .x0 o42 o43 o44 o45 o46 o47 => [.ptr 0 0, .d (.val (.string o42))]
  outB := fun x => match x with
    | .x0 o42 o43 o44 o45 o46 o47 => [.cells none [.d (.val (.int .i64 o43)), .d (.val (.int .i64 o44)), .d (.val (.int .i64 o45)), .d (.val (.string o46)), .d (.slice o47)]]
  tkO := fun x => match x with
    | .x0 o42 o43 o44 o45 o46 o47 => []
  elim := fun x k => match x with
    | .x0 o42 o43 o44 o45 o46 o47 => k .normal [.ptr 0 0, .d (.val (.string o42))] [.cells none [.d (.val (.int .i64 o43)), .d (.val (.int .i64 o44)), .d (.val (.int .i64 o45)), .d (.val (.string o46)), .d (.slice o47)]] []
theorem k46_1 : l46_1.Ok where
  ok1 := by kernel_rfl
  ok2 := by kernel_rfl
  dec := by
    intro vs bs ts a h
    simp only [l46_1] at h ⊢
    split at h
    · cases h; exact ⟨rfl, rfl⟩
    · cases h
  out := by
    intro ex vs bs ts o h
    simp only [l46_1] at h ⊢
    split at h
    · cases h; exact ⟨rfl, rfl, rfl⟩
    · cases h
  len := fun _ => ⟨rfl, rfl⟩
  elim := fun β o k => by cases o <;> rfl
def L46_1 {σ : Type} (F : Int × Int × Int × ByteArray × List D → Option (ByteArray)) : Nat → A46_1 → σ → Option (O46_1 × σ)
  | 0, _, _ => none
  | n+1, (v11, v12, v13, v14, v15, v16, v17), s => (bif (decide (v12 < ((v17.length : Nat) : Int))) then (bif (decide (v12 > 0)) then (ask (catOk v11 (⟨#[44, 32]⟩ : ByteArray)) ((lidx v17 v12).bind fun d18 => ask (d18.cells.length = 5) ((cellAt 0 d18).bind fun x19 => (asInt .i64 x19).bind fun x20 => ((cellAt 1 d18).bind fun x21 => (asInt .i64 x21).bind fun x22 => ((cellAt 2 d18).bind fun x23 => (asInt .i64 x23).bind fun x24 => ((cellAt 3 d18).bind fun x25 => (asStr x25).bind fun x26 => ((cellAt 4 d18).bind fun x27 => (asRow x27).bind fun x28 => ((F (x20, x22, x24, x26, x28)).bind fun y29 => (ask (catOk (v11 ++ (⟨#[44, 32]⟩ : ByteArray)) y29) (L46_1 F n (((v11 ++ (⟨#[44, 32]⟩ : ByteArray)) ++ y29), (w64 (v12 + 1)), v13, v14, v15, v16, v17) s)))))))))) else ((lidx v17 v12).bind fun d30 => ask (d30.cells.length = 5) ((cellAt 0 d30).bind fun x31 => (asInt .i64 x31).bind fun x32 => ((cellAt 1 d30).bind fun x33 => (asInt .i64 x33).bind fun x34 => ((cellAt 2 d30).bind fun x35 => (asInt .i64 x35).bind fun x36 => ((cellAt 3 d30).bind fun x37 => (asStr x37).bind fun x38 => ((cellAt 4 d30).bind fun x39 => (asRow x39).bind fun x40 => ((F (x32, x34, x36, x38, x40)).bind fun y41 => (ask (catOk v11 y41) (L46_1 F n ((v11 ++ y41), (w64 (v12 + 1)), v13, v14, v15, v16, v17) s)))))))))) else (some (O46_1.x0 v11 v13 v14 v15 v16 v17, s)))
def d46 (ds : List D) : Option (Int × Int × Int × ByteArray × List D) := match ds with
  | [.agg [.val (.int .i64 a0), .val (.int .i64 a1), .val (.int .i64 a2), .val (.string a3), .slice a4]] => some (a0, a1, a2, a3, a4)
  | _ => none
def r46 (v : AV) : Option (ByteArray) := match toPR v with
  | some (.one (.val (.string a5))) => some a5
  | _ => none
def n46 : Nat → Int × Int × Int × ByteArray × List D → Option (ByteArray)
  | 0, _ => none
  | k + 1, (a0, a1, a2, a3, a4) => (bif (a0 == 1) then (bif (a1 == 1) then (some (⟨#[116, 114, 117, 101]⟩ : ByteArray)) else (some (⟨#[102, 97, 108, 115, 101]⟩ : ByteArray))) else (bif (a0 == 2) then ((n71 a1).bind fun y6 => (some y6)) else (bif (a0 == 3) then (bif (decide (a2 ≥ 0)) then ((n71 a1).bind fun y7 => (ask (catOk y7 (⟨#[43]⟩ : ByteArray)) ((n71 a2).bind fun y8 => (ask (catOk (y7 ++ (⟨#[43]⟩ : ByteArray)) y8) (ask (catOk ((y7 ++ (⟨#[43]⟩ : ByteArray)) ++ y8) (⟨#[105]⟩ : ByteArray)) (some (((y7 ++ (⟨#[43]⟩ : ByteArray)) ++ y8) ++ (⟨#[105]⟩ : ByteArray)))))))) else ((n71 a1).bind fun y9 => (ask (catOk y9 (⟨#[]⟩ : ByteArray)) ((n71 a2).bind fun y10 => (ask (catOk (y9 ++ (⟨#[]⟩ : ByteArray)) y10) (ask (catOk ((y9 ++ (⟨#[]⟩ : ByteArray)) ++ y10) (⟨#[105]⟩ : ByteArray)) (some (((y9 ++ (⟨#[]⟩ : ByteArray)) ++ y10) ++ (⟨#[105]⟩ : ByteArray))))))))) else (bif (a0 == 4) then (some a3) else ((L46_1 (n46 k) 1000000000000 ((⟨#[]⟩ : ByteArray), 0, a0, a1, a2, a3, a4) ()).bind fun p48 => match p48.1 with | .x0 z49 z50 z51 z52 z53 z54 => (bif (z50 == 6) then (ask (catOk (⟨#[91]⟩ : ByteArray) z49) (ask (catOk ((⟨#[91]⟩ : ByteArray) ++ z49) (⟨#[93]⟩ : ByteArray)) (some (((⟨#[91]⟩ : ByteArray) ++ z49) ++ (⟨#[93]⟩ : ByteArray))))) else (bif (z50 == 7) then (ask (catOk (⟨#[123]⟩ : ByteArray) z49) (ask (catOk ((⟨#[123]⟩ : ByteArray) ++ z49) (⟨#[125]⟩ : ByteArray)) (some (((⟨#[123]⟩ : ByteArray) ++ z49) ++ (⟨#[125]⟩ : ByteArray))))) else (bif (((z54.length : Nat) : Int) == 1) then (ask (catOk z49 (⟨#[44]⟩ : ByteArray)) (ask (catOk (⟨#[40]⟩ : ByteArray) (z49 ++ (⟨#[44]⟩ : ByteArray))) (ask (catOk ((⟨#[40]⟩ : ByteArray) ++ (z49 ++ (⟨#[44]⟩ : ByteArray))) (⟨#[41]⟩ : ByteArray)) (some (((⟨#[40]⟩ : ByteArray) ++ (z49 ++ (⟨#[44]⟩ : ByteArray))) ++ (⟨#[41]⟩ : ByteArray)))))) else (ask (catOk (⟨#[40]⟩ : ByteArray) z49) (ask (catOk ((⟨#[40]⟩ : ByteArray) ++ z49) (⟨#[41]⟩ : ByteArray)) (some (((⟨#[40]⟩ : ByteArray) ++ z49) ++ (⟨#[41]⟩ : ByteArray)))))))))))))
def e46 : PureE := mkE d46 (n46 64) (fun a5 => .one (.val (.string a5)))
def g46 (k : Nat) {σ : Type} : Nat → Option (SegE σ)
  | 1 => some (l46_1.seg σ (L46_1 (n46 k) 1000000000000))
  | _ => none
theorem E46_1 {σ : Type} (k : Nat) (Y : Yd σ) : ∀ n a (s : σ), L46_1 (n46 k) (n + 1) a s = evK (cfgOf Tryz.prog (tabsS1 gl) (((46, mkE d46 (n46 k) (fun a5 => .one (.val (.string a5)))) :: tS9) : Tab)) (toldOf (((46, mkE d46 (n46 k) (fun a5 => .one (.val (.string a5)))) :: tS9) : Tab)) Y (inlN (cfgOf Tryz.prog (tabsS1 gl) (((46, mkE d46 (n46 k) (fun a5 => .one (.val (.string a5)))) :: tS9) : Tab)) (toldOf (((46, mkE d46 (n46 k) (fun a5 => .one (.val (.string a5)))) :: tS9) : Tab)) Y) (g46 k) 46 (loopAt Tryz.f46 1) ((l46_1.toT σ).enc a s) (fun ex st' => l46_1.next (cfgOf Tryz.prog (tabsS1 gl) (((46, mkE d46 (n46 k) (fun a5 => .one (.val (.string a5)))) :: tS9) : Tab)) 46 1 (L46_1 (n46 k) n) ex st') := by
  intro n ⟨v11, v12, v13, v14, v15, v16, v17⟩ s
  kernel_rfl
theorem Q46_1 {σ : Type} (hl : LibFits gl) (k : Nat) (hk : TabOk Tryz.prog gl (((46, mkE d46 (n46 k) (fun a5 => .one (.val (.string a5)))) :: tS9) : Tab)) (Y : Yd σ) (rnd : Bool) : SegOk (cfgOf Tryz.prog (tabsS1 gl) (((46, mkE d46 (n46 k) (fun a5 => .one (.val (.string a5)))) :: tS9) : Tab)) (evFn (cfgOf Tryz.prog (tabsS1 gl) (((46, mkE d46 (n46 k) (fun a5 => .one (.val (.string a5)))) :: tS9) : Tab)) 9) 46 rnd Y (l46_1.seg σ (L46_1 (n46 k) 1000000000000)) (.block 1 (.loop (loopAt Tryz.f46 1))) :=
  told_loop hk k46_1 (by kernel_rfl) (by kernel_rfl) (fun _ _ => rfl) (segs_no (by kernel_rfl)) (E46_1 k Y) (hr := by kernel_rfl)
theorem N46 : ∀ k a, n46 (k + 1) a = bodyK (cfgOf Tryz.prog (tabsS1 gl) (((46, mkE d46 (n46 k) (fun a5 => .one (.val (.string a5)))) :: tS9) : Tab)) (toldOf (((46, mkE d46 (n46 k) (fun a5 => .one (.val (.string a5)))) :: tS9) : Tab)) noY (inlN (cfgOf Tryz.prog (tabsS1 gl) (((46, mkE d46 (n46 k) (fun a5 => .one (.val (.string a5)))) :: tS9) : Tab)) (toldOf (((46, mkE d46 (n46 k) (fun a5 => .one (.val (.string a5)))) :: tS9) : Tab)) noY) (g46 k) 46 Tryz.f46 (((fun (a0, a1, a2, a3, a4) => [.agg [.val (.int .i64 a0), .val (.int .i64 a1), .val (.int .i64 a2), .val (.string a3), .slice a4]] : (Int × Int × Int × ByteArray × List D) → List D) a).map .d) [] [] () (fun v _ _ _ => r46 v) := by
  intro k a
  obtain ⟨a0, a1, a2, a3, a4⟩ := a
  kernel_rfl
noncomputable def t46 : Tab := (46, e46) :: tS9
theorem ok46 (hl : LibFits gl) : TabOk Tryz.prog gl t46 :=
  told_rec (t := tabsS1 gl) (okS9 hl) mixed (oddOkS1 hl) Tryz.func46 (by kernel_rfl) (nat := n46) (seg := fun k => g46 k) (by kernel_rfl) (fun k hk => (fun p hp e he => by
    have hq : segsOf (σ := Unit) (g46 k (σ := Unit)) (bodyOf Tryz.f46) = [(1, .loop (loopAt Tryz.f46 1))] := by kernel_rfl
    rw [hq] at hp
    simp only [List.mem_cons, List.not_mem_nil, or_false] at hp
    subst hp
    cases he
    exact Q46_1 hl k hk _ _))
    (args := fun (a0, a1, a2, a3, a4) => [.agg [.val (.int .i64 a0), .val (.int .i64 a1), .val (.int .i64 a2), .val (.string a3), .slice a4]]) (res := r46)
    (fun ds a h => by
      unfold d46 at h
      split at h
      · cases h; rfl
      · cases h)
    (fun v r h => by
      unfold r46 at h
      split at h
      · rename_i hv; cases h; exact hv
      · cases h)
    (fun _ => rfl) N46 64
def d33 (ds : List D) : Option (Int × ByteArray × ByteArray × ByteArray × Int × Int × Int × ByteArray × List D × Int × Int × Int × Int × ByteArray × ByteArray × ByteArray × Int × Int × Int × ByteArray × List D × Int × Int × Int) := match ds with
  | [.agg [.val (.int .i64 a0), .val (.string a1), .val (.string a2), .val (.string a3), .val (.int .i64 a4), .val (.int .i64 a5), .val (.int .i64 a6), .val (.string a7), .slice a8, .val (.int .i64 a9), .val (.int .i64 a10), .val (.int .i64 a11)], .agg [.val (.int .i64 a12), .val (.string a13), .val (.string a14), .val (.string a15), .val (.int .i64 a16), .val (.int .i64 a17), .val (.int .i64 a18), .val (.string a19), .slice a20, .val (.int .i64 a21), .val (.int .i64 a22), .val (.int .i64 a23)]] => some (a0, a1, a2, a3, a4, a5, a6, a7, a8, a9, a10, a11, a12, a13, a14, a15, a16, a17, a18, a19, a20, a21, a22, a23)
  | _ => none
def r33 (v : AV) : Option (Bool) := match toPR v with
  | some (.one (.val (.bool a24))) => some a24
  | _ => none
def n33 : Int × ByteArray × ByteArray × ByteArray × Int × Int × Int × ByteArray × List D × Int × Int × Int × Int × ByteArray × ByteArray × ByteArray × Int × Int × Int × ByteArray × List D × Int × Int × Int → Option (Bool) := fun (a0, a1, a2, a3, a4, a5, a6, a7, a8, a9, a10, a11, a12, a13, a14, a15, a16, a17, a18, a19, a20, a21, a22, a23) => (bif (bif (bif (bif (a0 == a12) then (sEq a1 a13) else false) then (sEq a2 a14) else false) then (sEq a3 a15) else false) then ((n34 (a4, a5, a6, a7, a8)).bind fun y25 => (bif (y25 == 0) then ((n34 (a16, a17, a18, a19, a20)).bind fun y26 => (bif (y26 == 0) then ((n35 (a4, a5, a6, a7, a8, a16, a17, a18, a19, a20)).bind fun y27 => (some (y27 == 0))) else (some false))) else (some false))) else (some false))
def e33 : PureE := mkE d33 n33 (fun a24 => .one (.val (.bool a24)))
def g33 {σ : Type} : Nat → Option (SegE σ)
  | _ => none
theorem N33 : ∀ a, n33 a = bodyK (cfgOf Tryz.prog (tabsS1 gl) tS9) (toldOf tS9) noY (inlN (cfgOf Tryz.prog (tabsS1 gl) tS9) (toldOf tS9) noY) g33 33 Tryz.f33 (((fun (a0, a1, a2, a3, a4, a5, a6, a7, a8, a9, a10, a11, a12, a13, a14, a15, a16, a17, a18, a19, a20, a21, a22, a23) => [.agg [.val (.int .i64 a0), .val (.string a1), .val (.string a2), .val (.string a3), .val (.int .i64 a4), .val (.int .i64 a5), .val (.int .i64 a6), .val (.string a7), .slice a8, .val (.int .i64 a9), .val (.int .i64 a10), .val (.int .i64 a11)], .agg [.val (.int .i64 a12), .val (.string a13), .val (.string a14), .val (.string a15), .val (.int .i64 a16), .val (.int .i64 a17), .val (.int .i64 a18), .val (.string a19), .slice a20, .val (.int .i64 a21), .val (.int .i64 a22), .val (.int .i64 a23)]] : (Int × ByteArray × ByteArray × ByteArray × Int × Int × Int × ByteArray × List D × Int × Int × Int × Int × ByteArray × ByteArray × ByteArray × Int × Int × Int × ByteArray × List D × Int × Int × Int) → List D) a).map .d) [] [] () (fun v _ _ _ => r33 v) := by
  intro a
  obtain ⟨a0, a1, a2, a3, a4, a5, a6, a7, a8, a9, a10, a11, a12, a13, a14, a15, a16, a17, a18, a19, a20, a21, a22, a23⟩ := a
  kernel_rfl
noncomputable def t33 : Tab := (33, e33) :: tS9
theorem ok33 (hl : LibFits gl) : TabOk Tryz.prog gl t33 :=
  told_fn (okS9 hl) mixed (oddOkS1 hl) Tryz.func33 (by kernel_rfl) (by kernel_rfl) (by kernel_rfl) (segs_no (by kernel_rfl))
    (args := fun (a0, a1, a2, a3, a4, a5, a6, a7, a8, a9, a10, a11, a12, a13, a14, a15, a16, a17, a18, a19, a20, a21, a22, a23) => [.agg [.val (.int .i64 a0), .val (.string a1), .val (.string a2), .val (.string a3), .val (.int .i64 a4), .val (.int .i64 a5), .val (.int .i64 a6), .val (.string a7), .slice a8, .val (.int .i64 a9), .val (.int .i64 a10), .val (.int .i64 a11)], .agg [.val (.int .i64 a12), .val (.string a13), .val (.string a14), .val (.string a15), .val (.int .i64 a16), .val (.int .i64 a17), .val (.int .i64 a18), .val (.string a19), .slice a20, .val (.int .i64 a21), .val (.int .i64 a22), .val (.int .i64 a23)]]) (res := r33)
    (fun ds a h => by
      unfold d33 at h
      split at h
      · cases h; rfl
      · cases h)
    (fun v r h => by
      unfold r33 at h
      split at h
      · rename_i hv; cases h; exact hv
      · cases h)
    N33
abbrev A10_0 := List D × List D × Int
inductive O10_0 where
  | x0 (o56 : Bool)
  | x1 
def l10_0 : LoopS A10_0 O10_0 where
  n := 73
  ks := [0, 1, 5]
  kso := [4]
  m := 0
  mt := 0
  decV := fun vs bs ts => match vs, bs, ts with
    | [.d (.slice v3), .d (.slice v4), .d (.val (.int .i64 v5))], [], [] => some (v3, v4, v5)
    | _, _, _ => none
  encV := fun (v3, v4, v5) => [.d (.slice v3), .d (.slice v4), .d (.val (.int .i64 v5))]
  encB := fun (v3, v4, v5) => []
  tk := fun _ => []
  decO := fun ex vs bs ts => match ex, vs, bs, ts with
    | .ret, [.d (.val (.bool o56))], [], [] => some (.x0 o56)
    | .normal, [.undef], [], [] => some (.x1 )
    | _, _, _, _ => none
  exO := fun x => match x with
    | .x0 o56 => .ret
    | .x1  => .normal
  outV := fun x => match x with
    | .x0 o56 => [.d (.val (.bool o56))]
    | .x1  => [.undef]
  outB := fun x => match x with
    | .x0 o56 => []
    | .x1  => []
  tkO := fun x => match x with
    | .x0 o56 => []
    | .x1  => []
  elim := fun x k => match x with
    | .x0 o56 => k .ret [.d (.val (.bool o56))] [] []
    | .x1  => k .normal [.undef] [] []
theorem k10_0 : l10_0.Ok where
  ok1 := by kernel_rfl
  ok2 := by kernel_rfl
  dec := by
    intro vs bs ts a h
    simp only [l10_0] at h ⊢
    split at h
    · cases h; exact ⟨rfl, rfl⟩
    · cases h
  out := by
    intro ex vs bs ts o h
    simp only [l10_0] at h ⊢
    split at h
    · cases h; exact ⟨rfl, rfl, rfl⟩
    · cases h; exact ⟨rfl, rfl, rfl⟩
    · cases h
  len := fun _ => ⟨rfl, rfl⟩
  elim := fun β o k => by cases o <;> rfl
def L10_0 {σ : Type} : Nat → A10_0 → σ → Option (O10_0 × σ)
  | 0, _, _ => none
  | n+1, (v3, v4, v5), s => (bif (decide (v5 < ((v3.length : Nat) : Int))) then ((lidx v3 v5).bind fun d6 => ask (d6.cells.length = 12) ((cellAt 0 d6).bind fun x7 => (asInt .i64 x7).bind fun x8 => ((cellAt 1 d6).bind fun x9 => (asStr x9).bind fun x10 => ((cellAt 2 d6).bind fun x11 => (asStr x11).bind fun x12 => ((cellAt 3 d6).bind fun x13 => (asStr x13).bind fun x14 => ((cellAt 4 d6).bind fun x15 => (asInt .i64 x15).bind fun x16 => ((cellAt 5 d6).bind fun x17 => (asInt .i64 x17).bind fun x18 => ((cellAt 6 d6).bind fun x19 => (asInt .i64 x19).bind fun x20 => ((cellAt 7 d6).bind fun x21 => (asStr x21).bind fun x22 => ((cellAt 8 d6).bind fun x23 => (asRow x23).bind fun x24 => ((cellAt 9 d6).bind fun x25 => (asInt .i64 x25).bind fun x26 => ((cellAt 10 d6).bind fun x27 => (asInt .i64 x27).bind fun x28 => ((cellAt 11 d6).bind fun x29 => (asInt .i64 x29).bind fun x30 => ((lidx v4 v5).bind fun d31 => ask (d31.cells.length = 12) ((cellAt 0 d31).bind fun x32 => (asInt .i64 x32).bind fun x33 => ((cellAt 1 d31).bind fun x34 => (asStr x34).bind fun x35 => ((cellAt 2 d31).bind fun x36 => (asStr x36).bind fun x37 => ((cellAt 3 d31).bind fun x38 => (asStr x38).bind fun x39 => ((cellAt 4 d31).bind fun x40 => (asInt .i64 x40).bind fun x41 => ((cellAt 5 d31).bind fun x42 => (asInt .i64 x42).bind fun x43 => ((cellAt 6 d31).bind fun x44 => (asInt .i64 x44).bind fun x45 => ((cellAt 7 d31).bind fun x46 => (asStr x46).bind fun x47 => ((cellAt 8 d31).bind fun x48 => (asRow x48).bind fun x49 => ((cellAt 9 d31).bind fun x50 => (asInt .i64 x50).bind fun x51 => ((cellAt 10 d31).bind fun x52 => (asInt .i64 x52).bind fun x53 => ((cellAt 11 d31).bind fun x54 => (asInt .i64 x54).bind fun x55 => (bif (bif (bif (bif (x8 != x33) then true else (!(sEq x10 x35))) then true else (!(sEq x12 x37))) then true else (!(sEq x14 x39))) then (some (O10_0.x0 false, s)) else ((n22 (x16, x18, x20, x22, x24)).bind fun y57 => (bif (!y57) then (some (O10_0.x0 false, s)) else ((n22 (x41, x43, x45, x47, x49)).bind fun y58 => (bif (!y58) then (some (O10_0.x0 false, s)) else ((n23 (x16, x18, x20, x22, x24, x41, x43, x45, x47, x49)).bind fun y59 => (bif (!y59) then (some (O10_0.x0 false, s)) else (L10_0 n (v3, v4, (w64 (v5 + 1))) s)))))))))))))))))))))))))))))))))) else (some (O10_0.x1 , s)))
def d10 (ds : List D) : Option (List D × List D) := match ds with
  | [.slice a0, .slice a1] => some (a0, a1)
  | _ => none
def r10 (v : AV) : Option (Bool) := match toPR v with
  | some (.one (.val (.bool a2))) => some a2
  | _ => none
def n10 : List D × List D → Option (Bool) := fun (a0, a1) => (bif (((a0.length : Nat) : Int) != ((a1.length : Nat) : Int)) then (some false) else ((L10_0 1000000000000 (a0, a1, 0) ()).bind fun p60 => match p60.1 with | .x0 z61 => (some z61) | .x1  => (some true)))
def e10 : PureE := mkE d10 n10 (fun a2 => .one (.val (.bool a2)))
def g10 {σ : Type} : Nat → Option (SegE σ)
  | 0 => some (l10_0.seg σ (L10_0 1000000000000))
  | _ => none
theorem E10_0 {σ : Type} (Y : Yd σ) : ∀ n a (s : σ), L10_0 (n + 1) a s = evK (cfgOf Tryz.prog (tabsS1 gl) tS9) (toldOf tS9) Y (inlN (cfgOf Tryz.prog (tabsS1 gl) tS9) (toldOf tS9) Y) g10 10 (loopAt Tryz.f10 0) ((l10_0.toT σ).enc a s) (fun ex st' => l10_0.next (cfgOf Tryz.prog (tabsS1 gl) tS9) 10 0 (L10_0 n) ex st') := by
  intro n ⟨v3, v4, v5⟩ s
  kernel_rfl
theorem Q10_0 {σ : Type} (hl : LibFits gl) (Y : Yd σ) (rnd : Bool) : SegOk (cfgOf Tryz.prog (tabsS1 gl) tS9) (evFn (cfgOf Tryz.prog (tabsS1 gl) tS9) 9) 10 rnd Y (l10_0.seg σ (L10_0 1000000000000)) (.block 0 (.loop (loopAt Tryz.f10 0))) :=
  told_loop (okS9 hl) k10_0 (by kernel_rfl) (by kernel_rfl) (fun _ _ => rfl) (segs_no (by kernel_rfl)) (E10_0 Y) (hr := by kernel_rfl)
theorem N10 : ∀ a, n10 a = bodyK (cfgOf Tryz.prog (tabsS1 gl) tS9) (toldOf tS9) noY (inlN (cfgOf Tryz.prog (tabsS1 gl) tS9) (toldOf tS9) noY) g10 10 Tryz.f10 (((fun (a0, a1) => [.slice a0, .slice a1] : (List D × List D) → List D) a).map .d) [] [] () (fun v _ _ _ => r10 v) := by
  intro a
  obtain ⟨a0, a1⟩ := a
  kernel_rfl
noncomputable def t10 : Tab := (10, e10) :: tS9
theorem ok10 (hl : LibFits gl) : TabOk Tryz.prog gl t10 :=
  told_fn (okS9 hl) mixed (oddOkS1 hl) Tryz.func10 (by kernel_rfl) (by kernel_rfl) (by kernel_rfl) (fun p hp e he => by
    have hq : segsOf (σ := Unit) (g10 (σ := Unit)) (bodyOf Tryz.f10) = [(0, .loop (loopAt Tryz.f10 0))] := by kernel_rfl
    rw [hq] at hp
    simp only [List.mem_cons, List.not_mem_nil, or_false] at hp
    subst hp
    cases he
    exact Q10_0 hl _ _)
    (args := fun (a0, a1) => [.slice a0, .slice a1]) (res := r10)
    (fun ds a h => by
      unfold d10 at h
      split at h
      · cases h; rfl
      · cases h)
    (fun v r h => by
      unfold r10 at h
      split at h
      · rename_i hv; cases h; exact hv
      · cases h)
    N10
noncomputable def tabsS10 (gl : Nat → Option (List D)) : Tabs := { tabsS1 gl with odd := fun g => bif Nat.beq g 40 then some (methE 40 dM40 (n40 64) (fun _ => vM40) (fun _ => cM40) (fun _ => kM40)) else ((tabsS1 gl).odd g) }
theorem oddOkS10 (hl : LibFits gl) : OddSound Tryz.prog gl (tabsS10 gl).odd := OddSound.join (om40 hl 64) ((oddOkS1 hl))
noncomputable def tS10 : Tab := (46, e46) :: (33, e33) :: (10, e10) :: tS9
theorem okS10 (hl : LibFits gl) : TabOk Tryz.prog gl tS10 :=
  TabOk.cons (TabOk.cons (TabOk.cons (okS9 hl) ((ok10 hl).fair (10, e10) (List.mem_cons_self (l := tS9))) ((ok10 hl).spec (10, e10) (List.mem_cons_self (l := tS9)))) ((ok33 hl).fair (33, e33) (List.mem_cons_self (l := tS9))) ((ok33 hl).spec (33, e33) (List.mem_cons_self (l := tS9)))) ((ok46 hl).fair (46, e46) (List.mem_cons_self (l := tS9))) ((ok46 hl).spec (46, e46) (List.mem_cons_self (l := tS9)))
def d17 (ds : List D) : Option (Int × Int × Int × ByteArray × List D) := match ds with
  | [.agg [.val (.int .i64 a0), .val (.int .i64 a1), .val (.int .i64 a2), .val (.string a3), .slice a4]] => some (a0, a1, a2, a3, a4)
  | _ => none
def r17 (v : AV) : Option (ByteArray × Int) := match toPR v with
  | some (.many [.val (.string a5), .val (.int .i64 a6)]) => some (a5, a6)
  | _ => none
def n17 : Int × Int × Int × ByteArray × List D → Option (ByteArray × Int) := fun (a0, a1, a2, a3, a4) => ((n34 (a0, a1, a2, a3, a4)).bind fun y7 => (bif (y7 != 0) then (some ((⟨#[]⟩ : ByteArray), 40)) else ((n40 64 (ByteArray.empty, a0, a1, a2, a3, a4, 0, false)).bind fun y8 => (ask (y8.2 = y8.1.size ∧ strOk y8.1) (some (y8.1, 0))))))
def e17 : PureE := mkE d17 n17 (fun (a5, a6) => .many [.val (.string a5), .val (.int .i64 a6)])
def g17 {σ : Type} : Nat → Option (SegE σ)
  | _ => none
theorem N17 : ∀ a, n17 a = bodyK (cfgOf Tryz.prog (tabsS10 gl) tS10) (toldOf tS10) noY (inlN (cfgOf Tryz.prog (tabsS10 gl) tS10) (toldOf tS10) noY) g17 17 Tryz.f17 (((fun (a0, a1, a2, a3, a4) => [.agg [.val (.int .i64 a0), .val (.int .i64 a1), .val (.int .i64 a2), .val (.string a3), .slice a4]] : (Int × Int × Int × ByteArray × List D) → List D) a).map .d) [] [] () (fun v _ _ _ => r17 v) := by
  intro a
  obtain ⟨a0, a1, a2, a3, a4⟩ := a
  kernel_rfl
noncomputable def t17 : Tab := (17, e17) :: tS10
theorem ok17 (hl : LibFits gl) : TabOk Tryz.prog gl t17 :=
  told_fn (okS10 hl) mixed (oddOkS10 hl) Tryz.func17 (by kernel_rfl) (by kernel_rfl) (by kernel_rfl) (segs_no (by kernel_rfl))
    (args := fun (a0, a1, a2, a3, a4) => [.agg [.val (.int .i64 a0), .val (.int .i64 a1), .val (.int .i64 a2), .val (.string a3), .slice a4]]) (res := r17)
    (fun ds a h => by
      unfold d17 at h
      split at h
      · cases h; rfl
      · cases h)
    (fun v r h => by
      unfold r17 at h
      split at h
      · rename_i hv; cases h; exact hv
      · cases h)
    N17
def d21 (ds : List D) : Option (Int × Int × Int × ByteArray × List D) := match ds with
  | [.agg [.val (.int .i64 a0), .val (.int .i64 a1), .val (.int .i64 a2), .val (.string a3), .slice a4]] => some (a0, a1, a2, a3, a4)
  | _ => none
def r21 (v : AV) : Option (ByteArray × Int) := match toPR v with
  | some (.many [.val (.string a5), .val (.int .i64 a6)]) => some (a5, a6)
  | _ => none
def n21 : Int × Int × Int × ByteArray × List D → Option (ByteArray × Int) := fun (a0, a1, a2, a3, a4) => ((n22 (a0, a1, a2, a3, a4)).bind fun y7 => (bif (!y7) then (some ((⟨#[]⟩ : ByteArray), 40)) else ((n46 64 (a0, a1, a2, a3, a4)).bind fun y8 => (some (y8, 0)))))
def e21 : PureE := mkE d21 n21 (fun (a5, a6) => .many [.val (.string a5), .val (.int .i64 a6)])
def g21 {σ : Type} : Nat → Option (SegE σ)
  | _ => none
theorem N21 : ∀ a, n21 a = bodyK (cfgOf Tryz.prog (tabsS10 gl) tS10) (toldOf tS10) noY (inlN (cfgOf Tryz.prog (tabsS10 gl) tS10) (toldOf tS10) noY) g21 21 Tryz.f21 (((fun (a0, a1, a2, a3, a4) => [.agg [.val (.int .i64 a0), .val (.int .i64 a1), .val (.int .i64 a2), .val (.string a3), .slice a4]] : (Int × Int × Int × ByteArray × List D) → List D) a).map .d) [] [] () (fun v _ _ _ => r21 v) := by
  intro a
  obtain ⟨a0, a1, a2, a3, a4⟩ := a
  kernel_rfl
noncomputable def t21 : Tab := (21, e21) :: tS10
theorem ok21 (hl : LibFits gl) : TabOk Tryz.prog gl t21 :=
  told_fn (okS10 hl) mixed (oddOkS10 hl) Tryz.func21 (by kernel_rfl) (by kernel_rfl) (by kernel_rfl) (segs_no (by kernel_rfl))
    (args := fun (a0, a1, a2, a3, a4) => [.agg [.val (.int .i64 a0), .val (.int .i64 a1), .val (.int .i64 a2), .val (.string a3), .slice a4]]) (res := r21)
    (fun ds a h => by
      unfold d21 at h
      split at h
      · cases h; rfl
      · cases h)
    (fun v r h => by
      unfold r21 at h
      split at h
      · rename_i hv; cases h; exact hv
      · cases h)
    N21
def dM18 (av : List AV) (bs : List Box) (ts : List Nat) : Option (ByteArray × List D × Nat × Bool) := match av, bs, ts with
  | [.ptr 0 0, .d (.slice a3)], [.cells (some 50) [.ptr 0 0, .obs 0 a0]], [k1] => some (a0, a3, k1, true)
  | [.ptr 0 0, .d (.slice a3)], [.cells (some 50) [.d (.val (.pointer none)), .obs 0 a0]], [k1] => some (a0, a3, k1, false)
  | _, _, _ => none
def aM18 : (ByteArray × List D × Nat × Bool) → List AV := fun (a0, a3, k1, b2) => [.ptr 0 0, .d (.slice a3)]
def bM18 : (ByteArray × List D × Nat × Bool) → List Box
  | (a0, a3, k1, true) => [.cells (some 50) [.ptr 0 0, .obs 0 a0]]
  | (a0, a3, k1, false) => [.cells (some 50) [.d (.val (.pointer none)), .obs 0 a0]]
def tM18 : (ByteArray × List D × Nat × Bool) → List Nat := fun (a0, a3, k1, b2) => [k1]
def vM18 : (ByteArray × Nat) → AV := fun (p5, q6) => .tup []
def cM18 : (ByteArray × Nat) → List Box := fun (p5, q6) => [.cells (some 50) [.ptr 0 0, .obs 0 p5]]
def kM18 : (ByteArray × Nat) → List Nat := fun (p5, q6) => [q6]
def rM18 (v : AV) (bs : List Box) (ts : List Nat) : Option (ByteArray × Nat) := match v, bs, ts with
  | .tup [], [.cells (some 50) [.ptr 0 0, .obs 0 p5]], [q6] => some (p5, q6)
  | _, _, _ => none
def n18 : ByteArray × List D × Nat × Bool → Option (ByteArray × Nat)
  | (a0, a3, k1, true) => ((n42 (a3, (⟨#[32]⟩ : ByteArray))).bind fun y4 => (ask (addBOk k1 a0 y4 1) (ask (addBOk (a0.size + y4.size) (a0 ++ y4) (bcons 10 ByteArray.empty) 1) (some (((a0 ++ y4) ++ (bcons 10 ByteArray.empty)), ((a0 ++ y4).size + (bcons 10 ByteArray.empty).size))))))
  | (a0, a3, k1, false) => ((n42 (a3, (⟨#[32]⟩ : ByteArray))).bind fun y7 => (ask (addBOk k1 a0 y7 1) (ask (addBOk (a0.size + y7.size) (a0 ++ y7) (bcons 10 ByteArray.empty) 1) (some (((a0 ++ y7) ++ (bcons 10 ByteArray.empty)), ((a0 ++ y7).size + (bcons 10 ByteArray.empty).size))))))
def g18 {σ : Type} : Nat → Option (SegE σ)
  | _ => none
theorem N18 : ∀ a, n18 a = bodyK (cfgOf Tryz.prog (tabsS10 gl) tS10) (toldOf tS10) noY (inlN (cfgOf Tryz.prog (tabsS10 gl) tS10) (toldOf tS10) noY) g18 18 Tryz.f18 (aM18 a) (bM18 a) (tM18 a) () (fun v b tk _ => rM18 v b tk) := by
  intro a
  obtain ⟨a0, a3, k1, b2⟩ := a
  cases b2 <;> kernel_rfl
theorem om18 (hl : LibFits gl) : OddSound Tryz.prog gl (fun g => bif Nat.beq g 18 then some (methE 18 dM18 n18 (fun _ => vM18) (fun _ => cM18) (fun _ => kM18)) else (tabsS10 gl).odd g) :=
  told_meth (t := tabsS10 gl) (okS10 hl) mixed (oddOkS10 hl) Tryz.func18 (by kernel_rfl) (by kernel_rfl) (argsOf := aM18) (boxOf := bM18) (tokOf := tM18) (res := fun _ => rM18) (by kernel_rfl) (segs_no (by kernel_rfl))
    (fun av bs ts a h => by
      unfold dM18 at h
      split at h <;> first | (cases h; exact ⟨rfl, rfl, rfl⟩) | cases h)
    (fun _ v b tk o h => by
      unfold rM18 at h
      split at h
      · cases h; exact ⟨rfl, rfl, rfl⟩
      · cases h)
    N18
noncomputable def tabsS11 (gl : Nat → Option (List D)) : Tabs := { tabsS10 gl with odd := fun g => bif Nat.beq g 18 then some (demE [false, true] (methE 18 dM18 n18 (fun _ => vM18) (fun _ => cM18) (fun _ => kM18))) else ((tabsS10 gl).odd g) }
theorem oddOkS11 (hl : LibFits gl) : OddSound Tryz.prog gl (tabsS11 gl).odd := OddSound.join (OddSound.dem (m := [false, true]) (o := (tabsS10 gl).odd) (om18 hl) (oddOkS10 hl)) ((oddOkS10 hl))
noncomputable def tS11 : Tab := (17, e17) :: (21, e21) :: tS10
theorem okS11 (hl : LibFits gl) : TabOk Tryz.prog gl tS11 :=
  TabOk.cons (TabOk.cons (okS10 hl) ((ok21 hl).fair (21, e21) (List.mem_cons_self (l := tS10))) ((ok21 hl).spec (21, e21) (List.mem_cons_self (l := tS10)))) ((ok17 hl).fair (17, e17) (List.mem_cons_self (l := tS10))) ((ok17 hl).spec (17, e17) (List.mem_cons_self (l := tS10)))
abbrev A7_0 := List D × Int × Int × ByteArray × Bool
inductive O7_0 where
  | x0 (o34 : ByteArray) (o35 : Int) (o36 : ByteArray)
  | x1 (o40 : ByteArray)
  | x2 (o67 : ByteArray) (o68 : Int) (o69 : ByteArray)
  | x3 (o73 : ByteArray)
def l7_0 : LoopS A7_0 O7_0 where
  n := 43
  ks := [4, 9, 10, 11]
  kso := [2, 3, 4]
  m := 1
  mt := 1
  decV := fun vs bs ts => match vs, bs, ts with
    | [.ptr 0 0, .d (.slice v3), .d (.val (.int .i64 v4)), .d (.val (.int .i64 v5))], [.cells (some 50) [.ptr 0 0, .obs 0 v6]], [_] => some (v3, v4, v5, v6, true)
    | [.ptr 0 0, .d (.slice v3), .d (.val (.int .i64 v4)), .d (.val (.int .i64 v5))], [.cells (some 50) [.d (.val (.pointer none)), .obs 0 v6]], [_] => some (v3, v4, v5, v6, false)
    | _, _, _ => none
  encV := fun (v3, v4, v5, v6, w7) => [.ptr 0 0, .d (.slice v3), .d (.val (.int .i64 v4)), .d (.val (.int .i64 v5))]
  encB := fun a => match a with
    | (v3, v4, v5, v6, true) => [.cells (some 50) [.ptr 0 0, .obs 0 v6]]
    | (v3, v4, v5, v6, false) => [.cells (some 50) [.d (.val (.pointer none)), .obs 0 v6]]
  tk := fun (v3, v4, v5, v6, w7) => [v6.size]
  decO := fun ex vs bs ts => match ex, vs, bs, ts with
    | .ret, [.d (.val (.string o34)), .d (.val (.int .i64 o35)), .undef], [.cells (some 50) [.ptr 0 0, .obs 0 o36]], [_] => some (.x0 o34 o35 o36)
    | .normal, [.undef, .undef, .ptr 0 0], [.cells (some 50) [.ptr 0 0, .obs 0 o40]], [_] => some (.x1 o40)
    | .ret, [.d (.val (.string o67)), .d (.val (.int .i64 o68)), .undef], [.cells (some 50) [.d (.val (.pointer none)), .obs 0 o69]], [_] => some (.x2 o67 o68 o69)
    | .normal, [.undef, .undef, .ptr 0 0], [.cells (some 50) [.d (.val (.pointer none)), .obs 0 o73]], [_] => some (.x3 o73)
    | _, _, _, _ => none
  exO := fun x => match x with
    | .x0 o34 o35 o36 => .ret
    | .x1 o40 => .normal
    | .x2 o67 o68 o69 => .ret
    | .x3 o73 => .normal
  outV := fun x => match x with
    | .x0 o34 o35 o36 => [.d (.val (.string o34)), .d (.val (.int .i64 o35)), .undef]
    | .x1 o40 => [.undef, .undef, .ptr 0 0]
    | .x2 o67 o68 o69 => [.d (.val (.string o67)), .d (.val (.int .i64 o68)), .undef]
    | .x3 o73 => [.undef, .undef, .ptr 0 0]
  outB := fun x => match x with
    | .x0 o34 o35 o36 => [.cells (some 50) [.ptr 0 0, .obs 0 o36]]
    | .x1 o40 => [.cells (some 50) [.ptr 0 0, .obs 0 o40]]
    | .x2 o67 o68 o69 => [.cells (some 50) [.d (.val (.pointer none)), .obs 0 o69]]
    | .x3 o73 => [.cells (some 50) [.d (.val (.pointer none)), .obs 0 o73]]
  tkO := fun x => match x with
    | .x0 o34 o35 o36 => [o36.size]
    | .x1 o40 => [o40.size]
    | .x2 o67 o68 o69 => [o69.size]
    | .x3 o73 => [o73.size]
  elim := fun x k => match x with
    | .x0 o34 o35 o36 => k .ret [.d (.val (.string o34)), .d (.val (.int .i64 o35)), .undef] [.cells (some 50) [.ptr 0 0, .obs 0 o36]] [o36.size]
    | .x1 o40 => k .normal [.undef, .undef, .ptr 0 0] [.cells (some 50) [.ptr 0 0, .obs 0 o40]] [o40.size]
    | .x2 o67 o68 o69 => k .ret [.d (.val (.string o67)), .d (.val (.int .i64 o68)), .undef] [.cells (some 50) [.d (.val (.pointer none)), .obs 0 o69]] [o69.size]
    | .x3 o73 => k .normal [.undef, .undef, .ptr 0 0] [.cells (some 50) [.d (.val (.pointer none)), .obs 0 o73]] [o73.size]
theorem k7_0 : l7_0.Ok where
  ok1 := by kernel_rfl
  ok2 := by kernel_rfl
  dec := by
    intro vs bs ts a h
    simp only [l7_0] at h ⊢
    split at h <;> first | (cases h; exact ⟨rfl, rfl⟩) | cases h
  out := by
    intro ex vs bs ts o h
    simp only [l7_0] at h ⊢
    split at h
    · cases h; exact ⟨rfl, rfl, rfl⟩
    · cases h; exact ⟨rfl, rfl, rfl⟩
    · cases h; exact ⟨rfl, rfl, rfl⟩
    · cases h; exact ⟨rfl, rfl, rfl⟩
    · cases h
  len := fun a => by
    obtain ⟨v3, v4, v5, v6, w7⟩ := a
    cases w7 <;> exact ⟨rfl, rfl⟩
  elim := fun β o k => by cases o <;> rfl
def L7_0 {σ : Type} : Nat → A7_0 → σ → Option (O7_0 × σ)
  | 0, _, _ => none
  | n+1, (v3, v4, v5, v6, true), s => (bif (decide (v5 < v4)) then ((lidx v3 v5).bind fun d8 => ask (d8.cells.length = 12) ((cellAt 0 d8).bind fun x9 => (asInt .i64 x9).bind fun x10 => ((cellAt 1 d8).bind fun x11 => (asStr x11).bind fun x12 => ((cellAt 2 d8).bind fun x13 => (asStr x13).bind fun x14 => ((cellAt 3 d8).bind fun x15 => (asStr x15).bind fun x16 => ((cellAt 4 d8).bind fun x17 => (asInt .i64 x17).bind fun x18 => ((cellAt 5 d8).bind fun x19 => (asInt .i64 x19).bind fun x20 => ((cellAt 6 d8).bind fun x21 => (asInt .i64 x21).bind fun x22 => ((cellAt 7 d8).bind fun x23 => (asStr x23).bind fun x24 => ((cellAt 8 d8).bind fun x25 => (asRow x25).bind fun x26 => ((cellAt 9 d8).bind fun x27 => (asInt .i64 x27).bind fun x28 => ((cellAt 10 d8).bind fun x29 => (asInt .i64 x29).bind fun x30 => ((cellAt 11 d8).bind fun x31 => (asInt .i64 x31).bind fun x32 => ((n16 (x10, x12, x14, x16, x18, x20, x22, x24, x26, x28, x30, x32)).bind fun y33 => (bif (!y33) then (ask (([v6.size] : List Nat) = [v6.size]) (some (O7_0.x0 (⟨#[]⟩ : ByteArray) 60 v6, s))) else ((n17 (x18, x20, x22, x24, x26)).bind fun y37 => (bif (x10 == 1) then ((n18 (v6, ([.val (.string (⟨#[105, 110, 118]⟩ : ByteArray)), .val (.string x12), .val (.string x14), .val (.string x16), .val (.string y37.1)] : List D), v6.size, true)).bind fun y38 => (ask (([y38.2] : List Nat) = [y38.1.size]) (L7_0 n (v3, v4, (w64 (v5 + 1)), y38.1, true) s))) else ((n18 (v6, ([.val (.string (⟨#[114, 101, 115]⟩ : ByteArray)), .val (.string x12), .val (.string y37.1)] : List D), v6.size, true)).bind fun y39 => (ask (([y39.2] : List Nat) = [y39.1.size]) (L7_0 n (v3, v4, (w64 (v5 + 1)), y39.1, true) s)))))))))))))))))))) else (ask (([v6.size] : List Nat) = [v6.size]) (some (O7_0.x1 v6, s))))
  | n+1, (v3, v4, v5, v6, false), s => (bif (decide (v5 < v4)) then ((lidx v3 v5).bind fun d41 => ask (d41.cells.length = 12) ((cellAt 0 d41).bind fun x42 => (asInt .i64 x42).bind fun x43 => ((cellAt 1 d41).bind fun x44 => (asStr x44).bind fun x45 => ((cellAt 2 d41).bind fun x46 => (asStr x46).bind fun x47 => ((cellAt 3 d41).bind fun x48 => (asStr x48).bind fun x49 => ((cellAt 4 d41).bind fun x50 => (asInt .i64 x50).bind fun x51 => ((cellAt 5 d41).bind fun x52 => (asInt .i64 x52).bind fun x53 => ((cellAt 6 d41).bind fun x54 => (asInt .i64 x54).bind fun x55 => ((cellAt 7 d41).bind fun x56 => (asStr x56).bind fun x57 => ((cellAt 8 d41).bind fun x58 => (asRow x58).bind fun x59 => ((cellAt 9 d41).bind fun x60 => (asInt .i64 x60).bind fun x61 => ((cellAt 10 d41).bind fun x62 => (asInt .i64 x62).bind fun x63 => ((cellAt 11 d41).bind fun x64 => (asInt .i64 x64).bind fun x65 => ((n16 (x43, x45, x47, x49, x51, x53, x55, x57, x59, x61, x63, x65)).bind fun y66 => (bif (!y66) then (ask (([v6.size] : List Nat) = [v6.size]) (some (O7_0.x2 (⟨#[]⟩ : ByteArray) 60 v6, s))) else ((n17 (x51, x53, x55, x57, x59)).bind fun y70 => (bif (x43 == 1) then ((n18 (v6, ([.val (.string (⟨#[105, 110, 118]⟩ : ByteArray)), .val (.string x45), .val (.string x47), .val (.string x49), .val (.string y70.1)] : List D), v6.size, false)).bind fun y71 => (ask (([y71.2] : List Nat) = [y71.1.size]) (L7_0 n (v3, v4, (w64 (v5 + 1)), y71.1, true) s))) else ((n18 (v6, ([.val (.string (⟨#[114, 101, 115]⟩ : ByteArray)), .val (.string x45), .val (.string y70.1)] : List D), v6.size, false)).bind fun y72 => (ask (([y72.2] : List Nat) = [y72.1.size]) (L7_0 n (v3, v4, (w64 (v5 + 1)), y72.1, true) s)))))))))))))))))))) else (ask (([v6.size] : List Nat) = [v6.size]) (some (O7_0.x3 v6, s))))
def d7 (ds : List D) : Option (List D) := match ds with
  | [.slice a0] => some a0
  | _ => none
def r7 (v : AV) : Option (ByteArray × Int) := match toPR v with
  | some (.many [.val (.string a1), .val (.int .i64 a2)]) => some (a1, a2)
  | _ => none
def n7 : List D → Option (ByteArray × Int) := fun a0 => (ask (([0] : List Nat) = [ByteArray.empty.size]) ((L7_0 1000000000000 (a0, ((a0.length : Nat) : Int), 0, ByteArray.empty, false) ()).bind fun p74 => match p74.1 with | .x0 z75 z76 z77 => (some (z75, z76)) | .x1 z78 => (ask (z78.size = z78.size ∧ strOk z78) (some (z78, 0))) | .x2 z79 z80 z81 => (some (z79, z80)) | .x3 z82 => (ask (z82.size = z82.size ∧ strOk z82) (some (z82, 0)))))
def e7 : PureE := mkE d7 n7 (fun (a1, a2) => .many [.val (.string a1), .val (.int .i64 a2)])
def g7 {σ : Type} : Nat → Option (SegE σ)
  | 0 => some (l7_0.seg σ (L7_0 1000000000000))
  | _ => none
theorem E7_0 {σ : Type} (Y : Yd σ) : ∀ n a (s : σ), L7_0 (n + 1) a s = evK (cfgOf Tryz.prog (tabsS11 gl) tS11) (toldOf tS11) Y (inlN (cfgOf Tryz.prog (tabsS11 gl) tS11) (toldOf tS11) Y) g7 7 (loopAt Tryz.f7 0) ((l7_0.toT σ).enc a s) (fun ex st' => l7_0.next (cfgOf Tryz.prog (tabsS11 gl) tS11) 7 0 (L7_0 n) ex st') := by
  intro n ⟨v3, v4, v5, v6, w7⟩ s
  cases w7 <;> kernel_rfl
theorem Q7_0 {σ : Type} (hl : LibFits gl) (Y : Yd σ) (rnd : Bool) : SegOk (cfgOf Tryz.prog (tabsS11 gl) tS11) (evFn (cfgOf Tryz.prog (tabsS11 gl) tS11) 9) 7 rnd Y (l7_0.seg σ (L7_0 1000000000000)) (.block 0 (.loop (loopAt Tryz.f7 0))) :=
  told_loop (okS11 hl) k7_0 (by kernel_rfl) (by kernel_rfl) (fun _ _ => rfl) (segs_no (by kernel_rfl)) (E7_0 Y) (hr := by kernel_rfl)
theorem N7 : ∀ a, n7 a = bodyK (cfgOf Tryz.prog (tabsS11 gl) tS11) (toldOf tS11) noY (inlN (cfgOf Tryz.prog (tabsS11 gl) tS11) (toldOf tS11) noY) g7 7 Tryz.f7 (((fun a0 => [.slice a0] : (List D) → List D) a).map .d) [] [] () (fun v _ _ _ => r7 v) := by
  intro a0
  kernel_rfl
noncomputable def t7 : Tab := (7, e7) :: tS11
theorem ok7 (hl : LibFits gl) : TabOk Tryz.prog gl t7 :=
  told_fn (okS11 hl) mixed (oddOkS11 hl) Tryz.func7 (by kernel_rfl) (by kernel_rfl) (by kernel_rfl) (fun p hp e he => by
    have hq : segsOf (σ := Unit) (g7 (σ := Unit)) (bodyOf Tryz.f7) = [(0, .loop (loopAt Tryz.f7 0))] := by kernel_rfl
    rw [hq] at hp
    simp only [List.mem_cons, List.not_mem_nil, or_false] at hp
    subst hp
    cases he
    exact Q7_0 hl _ _)
    (args := fun a0 => [.slice a0]) (res := r7)
    (fun ds a h => by
      unfold d7 at h
      split at h
      · cases h; rfl
      · cases h)
    (fun v r h => by
      unfold r7 at h
      split at h
      · rename_i hv; cases h; exact hv
      · cases h)
    N7
abbrev A8_0 := List D × ByteArray × Int
inductive O8_0 where
  | x0 (o32 : ByteArray) (o33 : Int)
  | x1 (o35 : ByteArray)
def l8_0 : LoopS A8_0 O8_0 where
  n := 58
  ks := [0, 4, 5]
  kso := [2, 3, 4]
  m := 0
  mt := 0
  decV := fun vs bs ts => match vs, bs, ts with
    | [.d (.slice v3), .d (.val (.string v4)), .d (.val (.int .i64 v5))], [], [] => some (v3, v4, v5)
    | _, _, _ => none
  encV := fun (v3, v4, v5) => [.d (.slice v3), .d (.val (.string v4)), .d (.val (.int .i64 v5))]
  encB := fun (v3, v4, v5) => []
  tk := fun _ => []
  decO := fun ex vs bs ts => match ex, vs, bs, ts with
    | .ret, [.d (.val (.string o32)), .d (.val (.int .i64 o33)), .undef], [], [] => some (.x0 o32 o33)
    | .normal, [.undef, .undef, .d (.val (.string o35))], [], [] => some (.x1 o35)
    | _, _, _, _ => none
  exO := fun x => match x with
    | .x0 o32 o33 => .ret
    | .x1 o35 => .normal
  outV := fun x => match x with
    | .x0 o32 o33 => [.d (.val (.string o32)), .d (.val (.int .i64 o33)), .undef]
    | .x1 o35 => [.undef, .undef, .d (.val (.string o35))]
  outB := fun x => match x with
    | .x0 o32 o33 => []
    | .x1 o35 => []
  tkO := fun x => match x with
    | .x0 o32 o33 => []
    | .x1 o35 => []
  elim := fun x k => match x with
    | .x0 o32 o33 => k .ret [.d (.val (.string o32)), .d (.val (.int .i64 o33)), .undef] [] []
    | .x1 o35 => k .normal [.undef, .undef, .d (.val (.string o35))] [] []
theorem k8_0 : l8_0.Ok where
  ok1 := by kernel_rfl
  ok2 := by kernel_rfl
  dec := by
    intro vs bs ts a h
    simp only [l8_0] at h ⊢
    split at h
    · cases h; exact ⟨rfl, rfl⟩
    · cases h
  out := by
    intro ex vs bs ts o h
    simp only [l8_0] at h ⊢
    split at h
    · cases h; exact ⟨rfl, rfl, rfl⟩
    · cases h; exact ⟨rfl, rfl, rfl⟩
    · cases h
  len := fun _ => ⟨rfl, rfl⟩
  elim := fun β o k => by cases o <;> rfl
def L8_0 {σ : Type} : Nat → A8_0 → σ → Option (O8_0 × σ)
  | 0, _, _ => none
  | n+1, (v3, v4, v5), s => (bif (decide (v5 < ((v3.length : Nat) : Int))) then ((lidx v3 v5).bind fun d6 => ask (d6.cells.length = 12) ((cellAt 0 d6).bind fun x7 => (asInt .i64 x7).bind fun x8 => ((cellAt 1 d6).bind fun x9 => (asStr x9).bind fun x10 => ((cellAt 2 d6).bind fun x11 => (asStr x11).bind fun x12 => ((cellAt 3 d6).bind fun x13 => (asStr x13).bind fun x14 => ((cellAt 4 d6).bind fun x15 => (asInt .i64 x15).bind fun x16 => ((cellAt 5 d6).bind fun x17 => (asInt .i64 x17).bind fun x18 => ((cellAt 6 d6).bind fun x19 => (asInt .i64 x19).bind fun x20 => ((cellAt 7 d6).bind fun x21 => (asStr x21).bind fun x22 => ((cellAt 8 d6).bind fun x23 => (asRow x23).bind fun x24 => ((cellAt 9 d6).bind fun x25 => (asInt .i64 x25).bind fun x26 => ((cellAt 10 d6).bind fun x27 => (asInt .i64 x27).bind fun x28 => ((cellAt 11 d6).bind fun x29 => (asInt .i64 x29).bind fun x30 => ((n20 (x8, x10, x12, x14, x16, x18, x20, x22, x24, x26, x28, x30)).bind fun y31 => (bif (!y31) then (some (O8_0.x0 (⟨#[]⟩ : ByteArray) 60, s)) else ((n21 (x16, x18, x20, x22, x24)).bind fun y34 => (bif (x8 == 1) then (ask (catOk v4 (⟨#[105, 110, 118, 32]⟩ : ByteArray)) (ask (catOk (v4 ++ (⟨#[105, 110, 118, 32]⟩ : ByteArray)) x10) (ask (catOk ((v4 ++ (⟨#[105, 110, 118, 32]⟩ : ByteArray)) ++ x10) (⟨#[32]⟩ : ByteArray)) (ask (catOk (((v4 ++ (⟨#[105, 110, 118, 32]⟩ : ByteArray)) ++ x10) ++ (⟨#[32]⟩ : ByteArray)) x12) (ask (catOk ((((v4 ++ (⟨#[105, 110, 118, 32]⟩ : ByteArray)) ++ x10) ++ (⟨#[32]⟩ : ByteArray)) ++ x12) (⟨#[32]⟩ : ByteArray)) (ask (catOk (((((v4 ++ (⟨#[105, 110, 118, 32]⟩ : ByteArray)) ++ x10) ++ (⟨#[32]⟩ : ByteArray)) ++ x12) ++ (⟨#[32]⟩ : ByteArray)) x14) (ask (catOk ((((((v4 ++ (⟨#[105, 110, 118, 32]⟩ : ByteArray)) ++ x10) ++ (⟨#[32]⟩ : ByteArray)) ++ x12) ++ (⟨#[32]⟩ : ByteArray)) ++ x14) (⟨#[32]⟩ : ByteArray)) (ask (catOk (((((((v4 ++ (⟨#[105, 110, 118, 32]⟩ : ByteArray)) ++ x10) ++ (⟨#[32]⟩ : ByteArray)) ++ x12) ++ (⟨#[32]⟩ : ByteArray)) ++ x14) ++ (⟨#[32]⟩ : ByteArray)) y34.1) (ask (catOk ((((((((v4 ++ (⟨#[105, 110, 118, 32]⟩ : ByteArray)) ++ x10) ++ (⟨#[32]⟩ : ByteArray)) ++ x12) ++ (⟨#[32]⟩ : ByteArray)) ++ x14) ++ (⟨#[32]⟩ : ByteArray)) ++ y34.1) (⟨#[10]⟩ : ByteArray)) (L8_0 n (v3, (((((((((v4 ++ (⟨#[105, 110, 118, 32]⟩ : ByteArray)) ++ x10) ++ (⟨#[32]⟩ : ByteArray)) ++ x12) ++ (⟨#[32]⟩ : ByteArray)) ++ x14) ++ (⟨#[32]⟩ : ByteArray)) ++ y34.1) ++ (⟨#[10]⟩ : ByteArray)), (w64 (v5 + 1))) s)))))))))) else (ask (catOk v4 (⟨#[114, 101, 115, 32]⟩ : ByteArray)) (ask (catOk (v4 ++ (⟨#[114, 101, 115, 32]⟩ : ByteArray)) x10) (ask (catOk ((v4 ++ (⟨#[114, 101, 115, 32]⟩ : ByteArray)) ++ x10) (⟨#[32]⟩ : ByteArray)) (ask (catOk (((v4 ++ (⟨#[114, 101, 115, 32]⟩ : ByteArray)) ++ x10) ++ (⟨#[32]⟩ : ByteArray)) y34.1) (ask (catOk ((((v4 ++ (⟨#[114, 101, 115, 32]⟩ : ByteArray)) ++ x10) ++ (⟨#[32]⟩ : ByteArray)) ++ y34.1) (⟨#[10]⟩ : ByteArray)) (L8_0 n (v3, (((((v4 ++ (⟨#[114, 101, 115, 32]⟩ : ByteArray)) ++ x10) ++ (⟨#[32]⟩ : ByteArray)) ++ y34.1) ++ (⟨#[10]⟩ : ByteArray)), (w64 (v5 + 1))) s))))))))))))))))))))))) else (some (O8_0.x1 v4, s)))
def d8 (ds : List D) : Option (List D) := match ds with
  | [.slice a0] => some a0
  | _ => none
def r8 (v : AV) : Option (ByteArray × Int) := match toPR v with
  | some (.many [.val (.string a1), .val (.int .i64 a2)]) => some (a1, a2)
  | _ => none
def n8 : List D → Option (ByteArray × Int) := fun a0 => ((L8_0 1000000000000 (a0, (⟨#[]⟩ : ByteArray), 0) ()).bind fun p36 => match p36.1 with | .x0 z37 z38 => (some (z37, z38)) | .x1 z39 => (some (z39, 0)))
def e8 : PureE := mkE d8 n8 (fun (a1, a2) => .many [.val (.string a1), .val (.int .i64 a2)])
def g8 {σ : Type} : Nat → Option (SegE σ)
  | 0 => some (l8_0.seg σ (L8_0 1000000000000))
  | _ => none
theorem E8_0 {σ : Type} (Y : Yd σ) : ∀ n a (s : σ), L8_0 (n + 1) a s = evK (cfgOf Tryz.prog (tabsS11 gl) tS11) (toldOf tS11) Y (inlN (cfgOf Tryz.prog (tabsS11 gl) tS11) (toldOf tS11) Y) g8 8 (loopAt Tryz.f8 0) ((l8_0.toT σ).enc a s) (fun ex st' => l8_0.next (cfgOf Tryz.prog (tabsS11 gl) tS11) 8 0 (L8_0 n) ex st') := by
  intro n ⟨v3, v4, v5⟩ s
  kernel_rfl
theorem Q8_0 {σ : Type} (hl : LibFits gl) (Y : Yd σ) (rnd : Bool) : SegOk (cfgOf Tryz.prog (tabsS11 gl) tS11) (evFn (cfgOf Tryz.prog (tabsS11 gl) tS11) 9) 8 rnd Y (l8_0.seg σ (L8_0 1000000000000)) (.block 0 (.loop (loopAt Tryz.f8 0))) :=
  told_loop (okS11 hl) k8_0 (by kernel_rfl) (by kernel_rfl) (fun _ _ => rfl) (segs_no (by kernel_rfl)) (E8_0 Y) (hr := by kernel_rfl)
theorem N8 : ∀ a, n8 a = bodyK (cfgOf Tryz.prog (tabsS11 gl) tS11) (toldOf tS11) noY (inlN (cfgOf Tryz.prog (tabsS11 gl) tS11) (toldOf tS11) noY) g8 8 Tryz.f8 (((fun a0 => [.slice a0] : (List D) → List D) a).map .d) [] [] () (fun v _ _ _ => r8 v) := by
  intro a0
  kernel_rfl
noncomputable def t8 : Tab := (8, e8) :: tS11
theorem ok8 (hl : LibFits gl) : TabOk Tryz.prog gl t8 :=
  told_fn (okS11 hl) mixed (oddOkS11 hl) Tryz.func8 (by kernel_rfl) (by kernel_rfl) (by kernel_rfl) (fun p hp e he => by
    have hq : segsOf (σ := Unit) (g8 (σ := Unit)) (bodyOf Tryz.f8) = [(0, .loop (loopAt Tryz.f8 0))] := by kernel_rfl
    rw [hq] at hp
    simp only [List.mem_cons, List.not_mem_nil, or_false] at hp
    subst hp
    cases he
    exact Q8_0 hl _ _)
    (args := fun a0 => [.slice a0]) (res := r8)
    (fun ds a h => by
      unfold d8 at h
      split at h
      · cases h; rfl
      · cases h)
    (fun v r h => by
      unfold r8 at h
      split at h
      · rename_i hv; cases h; exact hv
      · cases h)
    N8
noncomputable def tS12 : Tab := (7, e7) :: (8, e8) :: tS11
theorem okS12 (hl : LibFits gl) : TabOk Tryz.prog gl tS12 :=
  TabOk.cons (TabOk.cons (okS11 hl) ((ok8 hl).fair (8, e8) (List.mem_cons_self (l := tS11))) ((ok8 hl).spec (8, e8) (List.mem_cons_self (l := tS11)))) ((ok7 hl).fair (7, e7) (List.mem_cons_self (l := tS11))) ((ok7 hl).spec (7, e7) (List.mem_cons_self (l := tS11)))
def d3 (ds : List D) : Option (List D) := match ds with
  | [.slice a0] => some a0
  | _ => none
def r3 (v : AV) : Option (Bool) := match toPR v with
  | some (.one (.val (.bool a1))) => some a1
  | _ => none
def n3 : List D → Option (Bool) := fun a0 => ((n6 a0).bind fun y2 => ((n7 y2).bind fun y3 => ((n8 a0).bind fun y4 => (bif (sEq y3.1 y4.1) then ((n9 y3.2).bind fun y5 => (bif (y5 == y4.2) then (bif (y4.2 != 0) then ((n11 ()).bind fun y6 => (some y6)) else ((n10 (y2, a0)).bind fun y7 => (bif y7 then ((n11 ()).bind fun y8 => (some y8)) else (some false)))) else (some false))) else (some false)))))
def e3 : PureE := mkE d3 n3 (fun a1 => .one (.val (.bool a1)))
def g3 {σ : Type} : Nat → Option (SegE σ)
  | _ => none
theorem N3 : ∀ a, n3 a = bodyK (cfgOf Tryz.prog (tabsS11 gl) tS12) (toldOf tS12) noY (inlN (cfgOf Tryz.prog (tabsS11 gl) tS12) (toldOf tS12) noY) g3 3 Tryz.f3 (((fun a0 => [.slice a0] : (List D) → List D) a).map .d) [] [] () (fun v _ _ _ => r3 v) := by
  intro a0
  kernel_rfl
noncomputable def t3 : Tab := (3, e3) :: tS12
theorem ok3 (hl : LibFits gl) : TabOk Tryz.prog gl t3 :=
  told_fn (okS12 hl) mixed (oddOkS11 hl) Tryz.func3 (by kernel_rfl) (by kernel_rfl) (by kernel_rfl) (segs_no (by kernel_rfl))
    (args := fun a0 => [.slice a0]) (res := r3)
    (fun ds a h => by
      unfold d3 at h
      split at h
      · cases h; rfl
      · cases h)
    (fun v r h => by
      unfold r3 at h
      split at h
      · rename_i hv; cases h; exact hv
      · cases h)
    N3
end
end Ev
