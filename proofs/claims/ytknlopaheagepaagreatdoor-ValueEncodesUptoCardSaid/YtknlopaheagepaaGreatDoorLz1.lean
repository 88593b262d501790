/- What functions of the program compute, as plain Lean functions, each with its proof by a proved reader; plain laws about them (Lz1). -/
import Derived.Test.YtknlopaheagepaaGreatDoorEvTb
import Derived.Test.YtknlopaheagepaaGreatDoorLibAz
import Derived.Test.YtknlopaheagepaaGreatDoorChecked
import Derived.KernelRfl
set_option maxRecDepth 100000
set_option linter.unusedVariables false
namespace Ev
open Go Go.Proofs
noncomputable section
variable {gl : Nat → Option (List D)}
def tabs (gl : Nat → Option (List D)) : Tabs := ⟨[(80, [(5, []), (2, []), (4, []), (3, [1]), (1, [0, 1]), (0, [0, 1])]),
  (45, [(12, [7]), (11, [1, 2, 7, 26, 27, 28]), (10, [7]), (9, [1, 2, 7, 26, 27, 28]), (8, [1, 2, 7, 9, 26, 27, 28]), (7, [1, 2, 7, 26, 27, 28]), (6, [1, 2, 7, 26, 27, 28]), (5, [1, 2, 3, 7]), (4, [7]), (3, [1, 2, 3, 7]), (2, [1, 2, 3]), (1, [1, 2, 3]), (0, [0, 1, 2])]),
  (78, [(1, [1, 2, 3, 4, 5]), (0, [0, 1, 2, 3, 4])]),
  (70, [(1, [0]), (0, [0])]),
  (157, [(1, [0, 1, 2, 3]), (0, [0, 1, 2, 3])]),
  (127, [(9, []), (4, []), (6, [0]), (8, [0]), (7, [0]), (5, [0]), (3, [0]), (2, [0]), (1, [0]), (0, [0])]),
  (51, [(5, []), (4, []), (3, [1]), (2, []), (1, [0, 1]), (0, [0, 1])]),
  (69, [(1, [0]), (0, [0])]),
  (137, [(1, [0]), (0, [])]),
  (14, [(1, [0]), (0, [0])]),
  (41, [(10, [1]), (6, [1, 2, 3, 7]), (9, [1]), (8, [1, 2, 3, 7]), (7, [1, 2, 3, 7]), (5, [1, 2, 3, 7]), (4, [1, 2, 3]), (3, []), (2, [1, 2, 3]), (1, [1, 2, 3]), (0, [0, 1, 2])]),
  (23, [(8, []), (5, [2, 3, 5]), (7, []), (6, [2, 3, 5]), (4, [2, 3, 5]), (3, [2, 3]), (2, []), (1, [2, 3]), (0, [0, 1])]),
  (43, [(2, [1, 3]), (1, [1]), (0, [0])]),
  (49, [(18, []), (17, [3, 74, 75, 76]), (16, [9]), (15, [3, 9, 74, 75, 76]), (14, [3, 7, 8, 74, 75, 76]), (13, [3, 74, 75, 76]), (12, [3, 74, 75, 76]), (11, [2, 3]), (10, [2, 3, 63, 64, 65]), (9, [6]), (8, [2, 3, 6, 63, 64, 65]), (7, [2, 3, 63, 64, 65]), (6, [2, 3, 63, 64, 65]), (5, [2, 3]), (4, [2, 3]), (3, [2, 3]), (2, [2, 3]), (1, [2, 3]), (0, [0, 1])]),
  (138, [(22, [1, 4]), (4, [1, 4, 5]), (7, [0, 1, 4, 5]), (6, [0, 1, 4, 5, 6, 7]), (14, [0, 1, 4, 5]), (13, [0, 1, 4, 5, 6, 7]), (12, [0, 1, 4, 5, 6]), (11, [0, 1, 4, 5, 6, 7]), (10, [0, 1, 4, 5, 7]), (9, [0, 1, 4, 5, 6, 7]), (21, [0, 1, 4, 5]), (20, [0, 1, 4, 5, 6, 7]), (19, [0, 1, 4, 5, 6]), (18, [0, 1, 4, 5, 6, 7]), (17, [0, 1, 4, 5, 7]), (16, [0, 1, 4, 5, 6, 7]), (15, [0, 1, 4, 5, 6, 7]), (8, [0, 1, 4, 5, 6, 7]), (5, [0, 1, 4, 5, 6, 7]), (3, [0, 1, 4, 5, 6, 7]), (2, [0, 1, 4, 5]), (1, [0, 1, 4]), (0, [0, 1])]),
  (128, [(1, [0]), (0, [0])]),
  (125, [(7, []), (6, [0, 5, 6]), (5, []), (4, [0, 4, 5, 6]), (3, [0, 5, 6]), (2, [0, 5, 6]), (1, [0]), (0, [0])]),
  (50, [(17, []), (13, [2, 3, 5]), (16, [6]), (15, [2, 3, 5, 6]), (14, [2, 3, 5]), (12, [2, 3, 5]), (11, [2, 3]), (10, [2, 3]), (9, [2, 3]), (8, [2, 3]), (7, [2, 3]), (6, [2, 3]), (5, [2, 3]), (4, [2, 3]), (3, [2, 3]), (2, [2, 3]), (1, [2, 3]), (0, [0, 1])]),
  (126, [(7, [3]), (6, [0, 3, 4, 5]), (5, [0, 3, 4, 5]), (4, [0, 3, 4]), (3, [0, 3, 4]), (2, [0, 3]), (1, [0]), (0, [0])]),
  (107, [(10, []), (9, []), (8, [3]), (7, []), (6, [3, 5, 7]), (5, [3, 5, 7]), (4, [3, 7, 8]), (3, [3, 7]), (2, [0, 3]), (1, [0]), (0, [0])]),
  (108, [(9, []), (6, [3, 4]), (8, []), (7, [3, 4]), (5, [3, 4]), (4, [3]), (3, []), (2, [3]), (1, [0]), (0, [0])]),
  (67, [(1, [0]), (0, [0])]),
  (68, [(1, [0]), (0, [0])]),
  (44, [(23, []), (22, [1, 95, 96, 97]), (21, []), (20, [1, 4, 5, 95, 96, 97]), (19, [1, 95, 96, 97]), (18, [1, 95, 96, 97]), (17, [1]), (16, []), (15, [1]), (5, [1, 3]), (7, [1, 3]), (9, [1, 3]), (11, [1]), (3, []), (14, [1, 16]), (13, [1, 16]), (12, [1, 16]), (10, [1, 16]), (8, [1, 3, 16]), (6, [1, 3, 16]), (4, [1, 3, 16]), (2, [1, 3]), (1, [1]), (0, [0])]),
  (42, [(21, []), (18, [1, 3]), (20, []), (19, [1, 3]), (17, [1, 3]), (16, [1]), (4, [1]), (6, [1]), (8, [1]), (10, [1]), (15, []), (14, [1]), (2, []), (13, [1, 5]), (12, [1, 5]), (11, [1, 5]), (9, [1, 5]), (7, [1, 5]), (5, [1, 5]), (3, [1, 5]), (1, [1]), (0, [0])]),
  (15, [(3, []), (2, []), (1, [1]), (0, [0])]),
  (13, [(1, [1]), (0, [0])]),
  (21, [(8, []), (3, [2, 3]), (5, []), (7, []), (6, [6]), (4, [5, 6]), (2, [2, 3, 5, 6]), (1, [2, 3]), (0, [0, 1])]),
  (22, [(4, [5, 6]), (3, [2, 3]), (2, [2, 3, 5, 6]), (1, [2, 3]), (0, [0, 1])]),
  (4, [(1, [2, 3]), (0, [0, 1])]),
  (5, [(8, []), (7, []), (6, [7, 8, 9]), (5, []), (4, [3, 4, 7, 8, 9]), (3, [3, 4, 5]), (2, []), (1, [3, 4, 5]), (0, [0, 1, 2])]),
  (84, [(5, [0, 3]), (3, [0, 3]), (4, [0, 3]), (2, [0, 3]), (1, [0]), (0, [0])]),
  (85, [(3, [0]), (2, [0]), (1, [0]), (0, [0])]),
  (86, [(3, [0]), (2, [0]), (1, [0]), (0, [0])]),
  (84, [(5, [0, 3]), (3, [0, 3]), (4, [0, 3]), (2, [0, 3]), (1, [0]), (0, [0])]),
  (83, [(1, [0]), (0, [0])]),
  (82, [(4, [3]), (3, [3]), (2, [0, 3]), (1, [0]), (0, [0])]),
  (52, [(17, [0]), (16, [0, 56, 57, 58]), (15, [0, 6, 56, 57, 58]), (14, [0, 56, 57, 58]), (13, [0, 56, 57, 58]), (12, [0, 3]), (11, [0, 3]), (4, [0, 3]), (6, [0, 3]), (8, [0, 3]), (10, [0, 3]), (9, [0, 3, 14]), (7, [0, 3, 14]), (5, [0, 3, 14]), (3, [0, 3, 14]), (2, [0, 3]), (1, [0, 3]), (0, [0, 1])]),
  (53, [(16, [3]), (14, [1, 3, 4]), (15, [1, 3, 4]), (13, [1, 3, 4]), (12, [1, 3]), (11, [1, 3]), (4, [1, 3]), (6, [1, 3]), (8, [1, 3]), (10, [1, 3]), (9, [1, 3, 10]), (7, [1, 3, 10]), (5, [1, 3, 10]), (3, [1, 3, 10]), (2, [1, 3]), (1, [1]), (0, [0])]),
  (52, [(17, [0]), (16, [0, 56, 57, 58]), (15, [0, 6, 56, 57, 58]), (14, [0, 56, 57, 58]), (13, [0, 56, 57, 58]), (12, [0, 3]), (11, [0, 3]), (4, [0, 3]), (6, [0, 3]), (8, [0, 3]), (10, [0, 3]), (9, [0, 3, 14]), (7, [0, 3, 14]), (5, [0, 3, 14]), (3, [0, 3, 14]), (2, [0, 3]), (1, [0, 3]), (0, [0, 1])]),
  (25, [(3, [1]), (2, []), (1, [1]), (0, [0])]),
  (24, [(3, [1]), (2, []), (1, [1]), (0, [0])]),
  (6, [(14, [5, 9]), (13, [1, 5]), (11, [1, 3, 5, 8]), (12, [1, 3, 5, 8]), (10, [1, 3, 5, 8]), (9, [1, 3, 5]), (7, [1, 3, 5, 7]), (8, [1, 3, 5, 7]), (6, [1, 3, 5, 7]), (5, [1, 3, 5]), (4, []), (3, [1, 3, 4, 5, 6]), (2, [1, 3, 4]), (1, [1]), (0, [0])])],
  [(80, [(0, [4])]),
  (45, [(0, [6, 7]), (1, [1, 2, 6, 7, 26, 27, 28])]),
  (78, []),
  (70, []),
  (157, []),
  (127, [(0, [2])]),
  (51, []),
  (69, []),
  (137, []),
  (14, []),
  (41, [(0, [1, 6]), (1, [1, 2, 3, 6, 7])]),
  (23, [(0, [4]), (1, [2, 3, 4, 5])]),
  (43, []),
  (49, [(2, [4]), (3, [3, 4, 74, 75, 76]), (0, [2, 3, 4]), (1, [2, 3, 4, 63, 64, 65])]),
  (138, [(0, [1, 4])]),
  (128, []),
  (125, [(0, [2]), (1, [0, 2, 5, 6])]),
  (50, [(0, [4]), (1, [2, 3, 4, 5])]),
  (126, [(0, [3]), (1, [0, 3, 4])]),
  (107, [(0, [2, 3]), (1, [2, 3, 7])]),
  (108, [(0, [2]), (1, [2, 3, 4])]),
  (67, []),
  (68, []),
  (44, [(1, [2]), (2, [1, 2, 95, 96, 97]), (0, [1, 2])]),
  (42, [(1, [2]), (2, [1, 2, 3]), (0, [1, 2])]),
  (15, []),
  (13, []),
  (21, [(0, [4])]),
  (22, []),
  (4, []),
  (5, []),
  (84, [(0, [0, 3]), (1, [0, 3])]),
  (85, []),
  (86, []),
  (84, [(0, [0, 3]), (1, [0, 3])]),
  (83, []),
  (82, []),
  (52, [(1, [0]), (2, [0, 56, 57, 58]), (0, [0, 3, 4])]),
  (53, [(1, [3]), (2, [1, 3, 4]), (0, [1, 2, 3])]),
  (52, [(1, [0]), (2, [0, 56, 57, 58]), (0, [0, 3, 4])]),
  (25, []),
  (24, []),
  (6, [(2, [1, 5]), (0, [1, 3, 5]), (1, [1, 3, 5, 7])])],
  [],
  [(45, [(3, [5]), (9, [5])]), (78, [(1, [2])]), (70, [(1, [3])]), (127, [(1, [3]), (2, [3]), (5, [3]), (6, [3]), (7, [3])]), (69, [(1, [3])]), (41, [(2, [3])]), (23, [(1, [6, 13, 20, 27])]), (43, [(2, [4])]), (138, [(5, [3]), (8, [3]), (15, [3])]), (128, [(1, [11])]), (125, [(4, [5])]), (107, [(8, [3])]), (108, [(2, [4])]), (67, [(1, [4, 8])]), (68, [(1, [3, 7])]), (44, [(1, [4]), (5, [2]), (7, [2]), (11, [4, 9]), (15, [4, 9])]), (21, [(2, [2])]), (22, [(2, [2]), (4, [2, 7])]), (5, [(4, [3]), (6, [3, 7])])],
  [45, 52], [], gl, oddT, [(6, 10)]⟩
theorem oddOk : OddSound Tryz.prog gl (tabs gl).odd := oddT_sound
noncomputable def tS0 : Tab := [(20, e20), (134, e134), (136, e136), (118, e118), (81, e81), (130, e130)]
theorem okS0 (hl : LibFits gl) : TabOk Tryz.prog gl tS0 := libAll hl
theorem mixed : Tryz.prog.follows .mixedOrders = true := Tryz.checked.mixed
def d80 (ds : List D) : Option (Bool × Bool) := match ds with
  | [.val (.bool a0), .val (.bool a1)] => some (a0, a1)
  | _ => none
def r80 (v : AV) : Option (Int) := match toPR v with
  | some (.one (.val (.int .i64 a2))) => some a2
  | _ => none
def n80 : Bool × Bool → Option (Int) := fun (a0, a1) => (bif a0 then (some (-1)) else (bif a1 then (some 1) else (some 0)))
def e80 : PureE := mkE d80 n80 (fun a2 => .one (.val (.int .i64 a2)))
def g80 {σ : Type} : Nat → Option (SegE σ)
  | _ => none
theorem N80 : ∀ a, n80 a = bodyK (cfgOf Tryz.prog (tabs gl) tS0) (toldOf tS0) noY (inlN (cfgOf Tryz.prog (tabs gl) tS0) (toldOf tS0) noY) g80 80 Tryz.f80 (((fun (a0, a1) => [.val (.bool a0), .val (.bool a1)] : (Bool × Bool) → List D) a).map .d) [] [] () (fun v _ _ _ => r80 v) := by
  intro a
  obtain ⟨a0, a1⟩ := a
  kernel_rfl
noncomputable def t80 : Tab := (80, e80) :: tS0
theorem ok80 (hl : LibFits gl) : TabOk Tryz.prog gl t80 :=
  told_fn (okS0 hl) mixed oddOk Tryz.func80 (by kernel_rfl) (by kernel_rfl) (by kernel_rfl) (segs_no (by kernel_rfl))
    (args := fun (a0, a1) => [.val (.bool a0), .val (.bool a1)]) (res := r80)
    (fun ds a h => by
      unfold d80 at h
      split at h
      · cases h; rfl
      · cases h)
    (fun v r h => by
      unfold r80 at h
      split at h
      · rename_i hv; cases h; exact hv
      · cases h)
    N80
abbrev A45_0 := Int × Int × List D × Int × Int × Int × Int × Int × Int × ByteArray × List D
inductive O45_0 where
  | x0 (o32 : Int) (o33 : Int) (o34 : Int) (o35 : Int) (o36 : Int) (o37 : Int) (o38 : ByteArray) (o39 : List D)
  | x1 (o40 : Int) (o41 : Int) (o42 : Int) (o43 : Int) (o44 : Int) (o45 : ByteArray) (o46 : List D)
def l45_0 : LoopS A45_0 O45_0 where
  n := 50
  ks := [1, 2, 7, 26, 27, 28]
  kso := [6, 7]
  m := 2
  mt := 0
  decV := fun vs bs ts => match vs, bs, ts with
    | [.d (.val (.int .i64 v9)), .ptr 0 0, .d (.val (.int .i64 v10)), .d (.slice v11), .d (.val (.int .i64 v12)), .d (.val (.int .i64 v13))], [.cells (some 3) [.d (.val (.int .i64 v14))], .cells none [.d (.val (.int .i64 v15)), .d (.val (.int .i64 v16)), .d (.val (.int .i64 v17)), .d (.val (.string v18)), .d (.slice v19)]], [] => some (v9, v10, v11, v12, v13, v14, v15, v16, v17, v18, v19)
    | _, _, _ => none
  encV := fun (v9, v10, v11, v12, v13, v14, v15, v16, v17, v18, v19) => [.d (.val (.int .i64 v9)), .ptr 0 0, .d (.val (.int .i64 v10)), .d (.slice v11), .d (.val (.int .i64 v12)), .d (.val (.int .i64 v13))]
  encB := fun (v9, v10, v11, v12, v13, v14, v15, v16, v17, v18, v19) => [.cells (some 3) [.d (.val (.int .i64 v14))], .cells none [.d (.val (.int .i64 v15)), .d (.val (.int .i64 v16)), .d (.val (.int .i64 v17)), .d (.val (.string v18)), .d (.slice v19)]]
  tk := fun _ => []
  decO := fun ex vs bs ts => match ex, vs, bs, ts with
    | .ret, [.d (.val (.int .i64 o32)), .d (.val (.int .i64 o33))], [.cells (some 3) [.d (.val (.int .i64 o34))], .cells none [.d (.val (.int .i64 o35)), .d (.val (.int .i64 o36)), .d (.val (.int .i64 o37)), .d (.val (.string o38)), .d (.slice o39)]], [] => some (.x0 o32 o33 o34 o35 o36 o37 o38 o39)
    | .normal, [.undef, .d (.val (.int .i64 o40))], [.cells (some 3) [.d (.val (.int .i64 o41))], .cells none [.d (.val (.int .i64 o42)), .d (.val (.int .i64 o43)), .d (.val (.int .i64 o44)), .d (.val (.string o45)), .d (.slice o46)]], [] => some (.x1 o40 o41 o42 o43 o44 o45 o46)
    | _, _, _, _ => none
  exO := fun x => match x with
    | .x0 o32 o33 o34 o35 o36 o37 o38 o39 => .ret
    | .x1 o40 o41 o42 o43 o44 o45 o46 => .normal
  outV := fun x => match x with
    | .x0 o32 o33 o34 o35 o36 o37 o38 o39 => [.d (.val (.int .i64 o32)), .d (.val (.int .i64 o33))]
    | .x1 o40 o41 o42 o43 o44 o45 o46 => [.undef, .d (.val (.int .i64 o40))]
  outB := fun x => match x with
    | .x0 o32 o33 o34 o35 o36 o37 o38 o39 => [.cells (some 3) [.d (.val (.int .i64 o34))], .cells none [.d (.val (.int .i64 o35)), .d (.val (.int .i64 o36)), .d (.val (.int .i64 o37)), .d (.val (.string o38)), .d (.slice o39)]]
    | .x1 o40 o41 o42 o43 o44 o45 o46 => [.cells (some 3) [.d (.val (.int .i64 o41))], .cells none [.d (.val (.int .i64 o42)), .d (.val (.int .i64 o43)), .d (.val (.int .i64 o44)), .d (.val (.string o45)), .d (.slice o46)]]
  tkO := fun x => match x with
    | .x0 o32 o33 o34 o35 o36 o37 o38 o39 => []
    | .x1 o40 o41 o42 o43 o44 o45 o46 => []
  elim := fun x k => match x with
    | .x0 o32 o33 o34 o35 o36 o37 o38 o39 => k .ret [.d (.val (.int .i64 o32)), .d (.val (.int .i64 o33))] [.cells (some 3) [.d (.val (.int .i64 o34))], .cells none [.d (.val (.int .i64 o35)), .d (.val (.int .i64 o36)), .d (.val (.int .i64 o37)), .d (.val (.string o38)), .d (.slice o39)]] []
    | .x1 o40 o41 o42 o43 o44 o45 o46 => k .normal [.undef, .d (.val (.int .i64 o40))] [.cells (some 3) [.d (.val (.int .i64 o41))], .cells none [.d (.val (.int .i64 o42)), .d (.val (.int .i64 o43)), .d (.val (.int .i64 o44)), .d (.val (.string o45)), .d (.slice o46)]] []
theorem k45_0 : l45_0.Ok where
  ok1 := by kernel_rfl
  ok2 := by kernel_rfl
  dec := by
    intro vs bs ts a h
    simp only [l45_0] at h ⊢
    split at h
    · cases h; exact ⟨rfl, rfl⟩
    · cases h
  out := by
    intro ex vs bs ts o h
    simp only [l45_0] at h ⊢
    split at h
    · cases h; exact ⟨rfl, rfl, rfl⟩
    · cases h; exact ⟨rfl, rfl, rfl⟩
    · cases h
  len := fun _ => ⟨rfl, rfl⟩
  elim := fun β o k => by cases o <;> rfl
def L45_0 {σ : Type} (F : Int × Int × Int × Int × ByteArray × List D × Int → Option (Int × Int)) : Nat → A45_0 → σ → Option (O45_0 × σ)
  | 0, _, _ => none
  | n+1, (v9, v10, v11, v12, v13, v14, v15, v16, v17, v18, v19), s => (bif (decide (v13 < v12)) then ((lidx v11 v13).bind fun d20 => ask (d20.cells.length = 5) ((cellAt 0 d20).bind fun x21 => (asInt .i64 x21).bind fun x22 => ((cellAt 1 d20).bind fun x23 => (asInt .i64 x23).bind fun x24 => ((cellAt 2 d20).bind fun x25 => (asInt .i64 x25).bind fun x26 => ((cellAt 3 d20).bind fun x27 => (asStr x27).bind fun x28 => ((cellAt 4 d20).bind fun x29 => (asRow x29).bind fun x30 => ((F (v14, x22, x24, x26, x28, x30, (w64 (v9 + 1)))).bind fun y31 => (bif (bif (decide (y31.2 > 4096)) then true else (decide ((if y31.1 > v10 then y31.1 else v10) > 16))) then (some (O45_0.x0 (if y31.1 > v10 then y31.1 else v10) (if y31.1 > v10 then y31.1 else v10) y31.2 v15 v16 v17 v18 v19, s)) else (L45_0 F n (v9, (if y31.1 > v10 then y31.1 else v10), v11, v12, (w64 (v13 + 1)), y31.2, v15, v16, v17, v18, v19) s))))))))) else (some (O45_0.x1 v10 v14 v15 v16 v17 v18 v19, s)))
def dM45 (av : List AV) (bs : List Box) (ts : List Nat) : Option (Int × Int × Int × Int × ByteArray × List D × Int) := match av, bs, ts with
  | [.d (.agg [.val (.int .i64 a0), .val (.int .i64 a1), .val (.int .i64 a2), .val (.string a3), .slice a4]), .d (.val (.int .i64 a5)), .ptr 0 0], [.cells (some 3) [.d (.val (.int .i64 a6))]], [] => some (a6, a0, a1, a2, a3, a4, a5)
  | _, _, _ => none
def aM45 : (Int × Int × Int × Int × ByteArray × List D × Int) → List AV := fun (a6, a0, a1, a2, a3, a4, a5) => [.d (.agg [.val (.int .i64 a0), .val (.int .i64 a1), .val (.int .i64 a2), .val (.string a3), .slice a4]), .d (.val (.int .i64 a5)), .ptr 0 0]
def bM45 : (Int × Int × Int × Int × ByteArray × List D × Int) → List Box := fun (a6, a0, a1, a2, a3, a4, a5) => [.cells (some 3) [.d (.val (.int .i64 a6))]]
def tM45 : (Int × Int × Int × Int × ByteArray × List D × Int) → List Nat := fun (a6, a0, a1, a2, a3, a4, a5) => []
def vM45 : (Int × Int) → AV := fun (a7, p8) => .d (.val (.int .i64 a7))
def cM45 : (Int × Int) → List Box := fun (a7, p8) => [.cells (some 3) [.d (.val (.int .i64 p8))]]
def kM45 : (Int × Int) → List Nat := fun (a7, p8) => []
def rM45 (v : AV) (bs : List Box) (ts : List Nat) : Option (Int × Int) := match v, bs, ts with
  | .d (.val (.int .i64 a7)), [.cells (some 3) [.d (.val (.int .i64 p8))]], [] => some (a7, p8)
  | _, _, _ => none
def n45 : Nat → Int × Int × Int × Int × ByteArray × List D × Int → Option (Int × Int)
  | 0, _ => none
  | k + 1, (a6, a0, a1, a2, a3, a4, a5) => (bif (bif (decide ((w64 (a6 + 1)) > 4096)) then true else (decide (a5 > 16))) then (some (a5, (w64 (a6 + 1)))) else ((L45_0 (n45 k) 1000000000000 (a5, a5, a4, ((a4.length : Nat) : Int), 0, (w64 (a6 + 1)), a0, a1, a2, a3, a4) ()).bind fun p47 => match p47.1 with | .x0 z48 z49 z50 z51 z52 z53 z54 z55 => (some (z48, z50)) | .x1 z56 z57 z58 z59 z60 z61 z62 => (some (z56, z57))))
def g45 (k : Nat) {σ : Type} : Nat → Option (SegE σ)
  | 0 => some (l45_0.seg σ (L45_0 (n45 k) 1000000000000))
  | _ => none
noncomputable def tabsR45 (gl : Nat → Option (List D)) (k : Nat) : Tabs := oddAt (tabs gl) 45 (methE 45 dM45 (n45 k) (fun _ => vM45) (fun _ => cM45) (fun _ => kM45))
theorem E45_0 {σ : Type} (k : Nat) (Y : Yd σ) : ∀ n a (s : σ), L45_0 (n45 k) (n + 1) a s = evK (cfgOf Tryz.prog (tabsR45 gl k) tS0) (toldOf tS0) Y (inlN (cfgOf Tryz.prog (tabsR45 gl k) tS0) (toldOf tS0) Y) (g45 k) 45 (loopAt Tryz.f45 0) ((l45_0.toT σ).enc a s) (fun ex st' => l45_0.next (cfgOf Tryz.prog (tabsR45 gl k) tS0) 45 0 (L45_0 (n45 k) n) ex st') := by
  intro n ⟨v9, v10, v11, v12, v13, v14, v15, v16, v17, v18, v19⟩ s
  kernel_rfl
theorem Q45_0 {σ : Type} (hl : LibFits gl) (k : Nat) (Y : Yd σ) (rnd : Bool) : SegOk (cfgOf Tryz.prog (tabsR45 gl k) tS0) (evFn (cfgOf Tryz.prog (tabsR45 gl k) tS0) 9) 45 rnd Y (l45_0.seg σ (L45_0 (n45 k) 1000000000000)) (.block 0 (.loop (loopAt Tryz.f45 0))) :=
  told_loop (okS0 hl) k45_0 (by kernel_rfl) (by kernel_rfl) (fun _ _ => rfl) (segs_no (by kernel_rfl)) (E45_0 k Y) (hr := by kernel_rfl)
theorem N45 : ∀ k a, n45 (k + 1) a = bodyK (cfgOf Tryz.prog (tabsR45 gl k) tS0) (toldOf tS0) noY (inlN (cfgOf Tryz.prog (tabsR45 gl k) tS0) (toldOf tS0) noY) (g45 k) 45 Tryz.f45 (aM45 a) (bM45 a) (tM45 a) () (fun v b tk _ => rM45 v b tk) := by
  intro k a
  obtain ⟨a6, a0, a1, a2, a3, a4, a5⟩ := a
  kernel_rfl
theorem om45 (hl : LibFits gl) (k : Nat) : OddSound Tryz.prog gl (fun g => bif Nat.beq g 45 then some (methE 45 dM45 (n45 k) (fun _ => vM45) (fun _ => cM45) (fun _ => kM45)) else (tabs gl).odd g) :=
  told_methRec (t := tabs gl) (okS0 hl) mixed oddOk Tryz.func45 (by kernel_rfl) (by kernel_rfl) (nat := n45) (argsOf := aM45) (boxOf := bM45) (tokOf := tM45) (res := fun _ => rM45) (seg := fun k => (g45 k)) (by kernel_rfl) (fun k => (fun p hp e he => by
    have hq : segsOf (σ := Unit) (g45 k (σ := Unit)) (bodyOf Tryz.f45) = [(0, .loop (loopAt Tryz.f45 0))] := by kernel_rfl
    rw [hq] at hp
    simp only [List.mem_cons, List.not_mem_nil, or_false] at hp
    subst hp
    cases he
    exact Q45_0 hl k _ _))
    (fun av bs ts a h => by
      unfold dM45 at h
      split at h
      · cases h; exact ⟨rfl, rfl, rfl⟩
      · cases h)
    (fun _ v b tk o h => by
      unfold rM45 at h
      split at h
      · cases h; exact ⟨rfl, rfl, rfl⟩
      · cases h)
    (fun _ => rfl) N45 k
def d78 (ds : List D) : Option (Int × Int × Int × ByteArray × List D × Bool × Bool × Bool × Bool) := match ds with
  | [.agg [.val (.int .i64 a0), .val (.int .i64 a1), .val (.int .i64 a2), .val (.string a3), .slice a4], .val (.bool a5), .val (.bool a6), .val (.bool a7), .val (.bool a8)] => some (a0, a1, a2, a3, a4, a5, a6, a7, a8)
  | _ => none
def r78 (v : AV) : Option (Bool) := match toPR v with
  | some (.one (.val (.bool a9))) => some a9
  | _ => none
def n78 : Int × Int × Int × ByteArray × List D × Bool × Bool × Bool × Bool → Option (Bool) := fun (a0, a1, a2, a3, a4, a5, a6, a7, a8) => (bif (bif a5 then true else (a1 == 0)) then (bif a6 then (bif a7 then (bif a8 then (some true) else (some (((a4.length : Nat) : Int) == 0))) else (bif (sEq a3 (⟨#[]⟩ : ByteArray)) then (bif a8 then (some true) else (some (((a4.length : Nat) : Int) == 0))) else (some false))) else (bif (a2 == 0) then (bif a7 then (bif a8 then (some true) else (some (((a4.length : Nat) : Int) == 0))) else (bif (sEq a3 (⟨#[]⟩ : ByteArray)) then (bif a8 then (some true) else (some (((a4.length : Nat) : Int) == 0))) else (some false))) else (some false))) else (some false))
def e78 : PureE := mkE d78 n78 (fun a9 => .one (.val (.bool a9)))
def g78 {σ : Type} : Nat → Option (SegE σ)
  | _ => none
theorem N78 : ∀ a, n78 a = bodyK (cfgOf Tryz.prog (tabs gl) tS0) (toldOf tS0) noY (inlN (cfgOf Tryz.prog (tabs gl) tS0) (toldOf tS0) noY) g78 78 Tryz.f78 (((fun (a0, a1, a2, a3, a4, a5, a6, a7, a8) => [.agg [.val (.int .i64 a0), .val (.int .i64 a1), .val (.int .i64 a2), .val (.string a3), .slice a4], .val (.bool a5), .val (.bool a6), .val (.bool a7), .val (.bool a8)] : (Int × Int × Int × ByteArray × List D × Bool × Bool × Bool × Bool) → List D) a).map .d) [] [] () (fun v _ _ _ => r78 v) := by
  intro a
  obtain ⟨a0, a1, a2, a3, a4, a5, a6, a7, a8⟩ := a
  kernel_rfl
noncomputable def t78 : Tab := (78, e78) :: tS0
theorem ok78 (hl : LibFits gl) : TabOk Tryz.prog gl t78 :=
  told_fn (okS0 hl) mixed oddOk Tryz.func78 (by kernel_rfl) (by kernel_rfl) (by kernel_rfl) (segs_no (by kernel_rfl))
    (args := fun (a0, a1, a2, a3, a4, a5, a6, a7, a8) => [.agg [.val (.int .i64 a0), .val (.int .i64 a1), .val (.int .i64 a2), .val (.string a3), .slice a4], .val (.bool a5), .val (.bool a6), .val (.bool a7), .val (.bool a8)]) (res := r78)
    (fun ds a h => by
      unfold d78 at h
      split at h
      · cases h; rfl
      · cases h)
    (fun v r h => by
      unfold r78 at h
      split at h
      · rename_i hv; cases h; exact hv
      · cases h)
    N78
def d70 (ds : List D) : Option (Int) := match ds with
  | [.val (.int .i64 a0)] => some a0
  | _ => none
def r70 (v : AV) : Option (Bool) := match toPR v with
  | some (.one (.val (.bool a1))) => some a1
  | _ => none
def n70 : Int → Option (Bool) := fun a0 => (some (bif (decide (a0 ≥ (-1048576))) then (decide (a0 ≤ 1048576)) else false))
def e70 : PureE := mkE d70 n70 (fun a1 => .one (.val (.bool a1)))
def g70 {σ : Type} : Nat → Option (SegE σ)
  | _ => none
theorem N70 : ∀ a, n70 a = bodyK (cfgOf Tryz.prog (tabs gl) tS0) (toldOf tS0) noY (inlN (cfgOf Tryz.prog (tabs gl) tS0) (toldOf tS0) noY) g70 70 Tryz.f70 (((fun a0 => [.val (.int .i64 a0)] : (Int) → List D) a).map .d) [] [] () (fun v _ _ _ => r70 v) := by
  intro a0
  kernel_rfl
noncomputable def t70 : Tab := (70, e70) :: tS0
theorem ok70 (hl : LibFits gl) : TabOk Tryz.prog gl t70 :=
  told_fn (okS0 hl) mixed oddOk Tryz.func70 (by kernel_rfl) (by kernel_rfl) (by kernel_rfl) (segs_no (by kernel_rfl))
    (args := fun a0 => [.val (.int .i64 a0)]) (res := r70)
    (fun ds a h => by
      unfold d70 at h
      split at h
      · cases h; rfl
      · cases h)
    (fun v r h => by
      unfold r70 at h
      split at h
      · rename_i hv; cases h; exact hv
      · cases h)
    N70
def d157 (ds : List D) : Option (ByteArray × Int × Int × Int) := match ds with
  | [.val (.string a0), .val (.int .i64 a1), .val (.int .u8 a2), .val (.int .u8 a3)] => some (a0, a1, a2, a3)
  | _ => none
def r157 (v : AV) : Option (Bool) := match toPR v with
  | some (.one (.val (.bool a4))) => some a4
  | _ => none
def n157 : ByteArray × Int × Int × Int → Option (Bool) := fun (a0, a1, a2, a3) => (bif (decide (a1 < (a0.size : Int))) then ((sidx a0 a1).bind fun c5 => (bif (decide ((c5.toNat : Int) ≥ a2)) then ((sidx a0 a1).bind fun c6 => (some (decide ((c6.toNat : Int) ≤ a3)))) else (some false))) else (some false))
def e157 : PureE := mkE d157 n157 (fun a4 => .one (.val (.bool a4)))
def g157 {σ : Type} : Nat → Option (SegE σ)
  | _ => none
theorem N157 : ∀ a, n157 a = bodyK (cfgOf Tryz.prog (tabs gl) tS0) (toldOf tS0) noY (inlN (cfgOf Tryz.prog (tabs gl) tS0) (toldOf tS0) noY) g157 157 Tryz.f157 (((fun (a0, a1, a2, a3) => [.val (.string a0), .val (.int .i64 a1), .val (.int .u8 a2), .val (.int .u8 a3)] : (ByteArray × Int × Int × Int) → List D) a).map .d) [] [] () (fun v _ _ _ => r157 v) := by
  intro a
  obtain ⟨a0, a1, a2, a3⟩ := a
  kernel_rfl
noncomputable def t157 : Tab := (157, e157) :: tS0
theorem ok157 (hl : LibFits gl) : TabOk Tryz.prog gl t157 :=
  told_fn (okS0 hl) mixed oddOk Tryz.func157 (by kernel_rfl) (by kernel_rfl) (by kernel_rfl) (segs_no (by kernel_rfl))
    (args := fun (a0, a1, a2, a3) => [.val (.string a0), .val (.int .i64 a1), .val (.int .u8 a2), .val (.int .u8 a3)]) (res := r157)
    (fun ds a h => by
      unfold d157 at h
      split at h
      · cases h; rfl
      · cases h)
    (fun v r h => by
      unfold r157 at h
      split at h
      · rename_i hv; cases h; exact hv
      · cases h)
    N157
def d127 (ds : List D) : Option (Int) := match ds with
  | [.val (.int .i64 a0)] => some a0
  | _ => none
def r127 (v : AV) : Option (Bool) := match toPR v with
  | some (.one (.val (.bool a1))) => some a1
  | _ => none
def n127 : Int → Option (Bool) := fun a0 => (bif (bif (decide (a0 ≥ 97)) then (decide (a0 ≤ 122)) else false) then (some true) else (bif (bif (decide (a0 ≥ 65)) then (decide (a0 ≤ 90)) else false) then (some true) else (bif (a0 == 95) then (some true) else (bif (bif (decide (a0 ≥ 192)) then (decide (a0 ≤ 591)) else false) then (some (bif (a0 != 215) then (a0 != 247) else false)) else (bif (bif (decide (a0 ≥ 913)) then (decide (a0 ≤ 969)) else false) then (some (a0 != 930)) else (some false))))))
def e127 : PureE := mkE d127 n127 (fun a1 => .one (.val (.bool a1)))
def g127 {σ : Type} : Nat → Option (SegE σ)
  | _ => none
theorem N127 : ∀ a, n127 a = bodyK (cfgOf Tryz.prog (tabs gl) tS0) (toldOf tS0) noY (inlN (cfgOf Tryz.prog (tabs gl) tS0) (toldOf tS0) noY) g127 127 Tryz.f127 (((fun a0 => [.val (.int .i64 a0)] : (Int) → List D) a).map .d) [] [] () (fun v _ _ _ => r127 v) := by
  intro a0
  kernel_rfl
noncomputable def t127 : Tab := (127, e127) :: tS0
theorem ok127 (hl : LibFits gl) : TabOk Tryz.prog gl t127 :=
  told_fn (okS0 hl) mixed oddOk Tryz.func127 (by kernel_rfl) (by kernel_rfl) (by kernel_rfl) (segs_no (by kernel_rfl))
    (args := fun a0 => [.val (.int .i64 a0)]) (res := r127)
    (fun ds a h => by
      unfold d127 at h
      split at h
      · cases h; rfl
      · cases h)
    (fun v r h => by
      unfold r127 at h
      split at h
      · rename_i hv; cases h; exact hv
      · cases h)
    N127
def d51 (ds : List D) : Option (Bool × Bool) := match ds with
  | [.val (.bool a0), .val (.bool a1)] => some (a0, a1)
  | _ => none
def r51 (v : AV) : Option (Int) := match toPR v with
  | some (.one (.val (.int .i64 a2))) => some a2
  | _ => none
def n51 : Bool × Bool → Option (Int) := fun (a0, a1) => (bif a0 then (some (-1)) else (bif a1 then (some 1) else (some 0)))
def e51 : PureE := mkE d51 n51 (fun a2 => .one (.val (.int .i64 a2)))
def g51 {σ : Type} : Nat → Option (SegE σ)
  | _ => none
theorem N51 : ∀ a, n51 a = bodyK (cfgOf Tryz.prog (tabs gl) tS0) (toldOf tS0) noY (inlN (cfgOf Tryz.prog (tabs gl) tS0) (toldOf tS0) noY) g51 51 Tryz.f51 (((fun (a0, a1) => [.val (.bool a0), .val (.bool a1)] : (Bool × Bool) → List D) a).map .d) [] [] () (fun v _ _ _ => r51 v) := by
  intro a
  obtain ⟨a0, a1⟩ := a
  kernel_rfl
noncomputable def t51 : Tab := (51, e51) :: tS0
theorem ok51 (hl : LibFits gl) : TabOk Tryz.prog gl t51 :=
  told_fn (okS0 hl) mixed oddOk Tryz.func51 (by kernel_rfl) (by kernel_rfl) (by kernel_rfl) (segs_no (by kernel_rfl))
    (args := fun (a0, a1) => [.val (.bool a0), .val (.bool a1)]) (res := r51)
    (fun ds a h => by
      unfold d51 at h
      split at h
      · cases h; rfl
      · cases h)
    (fun v r h => by
      unfold r51 at h
      split at h
      · rename_i hv; cases h; exact hv
      · cases h)
    N51
def d69 (ds : List D) : Option (Int) := match ds with
  | [.val (.int .i64 a0)] => some a0
  | _ => none
def r69 (v : AV) : Option (Bool) := match toPR v with
  | some (.one (.val (.bool a1))) => some a1
  | _ => none
def n69 : Int → Option (Bool) := fun a0 => (some (bif (decide (a0 ≥ (-1048576))) then (decide (a0 ≤ 1048576)) else false))
def e69 : PureE := mkE d69 n69 (fun a1 => .one (.val (.bool a1)))
def g69 {σ : Type} : Nat → Option (SegE σ)
  | _ => none
theorem N69 : ∀ a, n69 a = bodyK (cfgOf Tryz.prog (tabs gl) tS0) (toldOf tS0) noY (inlN (cfgOf Tryz.prog (tabs gl) tS0) (toldOf tS0) noY) g69 69 Tryz.f69 (((fun a0 => [.val (.int .i64 a0)] : (Int) → List D) a).map .d) [] [] () (fun v _ _ _ => r69 v) := by
  intro a0
  kernel_rfl
noncomputable def t69 : Tab := (69, e69) :: tS0
theorem ok69 (hl : LibFits gl) : TabOk Tryz.prog gl t69 :=
  told_fn (okS0 hl) mixed oddOk Tryz.func69 (by kernel_rfl) (by kernel_rfl) (by kernel_rfl) (segs_no (by kernel_rfl))
    (args := fun a0 => [.val (.int .i64 a0)]) (res := r69)
    (fun ds a h => by
      unfold d69 at h
      split at h
      · cases h; rfl
      · cases h)
    (fun v r h => by
      unfold r69 at h
      split at h
      · rename_i hv; cases h; exact hv
      · cases h)
    N69
def d137 (ds : List D) : Option (Unit) := match ds with
  | [] => some ()
  | _ => none
def r137 (v : AV) : Option (Int × Int × Int × Int × Int × Int × Int × Int × Int × Int × Int × Int × Int × Int × Int × Int) := match toPR v with
  | some (.one (.agg [.val (.int .i32 a0), .val (.int .i32 a1), .val (.int .i32 a2), .val (.int .i32 a3), .val (.int .i32 a4), .val (.int .i32 a5), .val (.int .i32 a6), .val (.int .i32 a7), .val (.int .i32 a8), .val (.int .i32 a9), .val (.int .i32 a10), .val (.int .i32 a11), .val (.int .i32 a12), .val (.int .i32 a13), .val (.int .i32 a14), .val (.int .i32 a15)])) => some (a0, a1, a2, a3, a4, a5, a6, a7, a8, a9, a10, a11, a12, a13, a14, a15)
  | _ => none
def n137 : Unit → Option (Int × Int × Int × Int × Int × Int × Int × Int × Int × Int × Int × Int × Int × Int × Int × Int) := fun () => (some (97, 122, 65, 90, 95, 95, 192, 214, 216, 246, 248, 591, 913, 929, 931, 969))
def e137 : PureE := mkE d137 n137 (fun (a0, a1, a2, a3, a4, a5, a6, a7, a8, a9, a10, a11, a12, a13, a14, a15) => .one (.agg [.val (.int .i32 a0), .val (.int .i32 a1), .val (.int .i32 a2), .val (.int .i32 a3), .val (.int .i32 a4), .val (.int .i32 a5), .val (.int .i32 a6), .val (.int .i32 a7), .val (.int .i32 a8), .val (.int .i32 a9), .val (.int .i32 a10), .val (.int .i32 a11), .val (.int .i32 a12), .val (.int .i32 a13), .val (.int .i32 a14), .val (.int .i32 a15)]))
def g137 {σ : Type} : Nat → Option (SegE σ)
  | _ => none
theorem N137 : ∀ a, n137 a = bodyK (cfgOf Tryz.prog (tabs gl) tS0) (toldOf tS0) noY (inlN (cfgOf Tryz.prog (tabs gl) tS0) (toldOf tS0) noY) g137 137 Tryz.f137 (((fun () => [] : (Unit) → List D) a).map .d) [] [] () (fun v _ _ _ => r137 v) := by
  intro a
  kernel_rfl
noncomputable def t137 : Tab := (137, e137) :: tS0
theorem ok137 (hl : LibFits gl) : TabOk Tryz.prog gl t137 :=
  told_fn (okS0 hl) mixed oddOk Tryz.func137 (by kernel_rfl) (by kernel_rfl) (by kernel_rfl) (segs_no (by kernel_rfl))
    (args := fun () => []) (res := r137)
    (fun ds a h => by
      unfold d137 at h
      split at h
      · cases h; rfl
      · cases h)
    (fun v r h => by
      unfold r137 at h
      split at h
      · rename_i hv; cases h; exact hv
      · cases h)
    N137
def d14 (ds : List D) : Option (Int) := match ds with
  | [.val (.int .i64 a0)] => some a0
  | _ => none
def r14 (v : AV) : Option (Int) := match toPR v with
  | some (.one (.val (.int .i64 a1))) => some a1
  | _ => none
def n14 : Int → Option (Int) := fun a0 => (some a0)
def e14 : PureE := mkE d14 n14 (fun a1 => .one (.val (.int .i64 a1)))
def g14 {σ : Type} : Nat → Option (SegE σ)
  | _ => none
theorem N14 : ∀ a, n14 a = bodyK (cfgOf Tryz.prog (tabs gl) tS0) (toldOf tS0) noY (inlN (cfgOf Tryz.prog (tabs gl) tS0) (toldOf tS0) noY) g14 14 Tryz.f14 (((fun a0 => [.val (.int .i64 a0)] : (Int) → List D) a).map .d) [] [] () (fun v _ _ _ => r14 v) := by
  intro a0
  kernel_rfl
noncomputable def t14 : Tab := (14, e14) :: tS0
theorem ok14 (hl : LibFits gl) : TabOk Tryz.prog gl t14 :=
  told_fn (okS0 hl) mixed oddOk Tryz.func14 (by kernel_rfl) (by kernel_rfl) (by kernel_rfl) (segs_no (by kernel_rfl))
    (args := fun a0 => [.val (.int .i64 a0)]) (res := r14)
    (fun ds a h => by
      unfold d14 at h
      split at h
      · cases h; rfl
      · cases h)
    (fun v r h => by
      unfold r14 at h
      split at h
      · rename_i hv; cases h; exact hv
      · cases h)
    N14
abbrev A41_0 := Int × Int × Int × Int × Int × Int × ByteArray × List D
inductive O41_0 where
  | x0 (o28 : Int) (o29 : Int) (o30 : Int) (o31 : Int) (o32 : Int) (o33 : ByteArray) (o34 : List D)
  | x1 (o35 : Int) (o36 : Int) (o37 : Int) (o38 : Int) (o39 : ByteArray) (o40 : List D)
def l41_0 : LoopS A41_0 O41_0 where
  n := 36
  ks := [1, 2, 3, 7]
  kso := [1, 6]
  m := 1
  mt := 0
  decV := fun vs bs ts => match vs, bs, ts with
    | [.d (.val (.int .i64 v8)), .d (.val (.int .i64 v9)), .ptr 0 0, .d (.val (.int .i64 v10))], [.cells none [.d (.val (.int .i64 v11)), .d (.val (.int .i64 v12)), .d (.val (.int .i64 v13)), .d (.val (.string v14)), .d (.slice v15)]], [] => some (v8, v9, v10, v11, v12, v13, v14, v15)
    | _, _, _ => none
  encV := fun (v8, v9, v10, v11, v12, v13, v14, v15) => [.d (.val (.int .i64 v8)), .d (.val (.int .i64 v9)), .ptr 0 0, .d (.val (.int .i64 v10))]
  encB := fun (v8, v9, v10, v11, v12, v13, v14, v15) => [.cells none [.d (.val (.int .i64 v11)), .d (.val (.int .i64 v12)), .d (.val (.int .i64 v13)), .d (.val (.string v14)), .d (.slice v15)]]
  tk := fun _ => []
  decO := fun ex vs bs ts => match ex, vs, bs, ts with
    | .ret, [.d (.val (.int .i64 o28)), .d (.val (.int .i64 o29))], [.cells none [.d (.val (.int .i64 o30)), .d (.val (.int .i64 o31)), .d (.val (.int .i64 o32)), .d (.val (.string o33)), .d (.slice o34)]], [] => some (.x0 o28 o29 o30 o31 o32 o33 o34)
    | .normal, [.d (.val (.int .i64 o35)), .undef], [.cells none [.d (.val (.int .i64 o36)), .d (.val (.int .i64 o37)), .d (.val (.int .i64 o38)), .d (.val (.string o39)), .d (.slice o40)]], [] => some (.x1 o35 o36 o37 o38 o39 o40)
    | _, _, _, _ => none
  exO := fun x => match x with
    | .x0 o28 o29 o30 o31 o32 o33 o34 => .ret
    | .x1 o35 o36 o37 o38 o39 o40 => .normal
  outV := fun x => match x with
    | .x0 o28 o29 o30 o31 o32 o33 o34 => [.d (.val (.int .i64 o28)), .d (.val (.int .i64 o29))]
    | .x1 o35 o36 o37 o38 o39 o40 => [.d (.val (.int .i64 o35)), .undef]
  outB := fun x => match x with
    | .x0 o28 o29 o30 o31 o32 o33 o34 => [.cells none [.d (.val (.int .i64 o30)), .d (.val (.int .i64 o31)), .d (.val (.int .i64 o32)), .d (.val (.string o33)), .d (.slice o34)]]
    | .x1 o35 o36 o37 o38 o39 o40 => [.cells none [.d (.val (.int .i64 o36)), .d (.val (.int .i64 o37)), .d (.val (.int .i64 o38)), .d (.val (.string o39)), .d (.slice o40)]]
  tkO := fun x => match x with
    | .x0 o28 o29 o30 o31 o32 o33 o34 => []
    | .x1 o35 o36 o37 o38 o39 o40 => []
  elim := fun x k => match x with
    | .x0 o28 o29 o30 o31 o32 o33 o34 => k .ret [.d (.val (.int .i64 o28)), .d (.val (.int .i64 o29))] [.cells none [.d (.val (.int .i64 o30)), .d (.val (.int .i64 o31)), .d (.val (.int .i64 o32)), .d (.val (.string o33)), .d (.slice o34)]] []
    | .x1 o35 o36 o37 o38 o39 o40 => k .normal [.d (.val (.int .i64 o35)), .undef] [.cells none [.d (.val (.int .i64 o36)), .d (.val (.int .i64 o37)), .d (.val (.int .i64 o38)), .d (.val (.string o39)), .d (.slice o40)]] []
theorem k41_0 : l41_0.Ok where
  ok1 := by kernel_rfl
  ok2 := by kernel_rfl
  dec := by
    intro vs bs ts a h
    simp only [l41_0] at h ⊢
    split at h
    · cases h; exact ⟨rfl, rfl⟩
    · cases h
  out := by
    intro ex vs bs ts o h
    simp only [l41_0] at h ⊢
    split at h
    · cases h; exact ⟨rfl, rfl, rfl⟩
    · cases h; exact ⟨rfl, rfl, rfl⟩
    · cases h
  len := fun _ => ⟨rfl, rfl⟩
  elim := fun β o k => by cases o <;> rfl
def L41_0 {σ : Type} (F : Int × Int × Int × ByteArray × List D × Int × Int → Option (Int)) : Nat → A41_0 → σ → Option (O41_0 × σ)
  | 0, _, _ => none
  | n+1, (v8, v9, v10, v11, v12, v13, v14, v15), s => (bif (decide (v10 < ((v15.length : Nat) : Int))) then ((lidx v15 v10).bind fun d16 => ask (d16.cells.length = 5) ((cellAt 0 d16).bind fun x17 => (asInt .i64 x17).bind fun x18 => ((cellAt 1 d16).bind fun x19 => (asInt .i64 x19).bind fun x20 => ((cellAt 2 d16).bind fun x21 => (asInt .i64 x21).bind fun x22 => ((cellAt 3 d16).bind fun x23 => (asStr x23).bind fun x24 => ((cellAt 4 d16).bind fun x25 => (asRow x25).bind fun x26 => ((F (x18, x20, x22, x24, x26, v8, (w64 (v9 + 1)))).bind fun y27 => (bif (decide (y27 > 4096)) then (some (O41_0.x0 y27 y27 v11 v12 v13 v14 v15, s)) else (L41_0 F n (y27, v9, (w64 (v10 + 1)), v11, v12, v13, v14, v15) s))))))))) else (some (O41_0.x1 v8 v11 v12 v13 v14 v15, s)))
def d41 (ds : List D) : Option (Int × Int × Int × ByteArray × List D × Int × Int) := match ds with
  | [.agg [.val (.int .i64 a0), .val (.int .i64 a1), .val (.int .i64 a2), .val (.string a3), .slice a4], .val (.int .i64 a5), .val (.int .i64 a6)] => some (a0, a1, a2, a3, a4, a5, a6)
  | _ => none
def r41 (v : AV) : Option (Int) := match toPR v with
  | some (.one (.val (.int .i64 a7))) => some a7
  | _ => none
def n41 : Nat → Int × Int × Int × ByteArray × List D × Int × Int → Option (Int)
  | 0, _ => none
  | k + 1, (a0, a1, a2, a3, a4, a5, a6) => (bif (bif (decide ((w64 (a5 + 1)) > 4096)) then true else (decide (a6 > 16))) then (some 4097) else ((L41_0 (n41 k) 1000000000000 ((w64 (a5 + 1)), a6, 0, a0, a1, a2, a3, a4) ()).bind fun p41 => match p41.1 with | .x0 z42 z43 z44 z45 z46 z47 z48 => (some z43) | .x1 z49 z50 z51 z52 z53 z54 => (some z49)))
def e41 : PureE := mkE d41 (n41 64) (fun a7 => .one (.val (.int .i64 a7)))
def g41 (k : Nat) {σ : Type} : Nat → Option (SegE σ)
  | 0 => some (l41_0.seg σ (L41_0 (n41 k) 1000000000000))
  | _ => none
theorem E41_0 {σ : Type} (k : Nat) (Y : Yd σ) : ∀ n a (s : σ), L41_0 (n41 k) (n + 1) a s = evK (cfgOf Tryz.prog (tabs gl) (((41, mkE d41 (n41 k) (fun a7 => .one (.val (.int .i64 a7)))) :: tS0) : Tab)) (toldOf (((41, mkE d41 (n41 k) (fun a7 => .one (.val (.int .i64 a7)))) :: tS0) : Tab)) Y (inlN (cfgOf Tryz.prog (tabs gl) (((41, mkE d41 (n41 k) (fun a7 => .one (.val (.int .i64 a7)))) :: tS0) : Tab)) (toldOf (((41, mkE d41 (n41 k) (fun a7 => .one (.val (.int .i64 a7)))) :: tS0) : Tab)) Y) (g41 k) 41 (loopAt Tryz.f41 0) ((l41_0.toT σ).enc a s) (fun ex st' => l41_0.next (cfgOf Tryz.prog (tabs gl) (((41, mkE d41 (n41 k) (fun a7 => .one (.val (.int .i64 a7)))) :: tS0) : Tab)) 41 0 (L41_0 (n41 k) n) ex st') := by
  intro n ⟨v8, v9, v10, v11, v12, v13, v14, v15⟩ s
  kernel_rfl
theorem Q41_0 {σ : Type} (hl : LibFits gl) (k : Nat) (hk : TabOk Tryz.prog gl (((41, mkE d41 (n41 k) (fun a7 => .one (.val (.int .i64 a7)))) :: tS0) : Tab)) (Y : Yd σ) (rnd : Bool) : SegOk (cfgOf Tryz.prog (tabs gl) (((41, mkE d41 (n41 k) (fun a7 => .one (.val (.int .i64 a7)))) :: tS0) : Tab)) (evFn (cfgOf Tryz.prog (tabs gl) (((41, mkE d41 (n41 k) (fun a7 => .one (.val (.int .i64 a7)))) :: tS0) : Tab)) 9) 41 rnd Y (l41_0.seg σ (L41_0 (n41 k) 1000000000000)) (.block 0 (.loop (loopAt Tryz.f41 0))) :=
  told_loop hk k41_0 (by kernel_rfl) (by kernel_rfl) (fun _ _ => rfl) (segs_no (by kernel_rfl)) (E41_0 k Y) (hr := by kernel_rfl)
theorem N41 : ∀ k a, n41 (k + 1) a = bodyK (cfgOf Tryz.prog (tabs gl) (((41, mkE d41 (n41 k) (fun a7 => .one (.val (.int .i64 a7)))) :: tS0) : Tab)) (toldOf (((41, mkE d41 (n41 k) (fun a7 => .one (.val (.int .i64 a7)))) :: tS0) : Tab)) noY (inlN (cfgOf Tryz.prog (tabs gl) (((41, mkE d41 (n41 k) (fun a7 => .one (.val (.int .i64 a7)))) :: tS0) : Tab)) (toldOf (((41, mkE d41 (n41 k) (fun a7 => .one (.val (.int .i64 a7)))) :: tS0) : Tab)) noY) (g41 k) 41 Tryz.f41 (((fun (a0, a1, a2, a3, a4, a5, a6) => [.agg [.val (.int .i64 a0), .val (.int .i64 a1), .val (.int .i64 a2), .val (.string a3), .slice a4], .val (.int .i64 a5), .val (.int .i64 a6)] : (Int × Int × Int × ByteArray × List D × Int × Int) → List D) a).map .d) [] [] () (fun v _ _ _ => r41 v) := by
  intro k a
  obtain ⟨a0, a1, a2, a3, a4, a5, a6⟩ := a
  kernel_rfl
noncomputable def t41 : Tab := (41, e41) :: tS0
theorem ok41 (hl : LibFits gl) : TabOk Tryz.prog gl t41 :=
  told_rec (t := tabs gl) (okS0 hl) mixed oddOk Tryz.func41 (by kernel_rfl) (nat := n41) (seg := fun k => g41 k) (by kernel_rfl) (fun k hk => (fun p hp e he => by
    have hq : segsOf (σ := Unit) (g41 k (σ := Unit)) (bodyOf Tryz.f41) = [(0, .loop (loopAt Tryz.f41 0))] := by kernel_rfl
    rw [hq] at hp
    simp only [List.mem_cons, List.not_mem_nil, or_false] at hp
    subst hp
    cases he
    exact Q41_0 hl k hk _ _))
    (args := fun (a0, a1, a2, a3, a4, a5, a6) => [.agg [.val (.int .i64 a0), .val (.int .i64 a1), .val (.int .i64 a2), .val (.string a3), .slice a4], .val (.int .i64 a5), .val (.int .i64 a6)]) (res := r41)
    (fun ds a h => by
      unfold d41 at h
      split at h
      · cases h; rfl
      · cases h)
    (fun v r h => by
      unfold r41 at h
      split at h
      · rename_i hv; cases h; exact hv
      · cases h)
    (fun _ => rfl) N41 64
abbrev A23_0 := Int × Int × Int × Int × ByteArray × List D × Int × Int × Int × ByteArray × List D
inductive O23_0 where
  | x0 (o45 : Bool) (o46 : Int) (o47 : Int) (o48 : Int) (o49 : ByteArray) (o50 : List D) (o51 : Int) (o52 : Int) (o53 : Int) (o54 : ByteArray) (o55 : List D)
  | x1 (o56 : Int) (o57 : Int) (o58 : Int) (o59 : ByteArray) (o60 : List D) (o61 : Int) (o62 : Int) (o63 : Int) (o64 : ByteArray) (o65 : List D)
def l23_0 : LoopS A23_0 O23_0 where
  n := 60
  ks := [2, 3, 5]
  kso := [4]
  m := 2
  mt := 0
  decV := fun vs bs ts => match vs, bs, ts with
    | [.ptr 0 0, .ptr 1 0, .d (.val (.int .i64 v11))], [.cells none [.d (.val (.int .i64 v12)), .d (.val (.int .i64 v13)), .d (.val (.int .i64 v14)), .d (.val (.string v15)), .d (.slice v16)], .cells none [.d (.val (.int .i64 v17)), .d (.val (.int .i64 v18)), .d (.val (.int .i64 v19)), .d (.val (.string v20)), .d (.slice v21)]], [] => some (v11, v12, v13, v14, v15, v16, v17, v18, v19, v20, v21)
    | _, _, _ => none
  encV := fun (v11, v12, v13, v14, v15, v16, v17, v18, v19, v20, v21) => [.ptr 0 0, .ptr 1 0, .d (.val (.int .i64 v11))]
  encB := fun (v11, v12, v13, v14, v15, v16, v17, v18, v19, v20, v21) => [.cells none [.d (.val (.int .i64 v12)), .d (.val (.int .i64 v13)), .d (.val (.int .i64 v14)), .d (.val (.string v15)), .d (.slice v16)], .cells none [.d (.val (.int .i64 v17)), .d (.val (.int .i64 v18)), .d (.val (.int .i64 v19)), .d (.val (.string v20)), .d (.slice v21)]]
  tk := fun _ => []
  decO := fun ex vs bs ts => match ex, vs, bs, ts with
    | .ret, [.d (.val (.bool o45))], [.cells none [.d (.val (.int .i64 o46)), .d (.val (.int .i64 o47)), .d (.val (.int .i64 o48)), .d (.val (.string o49)), .d (.slice o50)], .cells none [.d (.val (.int .i64 o51)), .d (.val (.int .i64 o52)), .d (.val (.int .i64 o53)), .d (.val (.string o54)), .d (.slice o55)]], [] => some (.x0 o45 o46 o47 o48 o49 o50 o51 o52 o53 o54 o55)
    | .normal, [.undef], [.cells none [.d (.val (.int .i64 o56)), .d (.val (.int .i64 o57)), .d (.val (.int .i64 o58)), .d (.val (.string o59)), .d (.slice o60)], .cells none [.d (.val (.int .i64 o61)), .d (.val (.int .i64 o62)), .d (.val (.int .i64 o63)), .d (.val (.string o64)), .d (.slice o65)]], [] => some (.x1 o56 o57 o58 o59 o60 o61 o62 o63 o64 o65)
    | _, _, _, _ => none
  exO := fun x => match x with
    | .x0 o45 o46 o47 o48 o49 o50 o51 o52 o53 o54 o55 => .ret
    | .x1 o56 o57 o58 o59 o60 o61 o62 o63 o64 o65 => .normal
  outV := fun x => match x with
    | .x0 o45 o46 o47 o48 o49 o50 o51 o52 o53 o54 o55 => [.d (.val (.bool o45))]
    | .x1 o56 o57 o58 o59 o60 o61 o62 o63 o64 o65 => [.undef]
  outB := fun x => match x with
    | .x0 o45 o46 o47 o48 o49 o50 o51 o52 o53 o54 o55 => [.cells none [.d (.val (.int .i64 o46)), .d (.val (.int .i64 o47)), .d (.val (.int .i64 o48)), .d (.val (.string o49)), .d (.slice o50)], .cells none [.d (.val (.int .i64 o51)), .d (.val (.int .i64 o52)), .d (.val (.int .i64 o53)), .d (.val (.string o54)), .d (.slice o55)]]
    | .x1 o56 o57 o58 o59 o60 o61 o62 o63 o64 o65 => [.cells none [.d (.val (.int .i64 o56)), .d (.val (.int .i64 o57)), .d (.val (.int .i64 o58)), .d (.val (.string o59)), .d (.slice o60)], .cells none [.d (.val (.int .i64 o61)), .d (.val (.int .i64 o62)), .d (.val (.int .i64 o63)), .d (.val (.string o64)), .d (.slice o65)]]
  tkO := fun x => match x with
    | .x0 o45 o46 o47 o48 o49 o50 o51 o52 o53 o54 o55 => []
    | .x1 o56 o57 o58 o59 o60 o61 o62 o63 o64 o65 => []
  elim := fun x k => match x with
    | .x0 o45 o46 o47 o48 o49 o50 o51 o52 o53 o54 o55 => k .ret [.d (.val (.bool o45))] [.cells none [.d (.val (.int .i64 o46)), .d (.val (.int .i64 o47)), .d (.val (.int .i64 o48)), .d (.val (.string o49)), .d (.slice o50)], .cells none [.d (.val (.int .i64 o51)), .d (.val (.int .i64 o52)), .d (.val (.int .i64 o53)), .d (.val (.string o54)), .d (.slice o55)]] []
    | .x1 o56 o57 o58 o59 o60 o61 o62 o63 o64 o65 => k .normal [.undef] [.cells none [.d (.val (.int .i64 o56)), .d (.val (.int .i64 o57)), .d (.val (.int .i64 o58)), .d (.val (.string o59)), .d (.slice o60)], .cells none [.d (.val (.int .i64 o61)), .d (.val (.int .i64 o62)), .d (.val (.int .i64 o63)), .d (.val (.string o64)), .d (.slice o65)]] []
theorem k23_0 : l23_0.Ok where
  ok1 := by kernel_rfl
  ok2 := by kernel_rfl
  dec := by
    intro vs bs ts a h
    simp only [l23_0] at h ⊢
    split at h
    · cases h; exact ⟨rfl, rfl⟩
    · cases h
  out := by
    intro ex vs bs ts o h
    simp only [l23_0] at h ⊢
    split at h
    · cases h; exact ⟨rfl, rfl, rfl⟩
    · cases h; exact ⟨rfl, rfl, rfl⟩
    · cases h
  len := fun _ => ⟨rfl, rfl⟩
  elim := fun β o k => by cases o <;> rfl
def L23_0 {σ : Type} (F : Int × Int × Int × ByteArray × List D × Int × Int × Int × ByteArray × List D → Option (Bool)) : Nat → A23_0 → σ → Option (O23_0 × σ)
  | 0, _, _ => none
  | n+1, (v11, v12, v13, v14, v15, v16, v17, v18, v19, v20, v21), s => (bif (decide (v11 < ((v16.length : Nat) : Int))) then ((lidx v16 v11).bind fun d22 => ask (d22.cells.length = 5) ((cellAt 0 d22).bind fun x23 => (asInt .i64 x23).bind fun x24 => ((cellAt 1 d22).bind fun x25 => (asInt .i64 x25).bind fun x26 => ((cellAt 2 d22).bind fun x27 => (asInt .i64 x27).bind fun x28 => ((cellAt 3 d22).bind fun x29 => (asStr x29).bind fun x30 => ((cellAt 4 d22).bind fun x31 => (asRow x31).bind fun x32 => ((lidx v21 v11).bind fun d33 => ask (d33.cells.length = 5) ((cellAt 0 d33).bind fun x34 => (asInt .i64 x34).bind fun x35 => ((cellAt 1 d33).bind fun x36 => (asInt .i64 x36).bind fun x37 => ((cellAt 2 d33).bind fun x38 => (asInt .i64 x38).bind fun x39 => ((cellAt 3 d33).bind fun x40 => (asStr x40).bind fun x41 => ((cellAt 4 d33).bind fun x42 => (asRow x42).bind fun x43 => ((F (x24, x26, x28, x30, x32, x35, x37, x39, x41, x43)).bind fun y44 => (bif (!y44) then (some (O23_0.x0 false v12 v13 v14 v15 v16 v17 v18 v19 v20 v21, s)) else (L23_0 F n ((w64 (v11 + 1)), v12, v13, v14, v15, v16, v17, v18, v19, v20, v21) s))))))))))))))) else (some (O23_0.x1 v12 v13 v14 v15 v16 v17 v18 v19 v20 v21, s)))
def d23 (ds : List D) : Option (Int × Int × Int × ByteArray × List D × Int × Int × Int × ByteArray × List D) := match ds with
  | [.agg [.val (.int .i64 a0), .val (.int .i64 a1), .val (.int .i64 a2), .val (.string a3), .slice a4], .agg [.val (.int .i64 a5), .val (.int .i64 a6), .val (.int .i64 a7), .val (.string a8), .slice a9]] => some (a0, a1, a2, a3, a4, a5, a6, a7, a8, a9)
  | _ => none
def r23 (v : AV) : Option (Bool) := match toPR v with
  | some (.one (.val (.bool a10))) => some a10
  | _ => none
def n23 : Nat → Int × Int × Int × ByteArray × List D × Int × Int × Int × ByteArray × List D → Option (Bool)
  | 0, _ => none
  | k + 1, (a0, a1, a2, a3, a4, a5, a6, a7, a8, a9) => (bif (bif (bif (bif (bif (a0 != a5) then true else (a1 != a6)) then true else (a2 != a7)) then true else (!(sEq a3 a8))) then true else (((a4.length : Nat) : Int) != ((a9.length : Nat) : Int))) then (some false) else ((L23_0 (n23 k) 1000000000000 (0, a0, a1, a2, a3, a4, a5, a6, a7, a8, a9) ()).bind fun p66 => match p66.1 with | .x0 z67 z68 z69 z70 z71 z72 z73 z74 z75 z76 z77 => (some z67) | .x1 z78 z79 z80 z81 z82 z83 z84 z85 z86 z87 => (some true)))
def e23 : PureE := mkE d23 (n23 64) (fun a10 => .one (.val (.bool a10)))
def g23 (k : Nat) {σ : Type} : Nat → Option (SegE σ)
  | 0 => some (l23_0.seg σ (L23_0 (n23 k) 1000000000000))
  | _ => none
theorem E23_0 {σ : Type} (k : Nat) (Y : Yd σ) : ∀ n a (s : σ), L23_0 (n23 k) (n + 1) a s = evK (cfgOf Tryz.prog (tabs gl) (((23, mkE d23 (n23 k) (fun a10 => .one (.val (.bool a10)))) :: tS0) : Tab)) (toldOf (((23, mkE d23 (n23 k) (fun a10 => .one (.val (.bool a10)))) :: tS0) : Tab)) Y (inlN (cfgOf Tryz.prog (tabs gl) (((23, mkE d23 (n23 k) (fun a10 => .one (.val (.bool a10)))) :: tS0) : Tab)) (toldOf (((23, mkE d23 (n23 k) (fun a10 => .one (.val (.bool a10)))) :: tS0) : Tab)) Y) (g23 k) 23 (loopAt Tryz.f23 0) ((l23_0.toT σ).enc a s) (fun ex st' => l23_0.next (cfgOf Tryz.prog (tabs gl) (((23, mkE d23 (n23 k) (fun a10 => .one (.val (.bool a10)))) :: tS0) : Tab)) 23 0 (L23_0 (n23 k) n) ex st') := by
  intro n ⟨v11, v12, v13, v14, v15, v16, v17, v18, v19, v20, v21⟩ s
  kernel_rfl
theorem Q23_0 {σ : Type} (hl : LibFits gl) (k : Nat) (hk : TabOk Tryz.prog gl (((23, mkE d23 (n23 k) (fun a10 => .one (.val (.bool a10)))) :: tS0) : Tab)) (Y : Yd σ) (rnd : Bool) : SegOk (cfgOf Tryz.prog (tabs gl) (((23, mkE d23 (n23 k) (fun a10 => .one (.val (.bool a10)))) :: tS0) : Tab)) (evFn (cfgOf Tryz.prog (tabs gl) (((23, mkE d23 (n23 k) (fun a10 => .one (.val (.bool a10)))) :: tS0) : Tab)) 9) 23 rnd Y (l23_0.seg σ (L23_0 (n23 k) 1000000000000)) (.block 0 (.loop (loopAt Tryz.f23 0))) :=
  told_loop hk k23_0 (by kernel_rfl) (by kernel_rfl) (fun _ _ => rfl) (segs_no (by kernel_rfl)) (E23_0 k Y) (hr := by kernel_rfl)
theorem N23 : ∀ k a, n23 (k + 1) a = bodyK (cfgOf Tryz.prog (tabs gl) (((23, mkE d23 (n23 k) (fun a10 => .one (.val (.bool a10)))) :: tS0) : Tab)) (toldOf (((23, mkE d23 (n23 k) (fun a10 => .one (.val (.bool a10)))) :: tS0) : Tab)) noY (inlN (cfgOf Tryz.prog (tabs gl) (((23, mkE d23 (n23 k) (fun a10 => .one (.val (.bool a10)))) :: tS0) : Tab)) (toldOf (((23, mkE d23 (n23 k) (fun a10 => .one (.val (.bool a10)))) :: tS0) : Tab)) noY) (g23 k) 23 Tryz.f23 (((fun (a0, a1, a2, a3, a4, a5, a6, a7, a8, a9) => [.agg [.val (.int .i64 a0), .val (.int .i64 a1), .val (.int .i64 a2), .val (.string a3), .slice a4], .agg [.val (.int .i64 a5), .val (.int .i64 a6), .val (.int .i64 a7), .val (.string a8), .slice a9]] : (Int × Int × Int × ByteArray × List D × Int × Int × Int × ByteArray × List D) → List D) a).map .d) [] [] () (fun v _ _ _ => r23 v) := by
  intro k a
  obtain ⟨a0, a1, a2, a3, a4, a5, a6, a7, a8, a9⟩ := a
  kernel_rfl
noncomputable def t23 : Tab := (23, e23) :: tS0
theorem ok23 (hl : LibFits gl) : TabOk Tryz.prog gl t23 :=
  told_rec (t := tabs gl) (okS0 hl) mixed oddOk Tryz.func23 (by kernel_rfl) (nat := n23) (seg := fun k => g23 k) (by kernel_rfl) (fun k hk => (fun p hp e he => by
    have hq : segsOf (σ := Unit) (g23 k (σ := Unit)) (bodyOf Tryz.f23) = [(0, .loop (loopAt Tryz.f23 0))] := by kernel_rfl
    rw [hq] at hp
    simp only [List.mem_cons, List.not_mem_nil, or_false] at hp
    subst hp
    cases he
    exact Q23_0 hl k hk _ _))
    (args := fun (a0, a1, a2, a3, a4, a5, a6, a7, a8, a9) => [.agg [.val (.int .i64 a0), .val (.int .i64 a1), .val (.int .i64 a2), .val (.string a3), .slice a4], .agg [.val (.int .i64 a5), .val (.int .i64 a6), .val (.int .i64 a7), .val (.string a8), .slice a9]]) (res := r23)
    (fun ds a h => by
      unfold d23 at h
      split at h
      · cases h; rfl
      · cases h)
    (fun v r h => by
      unfold r23 at h
      split at h
      · rename_i hv; cases h; exact hv
      · cases h)
    (fun _ => rfl) N23 64
noncomputable def tabsS1 (gl : Nat → Option (List D)) : Tabs := { tabs gl with odd := fun g => bif Nat.beq g 45 then some (methE 45 dM45 (n45 64) (fun _ => vM45) (fun _ => cM45) (fun _ => kM45)) else ((tabs gl).odd g) }
theorem oddOkS1 (hl : LibFits gl) : OddSound Tryz.prog gl (tabsS1 gl).odd := OddSound.join (om45 hl 64) (oddOk)
noncomputable def tS1 : Tab := (80, e80) :: (78, e78) :: (70, e70) :: (157, e157) :: (127, e127) :: (51, e51) :: (69, e69) :: (137, e137) :: (14, e14) :: (41, e41) :: (23, e23) :: tS0
theorem okS1 (hl : LibFits gl) : TabOk Tryz.prog gl tS1 :=
  TabOk.cons (TabOk.cons (TabOk.cons (TabOk.cons (TabOk.cons (TabOk.cons (TabOk.cons (TabOk.cons (TabOk.cons (TabOk.cons (TabOk.cons (okS0 hl) ((ok23 hl).fair (23, e23) (List.mem_cons_self (l := tS0))) ((ok23 hl).spec (23, e23) (List.mem_cons_self (l := tS0)))) ((ok41 hl).fair (41, e41) (List.mem_cons_self (l := tS0))) ((ok41 hl).spec (41, e41) (List.mem_cons_self (l := tS0)))) ((ok14 hl).fair (14, e14) (List.mem_cons_self (l := tS0))) ((ok14 hl).spec (14, e14) (List.mem_cons_self (l := tS0)))) ((ok137 hl).fair (137, e137) (List.mem_cons_self (l := tS0))) ((ok137 hl).spec (137, e137) (List.mem_cons_self (l := tS0)))) ((ok69 hl).fair (69, e69) (List.mem_cons_self (l := tS0))) ((ok69 hl).spec (69, e69) (List.mem_cons_self (l := tS0)))) ((ok51 hl).fair (51, e51) (List.mem_cons_self (l := tS0))) ((ok51 hl).spec (51, e51) (List.mem_cons_self (l := tS0)))) ((ok127 hl).fair (127, e127) (List.mem_cons_self (l := tS0))) ((ok127 hl).spec (127, e127) (List.mem_cons_self (l := tS0)))) ((ok157 hl).fair (157, e157) (List.mem_cons_self (l := tS0))) ((ok157 hl).spec (157, e157) (List.mem_cons_self (l := tS0)))) ((ok70 hl).fair (70, e70) (List.mem_cons_self (l := tS0))) ((ok70 hl).spec (70, e70) (List.mem_cons_self (l := tS0)))) ((ok78 hl).fair (78, e78) (List.mem_cons_self (l := tS0))) ((ok78 hl).spec (78, e78) (List.mem_cons_self (l := tS0)))) ((ok80 hl).fair (80, e80) (List.mem_cons_self (l := tS0))) ((ok80 hl).spec (80, e80) (List.mem_cons_self (l := tS0)))
def d43 (ds : List D) : Option (Int × Int × Int × ByteArray × List D) := match ds with
  | [.agg [.val (.int .i64 a0), .val (.int .i64 a1), .val (.int .i64 a2), .val (.string a3), .slice a4]] => some (a0, a1, a2, a3, a4)
  | _ => none
def r43 (v : AV) : Option (Bool) := match toPR v with
  | some (.one (.val (.bool a5))) => some a5
  | _ => none
def n43 : Int × Int × Int × ByteArray × List D → Option (Bool) := fun (a0, a1, a2, a3, a4) => ((n45 64 (0, a0, a1, a2, a3, a4, 1)).bind fun y6 => (some (bif (decide (y6.1 ≤ 16)) then (decide (y6.2 ≤ 4096)) else false)))
def e43 : PureE := mkE d43 n43 (fun a5 => .one (.val (.bool a5)))
def g43 {σ : Type} : Nat → Option (SegE σ)
  | _ => none
theorem N43 : ∀ a, n43 a = bodyK (cfgOf Tryz.prog (tabsS1 gl) tS1) (toldOf tS1) noY (inlN (cfgOf Tryz.prog (tabsS1 gl) tS1) (toldOf tS1) noY) g43 43 Tryz.f43 (((fun (a0, a1, a2, a3, a4) => [.agg [.val (.int .i64 a0), .val (.int .i64 a1), .val (.int .i64 a2), .val (.string a3), .slice a4]] : (Int × Int × Int × ByteArray × List D) → List D) a).map .d) [] [] () (fun v _ _ _ => r43 v) := by
  intro a
  obtain ⟨a0, a1, a2, a3, a4⟩ := a
  kernel_rfl
noncomputable def t43 : Tab := (43, e43) :: tS1
theorem ok43 (hl : LibFits gl) : TabOk Tryz.prog gl t43 :=
  told_fn (okS1 hl) mixed (oddOkS1 hl) Tryz.func43 (by kernel_rfl) (by kernel_rfl) (by kernel_rfl) (segs_no (by kernel_rfl))
    (args := fun (a0, a1, a2, a3, a4) => [.agg [.val (.int .i64 a0), .val (.int .i64 a1), .val (.int .i64 a2), .val (.string a3), .slice a4]]) (res := r43)
    (fun ds a h => by
      unfold d43 at h
      split at h
      · cases h; rfl
      · cases h)
    (fun v r h => by
      unfold r43 at h
      split at h
      · rename_i hv; cases h; exact hv
      · cases h)
    N43
abbrev A49_0 := List D × Int × Int × Int × Int × Int × ByteArray × List D × Int × Int × Int × ByteArray × List D
inductive O49_0 where
  | x0 (o32 : Int) (o33 : Int) (o34 : Int) (o35 : Int) (o36 : ByteArray) (o37 : List D) (o38 : Int) (o39 : Int) (o40 : Int) (o41 : ByteArray) (o42 : List D) (q43 : Nat)
  | x1 (o44 : Int) (o45 : Int) (o46 : Int) (o47 : ByteArray) (o48 : List D) (o49 : Int) (o50 : Int) (o51 : Int) (o52 : ByteArray) (o53 : List D) (q54 : Nat)
def l49_0 : LoopS A49_0 O49_0 where
  n := 92
  ks := [2, 3, 63, 64, 65]
  kso := [2, 3, 4]
  m := 2
  mt := 1
  decV := fun vs bs ts => match vs, bs, ts with
    | [.ptr 0 0, .ptr 1 0, .osl 0 v16, .d (.val (.int .i64 v17)), .d (.val (.int .i64 v18))], [.cells none [.d (.val (.int .i64 v19)), .d (.val (.int .i64 v20)), .d (.val (.int .i64 v21)), .d (.val (.string v22)), .d (.slice v23)], .cells none [.d (.val (.int .i64 v24)), .d (.val (.int .i64 v25)), .d (.val (.int .i64 v26)), .d (.val (.string v27)), .d (.slice v28)]], [_] => some (v16, v17, v18, v19, v20, v21, v22, v23, v24, v25, v26, v27, v28)
    | _, _, _ => none
  encV := fun (v16, v17, v18, v19, v20, v21, v22, v23, v24, v25, v26, v27, v28) => [.ptr 0 0, .ptr 1 0, .osl 0 v16, .d (.val (.int .i64 v17)), .d (.val (.int .i64 v18))]
  encB := fun (v16, v17, v18, v19, v20, v21, v22, v23, v24, v25, v26, v27, v28) => [.cells none [.d (.val (.int .i64 v19)), .d (.val (.int .i64 v20)), .d (.val (.int .i64 v21)), .d (.val (.string v22)), .d (.slice v23)], .cells none [.d (.val (.int .i64 v24)), .d (.val (.int .i64 v25)), .d (.val (.int .i64 v26)), .d (.val (.string v27)), .d (.slice v28)]]
  tk := fun (v16, v17, v18, v19, v20, v21, v22, v23, v24, v25, v26, v27, v28) => [v16.length]
  decO := fun ex vs bs ts => match ex, vs, bs, ts with
    | .ret, [.undef, .undef, .d (.val (.int .i64 o32))], [.cells none [.d (.val (.int .i64 o33)), .d (.val (.int .i64 o34)), .d (.val (.int .i64 o35)), .d (.val (.string o36)), .d (.slice o37)], .cells none [.d (.val (.int .i64 o38)), .d (.val (.int .i64 o39)), .d (.val (.int .i64 o40)), .d (.val (.string o41)), .d (.slice o42)]], [q43] => some (.x0 o32 o33 o34 o35 o36 o37 o38 o39 o40 o41 o42 q43)
    | .normal, [.ptr 0 0, .ptr 1 0, .undef], [.cells none [.d (.val (.int .i64 o44)), .d (.val (.int .i64 o45)), .d (.val (.int .i64 o46)), .d (.val (.string o47)), .d (.slice o48)], .cells none [.d (.val (.int .i64 o49)), .d (.val (.int .i64 o50)), .d (.val (.int .i64 o51)), .d (.val (.string o52)), .d (.slice o53)]], [q54] => some (.x1 o44 o45 o46 o47 o48 o49 o50 o51 o52 o53 q54)
    | _, _, _, _ => none
  exO := fun x => match x with
    | .x0 o32 o33 o34 o35 o36 o37 o38 o39 o40 o41 o42 q43 => .ret
    | .x1 o44 o45 o46 o47 o48 o49 o50 o51 o52 o53 q54 => .normal
  outV := fun x => match x with
    | .x0 o32 o33 o34 o35 o36 o37 o38 o39 o40 o41 o42 q43 => [.undef, .undef, .d (.val (.int .i64 o32))]
    | .x1 o44 o45 o46 o47 o48 o49 o50 o51 o52 o53 q54 => [.ptr 0 0, .ptr 1 0, .undef]
  outB := fun x => match x with
    | .x0 o32 o33 o34 o35 o36 o37 o38 o39 o40 o41 o42 q43 => [.cells none [.d (.val (.int .i64 o33)), .d (.val (.int .i64 o34)), .d (.val (.int .i64 o35)), .d (.val (.string o36)), .d (.slice o37)], .cells none [.d (.val (.int .i64 o38)), .d (.val (.int .i64 o39)), .d (.val (.int .i64 o40)), .d (.val (.string o41)), .d (.slice o42)]]
    | .x1 o44 o45 o46 o47 o48 o49 o50 o51 o52 o53 q54 => [.cells none [.d (.val (.int .i64 o44)), .d (.val (.int .i64 o45)), .d (.val (.int .i64 o46)), .d (.val (.string o47)), .d (.slice o48)], .cells none [.d (.val (.int .i64 o49)), .d (.val (.int .i64 o50)), .d (.val (.int .i64 o51)), .d (.val (.string o52)), .d (.slice o53)]]
  tkO := fun x => match x with
    | .x0 o32 o33 o34 o35 o36 o37 o38 o39 o40 o41 o42 q43 => [q43]
    | .x1 o44 o45 o46 o47 o48 o49 o50 o51 o52 o53 q54 => [q54]
  elim := fun x k => match x with
    | .x0 o32 o33 o34 o35 o36 o37 o38 o39 o40 o41 o42 q43 => k .ret [.undef, .undef, .d (.val (.int .i64 o32))] [.cells none [.d (.val (.int .i64 o33)), .d (.val (.int .i64 o34)), .d (.val (.int .i64 o35)), .d (.val (.string o36)), .d (.slice o37)], .cells none [.d (.val (.int .i64 o38)), .d (.val (.int .i64 o39)), .d (.val (.int .i64 o40)), .d (.val (.string o41)), .d (.slice o42)]] [q43]
    | .x1 o44 o45 o46 o47 o48 o49 o50 o51 o52 o53 q54 => k .normal [.ptr 0 0, .ptr 1 0, .undef] [.cells none [.d (.val (.int .i64 o44)), .d (.val (.int .i64 o45)), .d (.val (.int .i64 o46)), .d (.val (.string o47)), .d (.slice o48)], .cells none [.d (.val (.int .i64 o49)), .d (.val (.int .i64 o50)), .d (.val (.int .i64 o51)), .d (.val (.string o52)), .d (.slice o53)]] [q54]
theorem k49_0 : l49_0.Ok where
  ok1 := by kernel_rfl
  ok2 := by kernel_rfl
  dec := by
    intro vs bs ts a h
    simp only [l49_0] at h ⊢
    split at h
    · cases h; exact ⟨rfl, rfl⟩
    · cases h
  out := by
    intro ex vs bs ts o h
    simp only [l49_0] at h ⊢
    split at h
    · cases h; exact ⟨rfl, rfl, rfl⟩
    · cases h; exact ⟨rfl, rfl, rfl⟩
    · cases h
  len := fun _ => ⟨rfl, rfl⟩
  elim := fun β o k => by cases o <;> rfl
def L49_0 {σ : Type} (F : Int × Int × Int × ByteArray × List D × Int × Int × Int × ByteArray × List D → Option (Int)) : Nat → A49_0 → σ → Option (O49_0 × σ)
  | 0, _, _ => none
  | n+1, (v16, v17, v18, v19, v20, v21, v22, v23, v24, v25, v26, v27, v28), s => (bif (decide (v18 < v17)) then ((lidx v16 v18).bind fun d29 => ask (d29.cells.length = 1) ((cellAt 0 d29).bind fun x30 => (asInt .i64 x30).bind fun x31 => (bif (x31 != 0) then (ask (([v16.length] : List Nat) = [v16.length]) (some (O49_0.x0 x31 v19 v20 v21 v22 v23 v24 v25 v26 v27 v28 v16.length, s))) else (ask (([v16.length] : List Nat) = [v16.length]) (L49_0 F n (v16, v17, (w64 (v18 + 1)), v19, v20, v21, v22, v23, v24, v25, v26, v27, v28) s))))) else (ask (([v16.length] : List Nat) = [v16.length]) (some (O49_0.x1 v19 v20 v21 v22 v23 v24 v25 v26 v27 v28 v16.length, s))))
abbrev A49_2 := List D × Int × Int × Int × Int × Int × ByteArray × List D × Int × Int × Int × ByteArray × List D × Nat
inductive O49_2 where
  | x0 (o116 : Int) (o117 : Int) (o118 : Int) (o119 : Int) (o120 : ByteArray) (o121 : List D) (o122 : Int) (o123 : Int) (o124 : Int) (o125 : ByteArray) (o126 : List D) (q127 : Nat)
  | x1 (o128 : Int) (o129 : Int) (o130 : Int) (o131 : ByteArray) (o132 : List D) (o133 : Int) (o134 : Int) (o135 : Int) (o136 : ByteArray) (o137 : List D) (q138 : Nat)
def l49_2 : LoopS A49_2 O49_2 where
  n := 92
  ks := [3, 74, 75, 76]
  kso := [4]
  m := 2
  mt := 1
  decV := fun vs bs ts => match vs, bs, ts with
    | [.ptr 1 0, .d (.slice v79), .d (.val (.int .i64 v80)), .d (.val (.int .i64 v81))], [.cells none [.d (.val (.int .i64 v82)), .d (.val (.int .i64 v83)), .d (.val (.int .i64 v84)), .d (.val (.string v85)), .d (.slice v86)], .cells none [.d (.val (.int .i64 v87)), .d (.val (.int .i64 v88)), .d (.val (.int .i64 v89)), .d (.val (.string v90)), .d (.slice v91)]], [k92] => some (v79, v80, v81, v82, v83, v84, v85, v86, v87, v88, v89, v90, v91, k92)
    | _, _, _ => none
  encV := fun (v79, v80, v81, v82, v83, v84, v85, v86, v87, v88, v89, v90, v91, k92) => [.ptr 1 0, .d (.slice v79), .d (.val (.int .i64 v80)), .d (.val (.int .i64 v81))]
  encB := fun (v79, v80, v81, v82, v83, v84, v85, v86, v87, v88, v89, v90, v91, k92) => [.cells none [.d (.val (.int .i64 v82)), .d (.val (.int .i64 v83)), .d (.val (.int .i64 v84)), .d (.val (.string v85)), .d (.slice v86)], .cells none [.d (.val (.int .i64 v87)), .d (.val (.int .i64 v88)), .d (.val (.int .i64 v89)), .d (.val (.string v90)), .d (.slice v91)]]
  tk := fun (v79, v80, v81, v82, v83, v84, v85, v86, v87, v88, v89, v90, v91, k92) => [k92]
  decO := fun ex vs bs ts => match ex, vs, bs, ts with
    | .ret, [.d (.val (.int .i64 o116))], [.cells none [.d (.val (.int .i64 o117)), .d (.val (.int .i64 o118)), .d (.val (.int .i64 o119)), .d (.val (.string o120)), .d (.slice o121)], .cells none [.d (.val (.int .i64 o122)), .d (.val (.int .i64 o123)), .d (.val (.int .i64 o124)), .d (.val (.string o125)), .d (.slice o126)]], [q127] => some (.x0 o116 o117 o118 o119 o120 o121 o122 o123 o124 o125 o126 q127)
    | .normal, [.undef], [.cells none [.d (.val (.int .i64 o128)), .d (.val (.int .i64 o129)), .d (.val (.int .i64 o130)), .d (.val (.string o131)), .d (.slice o132)], .cells none [.d (.val (.int .i64 o133)), .d (.val (.int .i64 o134)), .d (.val (.int .i64 o135)), .d (.val (.string o136)), .d (.slice o137)]], [q138] => some (.x1 o128 o129 o130 o131 o132 o133 o134 o135 o136 o137 q138)
    | _, _, _, _ => none
  exO := fun x => match x with
    | .x0 o116 o117 o118 o119 o120 o121 o122 o123 o124 o125 o126 q127 => .ret
    | .x1 o128 o129 o130 o131 o132 o133 o134 o135 o136 o137 q138 => .normal
  outV := fun x => match x with
    | .x0 o116 o117 o118 o119 o120 o121 o122 o123 o124 o125 o126 q127 => [.d (.val (.int .i64 o116))]
    | .x1 o128 o129 o130 o131 o132 o133 o134 o135 o136 o137 q138 => [.undef]
  outB := fun x => match x with
    | .x0 o116 o117 o118 o119 o120 o121 o122 o123 o124 o125 o126 q127 => [.cells none [.d (.val (.int .i64 o117)), .d (.val (.int .i64 o118)), .d (.val (.int .i64 o119)), .d (.val (.string o120)), .d (.slice o121)], .cells none [.d (.val (.int .i64 o122)), .d (.val (.int .i64 o123)), .d (.val (.int .i64 o124)), .d (.val (.string o125)), .d (.slice o126)]]
    | .x1 o128 o129 o130 o131 o132 o133 o134 o135 o136 o137 q138 => [.cells none [.d (.val (.int .i64 o128)), .d (.val (.int .i64 o129)), .d (.val (.int .i64 o130)), .d (.val (.string o131)), .d (.slice o132)], .cells none [.d (.val (.int .i64 o133)), .d (.val (.int .i64 o134)), .d (.val (.int .i64 o135)), .d (.val (.string o136)), .d (.slice o137)]]
  tkO := fun x => match x with
    | .x0 o116 o117 o118 o119 o120 o121 o122 o123 o124 o125 o126 q127 => [q127]
    | .x1 o128 o129 o130 o131 o132 o133 o134 o135 o136 o137 q138 => [q138]
  elim := fun x k => match x with
    | .x0 o116 o117 o118 o119 o120 o121 o122 o123 o124 o125 o126 q127 => k .ret [.d (.val (.int .i64 o116))] [.cells none [.d (.val (.int .i64 o117)), .d (.val (.int .i64 o118)), .d (.val (.int .i64 o119)), .d (.val (.string o120)), .d (.slice o121)], .cells none [.d (.val (.int .i64 o122)), .d (.val (.int .i64 o123)), .d (.val (.int .i64 o124)), .d (.val (.string o125)), .d (.slice o126)]] [q127]
    | .x1 o128 o129 o130 o131 o132 o133 o134 o135 o136 o137 q138 => k .normal [.undef] [.cells none [.d (.val (.int .i64 o128)), .d (.val (.int .i64 o129)), .d (.val (.int .i64 o130)), .d (.val (.string o131)), .d (.slice o132)], .cells none [.d (.val (.int .i64 o133)), .d (.val (.int .i64 o134)), .d (.val (.int .i64 o135)), .d (.val (.string o136)), .d (.slice o137)]] [q138]
theorem k49_2 : l49_2.Ok where
  ok1 := by kernel_rfl
  ok2 := by kernel_rfl
  dec := by
    intro vs bs ts a h
    simp only [l49_2] at h ⊢
    split at h
    · cases h; exact ⟨rfl, rfl⟩
    · cases h
  out := by
    intro ex vs bs ts o h
    simp only [l49_2] at h ⊢
    split at h
    · cases h; exact ⟨rfl, rfl, rfl⟩
    · cases h; exact ⟨rfl, rfl, rfl⟩
    · cases h
  len := fun _ => ⟨rfl, rfl⟩
  elim := fun β o k => by cases o <;> rfl
def L49_2 {σ : Type} (F : Int × Int × Int × ByteArray × List D × Int × Int × Int × ByteArray × List D → Option (Int)) : Nat → A49_2 → σ → Option (O49_2 × σ)
  | 0, _, _ => none
  | n+1, (v79, v80, v81, v82, v83, v84, v85, v86, v87, v88, v89, v90, v91, k92), s => (bif (decide (v81 < v80)) then ((lidx v79 v81).bind fun d93 => ask (d93.cells.length = 5) ((cellAt 0 d93).bind fun x94 => (asInt .i64 x94).bind fun x95 => ((cellAt 1 d93).bind fun x96 => (asInt .i64 x96).bind fun x97 => ((cellAt 2 d93).bind fun x98 => (asInt .i64 x98).bind fun x99 => ((cellAt 3 d93).bind fun x100 => (asStr x100).bind fun x101 => ((cellAt 4 d93).bind fun x102 => (asRow x102).bind fun x103 => ((lidx v91 v81).bind fun d104 => ask (d104.cells.length = 5) ((cellAt 0 d104).bind fun x105 => (asInt .i64 x105).bind fun x106 => ((cellAt 1 d104).bind fun x107 => (asInt .i64 x107).bind fun x108 => ((cellAt 2 d104).bind fun x109 => (asInt .i64 x109).bind fun x110 => ((cellAt 3 d104).bind fun x111 => (asStr x111).bind fun x112 => ((cellAt 4 d104).bind fun x113 => (asRow x113).bind fun x114 => ((F (x95, x97, x99, x101, x103, x106, x108, x110, x112, x114)).bind fun y115 => (bif (y115 != 0) then (ask (([k92] : List Nat) = [k92]) (some (O49_2.x0 y115 v82 v83 v84 v85 v86 v87 v88 v89 v90 v91 k92, s))) else (ask (([k92] : List Nat) = [k92]) (L49_2 F n (v79, v80, (w64 (v81 + 1)), v82, v83, v84, v85, v86, v87, v88, v89, v90, v91, k92) s)))))))))))))))) else (ask (([k92] : List Nat) = [k92]) (some (O49_2.x1 v82 v83 v84 v85 v86 v87 v88 v89 v90 v91 k92, s))))
def d49 (ds : List D) : Option (Int × Int × Int × ByteArray × List D × Int × Int × Int × ByteArray × List D) := match ds with
  | [.agg [.val (.int .i64 a0), .val (.int .i64 a1), .val (.int .i64 a2), .val (.string a3), .slice a4], .agg [.val (.int .i64 a5), .val (.int .i64 a6), .val (.int .i64 a7), .val (.string a8), .slice a9]] => some (a0, a1, a2, a3, a4, a5, a6, a7, a8, a9)
  | _ => none
def r49 (v : AV) : Option (Int) := match toPR v with
  | some (.one (.val (.int .i64 a10))) => some a10
  | _ => none
def n49 : Nat → Int × Int × Int × ByteArray × List D × Int × Int × Int × ByteArray × List D → Option (Int)
  | 0, _ => none
  | k + 1, (a0, a1, a2, a3, a4, a5, a6, a7, a8, a9) => (bif (a0 != a5) then ((n80 ((decide (a0 < a5)), true)).bind fun y11 => (some y11)) else (bif (((a4.length : Nat) : Int) != ((a9.length : Nat) : Int)) then ((n80 ((decide (((a4.length : Nat) : Int) < ((a9.length : Nat) : Int))), true)).bind fun y12 => (some y12)) else ((n80 ((decide (a1 < a6)), (decide (a1 > a6)))).bind fun y13 => ((n80 ((decide (a2 < a7)), (decide (a2 > a7)))).bind fun y14 => ((n81 (a3, a8)).bind fun y15 => (ask (([3] : List Nat) = [([.val (.int .i64 y13), .val (.int .i64 y14), .val (.int .i64 y15)] : List D).length]) ((L49_0 (n49 k) 1000000000000 (([.val (.int .i64 y13), .val (.int .i64 y14), .val (.int .i64 y15)] : List D), ((([.val (.int .i64 y13), .val (.int .i64 y14), .val (.int .i64 y15)] : List D).length : Nat) : Int), 0, a0, a1, a2, a3, a4, a5, a6, a7, a8, a9) ()).bind fun p55 => match p55.1 with | .x0 z56 z57 z58 z59 z60 z61 z62 z63 z64 z65 z66 z67 => (some z56) | .x1 z68 z69 z70 z71 z72 z73 z74 z75 z76 z77 z78 => (ask (([z78] : List Nat) = [z78]) ((L49_2 (n49 k) 1000000000000 (z72, ((z72.length : Nat) : Int), 0, z68, z69, z70, z71, z72, z73, z74, z75, z76, z77, z78) p55.2).bind fun p139 => match p139.1 with | .x0 z140 z141 z142 z143 z144 z145 z146 z147 z148 z149 z150 z151 => (some z140) | .x1 z152 z153 z154 z155 z156 z157 z158 z159 z160 z161 z162 => (some 0))))))))))
def e49 : PureE := mkE d49 (n49 64) (fun a10 => .one (.val (.int .i64 a10)))
def g49 (k : Nat) {σ : Type} : Nat → Option (SegE σ)
  | 0 => some (l49_0.seg σ (L49_0 (n49 k) 1000000000000))
  | 2 => some (l49_2.seg σ (L49_2 (n49 k) 1000000000000))
  | _ => none
theorem E49_0 {σ : Type} (k : Nat) (Y : Yd σ) : ∀ n a (s : σ), L49_0 (n49 k) (n + 1) a s = evK (cfgOf Tryz.prog (tabsS1 gl) (((49, mkE d49 (n49 k) (fun a10 => .one (.val (.int .i64 a10)))) :: tS1) : Tab)) (toldOf (((49, mkE d49 (n49 k) (fun a10 => .one (.val (.int .i64 a10)))) :: tS1) : Tab)) Y (inlN (cfgOf Tryz.prog (tabsS1 gl) (((49, mkE d49 (n49 k) (fun a10 => .one (.val (.int .i64 a10)))) :: tS1) : Tab)) (toldOf (((49, mkE d49 (n49 k) (fun a10 => .one (.val (.int .i64 a10)))) :: tS1) : Tab)) Y) (g49 k) 49 (loopAt Tryz.f49 0) ((l49_0.toT σ).enc a s) (fun ex st' => l49_0.next (cfgOf Tryz.prog (tabsS1 gl) (((49, mkE d49 (n49 k) (fun a10 => .one (.val (.int .i64 a10)))) :: tS1) : Tab)) 49 0 (L49_0 (n49 k) n) ex st') := by
  intro n ⟨v16, v17, v18, v19, v20, v21, v22, v23, v24, v25, v26, v27, v28⟩ s
  kernel_rfl
theorem Q49_0 {σ : Type} (hl : LibFits gl) (k : Nat) (hk : TabOk Tryz.prog gl (((49, mkE d49 (n49 k) (fun a10 => .one (.val (.int .i64 a10)))) :: tS1) : Tab)) (Y : Yd σ) (rnd : Bool) : SegOk (cfgOf Tryz.prog (tabsS1 gl) (((49, mkE d49 (n49 k) (fun a10 => .one (.val (.int .i64 a10)))) :: tS1) : Tab)) (evFn (cfgOf Tryz.prog (tabsS1 gl) (((49, mkE d49 (n49 k) (fun a10 => .one (.val (.int .i64 a10)))) :: tS1) : Tab)) 9) 49 rnd Y (l49_0.seg σ (L49_0 (n49 k) 1000000000000)) (.block 0 (.loop (loopAt Tryz.f49 0))) :=
  told_loop hk k49_0 (by kernel_rfl) (by kernel_rfl) (fun _ _ => rfl) (segs_no (by kernel_rfl)) (E49_0 k Y) (hr := by kernel_rfl)
theorem E49_2 {σ : Type} (k : Nat) (Y : Yd σ) : ∀ n a (s : σ), L49_2 (n49 k) (n + 1) a s = evK (cfgOf Tryz.prog (tabsS1 gl) (((49, mkE d49 (n49 k) (fun a10 => .one (.val (.int .i64 a10)))) :: tS1) : Tab)) (toldOf (((49, mkE d49 (n49 k) (fun a10 => .one (.val (.int .i64 a10)))) :: tS1) : Tab)) Y (inlN (cfgOf Tryz.prog (tabsS1 gl) (((49, mkE d49 (n49 k) (fun a10 => .one (.val (.int .i64 a10)))) :: tS1) : Tab)) (toldOf (((49, mkE d49 (n49 k) (fun a10 => .one (.val (.int .i64 a10)))) :: tS1) : Tab)) Y) (g49 k) 49 (loopAt Tryz.f49 2) ((l49_2.toT σ).enc a s) (fun ex st' => l49_2.next (cfgOf Tryz.prog (tabsS1 gl) (((49, mkE d49 (n49 k) (fun a10 => .one (.val (.int .i64 a10)))) :: tS1) : Tab)) 49 2 (L49_2 (n49 k) n) ex st') := by
  intro n ⟨v79, v80, v81, v82, v83, v84, v85, v86, v87, v88, v89, v90, v91, k92⟩ s
  kernel_rfl
theorem Q49_2 {σ : Type} (hl : LibFits gl) (k : Nat) (hk : TabOk Tryz.prog gl (((49, mkE d49 (n49 k) (fun a10 => .one (.val (.int .i64 a10)))) :: tS1) : Tab)) (Y : Yd σ) (rnd : Bool) : SegOk (cfgOf Tryz.prog (tabsS1 gl) (((49, mkE d49 (n49 k) (fun a10 => .one (.val (.int .i64 a10)))) :: tS1) : Tab)) (evFn (cfgOf Tryz.prog (tabsS1 gl) (((49, mkE d49 (n49 k) (fun a10 => .one (.val (.int .i64 a10)))) :: tS1) : Tab)) 9) 49 rnd Y (l49_2.seg σ (L49_2 (n49 k) 1000000000000)) (.block 2 (.loop (loopAt Tryz.f49 2))) :=
  told_loop hk k49_2 (by kernel_rfl) (by kernel_rfl) (fun _ _ => rfl) (segs_no (by kernel_rfl)) (E49_2 k Y) (hr := by kernel_rfl)
theorem N49 : ∀ k a, n49 (k + 1) a = bodyK (cfgOf Tryz.prog (tabsS1 gl) (((49, mkE d49 (n49 k) (fun a10 => .one (.val (.int .i64 a10)))) :: tS1) : Tab)) (toldOf (((49, mkE d49 (n49 k) (fun a10 => .one (.val (.int .i64 a10)))) :: tS1) : Tab)) noY (inlN (cfgOf Tryz.prog (tabsS1 gl) (((49, mkE d49 (n49 k) (fun a10 => .one (.val (.int .i64 a10)))) :: tS1) : Tab)) (toldOf (((49, mkE d49 (n49 k) (fun a10 => .one (.val (.int .i64 a10)))) :: tS1) : Tab)) noY) (g49 k) 49 Tryz.f49 (((fun (a0, a1, a2, a3, a4, a5, a6, a7, a8, a9) => [.agg [.val (.int .i64 a0), .val (.int .i64 a1), .val (.int .i64 a2), .val (.string a3), .slice a4], .agg [.val (.int .i64 a5), .val (.int .i64 a6), .val (.int .i64 a7), .val (.string a8), .slice a9]] : (Int × Int × Int × ByteArray × List D × Int × Int × Int × ByteArray × List D) → List D) a).map .d) [] [] () (fun v _ _ _ => r49 v) := by
  intro k a
  obtain ⟨a0, a1, a2, a3, a4, a5, a6, a7, a8, a9⟩ := a
  kernel_rfl
noncomputable def t49 : Tab := (49, e49) :: tS1
theorem ok49 (hl : LibFits gl) : TabOk Tryz.prog gl t49 :=
  told_rec (t := tabsS1 gl) (okS1 hl) mixed (oddOkS1 hl) Tryz.func49 (by kernel_rfl) (nat := n49) (seg := fun k => g49 k) (by kernel_rfl) (fun k hk => (fun p hp e he => by
    have hq : segsOf (σ := Unit) (g49 k (σ := Unit)) (bodyOf Tryz.f49) = [(0, .loop (loopAt Tryz.f49 0)), (2, .loop (loopAt Tryz.f49 2))] := by kernel_rfl
    rw [hq] at hp
    simp only [List.mem_cons, List.not_mem_nil, or_false] at hp
    rcases hp with rfl | rfl
    · cases he; exact Q49_0 hl k hk _ _
    · cases he; exact Q49_2 hl k hk _ _
    ))
    (args := fun (a0, a1, a2, a3, a4, a5, a6, a7, a8, a9) => [.agg [.val (.int .i64 a0), .val (.int .i64 a1), .val (.int .i64 a2), .val (.string a3), .slice a4], .agg [.val (.int .i64 a5), .val (.int .i64 a6), .val (.int .i64 a7), .val (.string a8), .slice a9]]) (res := r49)
    (fun ds a h => by
      unfold d49 at h
      split at h
      · cases h; rfl
      · cases h)
    (fun v r h => by
      unfold r49 at h
      split at h
      · rename_i hv; cases h; exact hv
      · cases h)
    (fun _ => rfl) N49 64
def d138 (ds : List D) : Option (ByteArray × Int) := match ds with
  | [.val (.string a0), .val (.int .i64 a1)] => some (a0, a1)
  | _ => none
def r138 (v : AV) : Option (Int × Int × Int) := match toPR v with
  | some (.one (.agg [.val (.int .i64 a2), .val (.int .i64 a3), .val (.int .i64 a4)])) => some (a2, a3, a4)
  | _ => none
def n138 : ByteArray × Int → Option (Int × Int × Int) := fun (a0, a1) => ((sidx a0 a1).bind fun c5 => (bif (decide ((c5.toNat : Int) < 128)) then (some ((w64 (c5.toNat : Int)), a1, 1)) else (bif (bif (decide ((c5.toNat : Int) ≥ 194)) then (decide ((c5.toNat : Int) ≤ 223)) else false) then ((n157 (a0, (w64 (a1 + 1)), 128, 191)).bind fun y6 => (bif y6 then ((sidx a0 (w64 (a1 + 1))).bind fun c7 => (some ((bOr .i64 (w64 ((w64 (bAnd .u8 (c5.toNat : Int) 31)) * 2 ^ (min (Int.toNat 6) 64))) (w64 (bAnd .u8 (c7.toNat : Int) 63))), a1, 2))) else (some ((-1), a1, 1)))) else (bif (bif (decide ((c5.toNat : Int) ≥ 224)) then (decide ((c5.toNat : Int) ≤ 239)) else false) then (bif ((c5.toNat : Int) == 224) then (bif ((c5.toNat : Int) == 237) then ((n157 (a0, (w64 (a1 + 1)), 160, 159)).bind fun y8 => (bif y8 then ((n157 (a0, (w64 (a1 + 2)), 128, 191)).bind fun y9 => (bif y9 then ((sidx a0 (w64 (a1 + 1))).bind fun c10 => ((sidx a0 (w64 (a1 + 2))).bind fun c11 => (some ((bOr .i64 (bOr .i64 (w64 ((w64 (bAnd .u8 (c5.toNat : Int) 15)) * 2 ^ (min (Int.toNat 12) 64))) (w64 ((w64 (bAnd .u8 (c10.toNat : Int) 63)) * 2 ^ (min (Int.toNat 6) 64)))) (w64 (bAnd .u8 (c11.toNat : Int) 63))), a1, 3)))) else (some ((-1), a1, 1)))) else (some ((-1), a1, 1)))) else ((n157 (a0, (w64 (a1 + 1)), 160, 191)).bind fun y12 => (bif y12 then ((n157 (a0, (w64 (a1 + 2)), 128, 191)).bind fun y13 => (bif y13 then ((sidx a0 (w64 (a1 + 1))).bind fun c14 => ((sidx a0 (w64 (a1 + 2))).bind fun c15 => (some ((bOr .i64 (bOr .i64 (w64 ((w64 (bAnd .u8 (c5.toNat : Int) 15)) * 2 ^ (min (Int.toNat 12) 64))) (w64 ((w64 (bAnd .u8 (c14.toNat : Int) 63)) * 2 ^ (min (Int.toNat 6) 64)))) (w64 (bAnd .u8 (c15.toNat : Int) 63))), a1, 3)))) else (some ((-1), a1, 1)))) else (some ((-1), a1, 1))))) else (bif ((c5.toNat : Int) == 237) then ((n157 (a0, (w64 (a1 + 1)), 128, 159)).bind fun y16 => (bif y16 then ((n157 (a0, (w64 (a1 + 2)), 128, 191)).bind fun y17 => (bif y17 then ((sidx a0 (w64 (a1 + 1))).bind fun c18 => ((sidx a0 (w64 (a1 + 2))).bind fun c19 => (some ((bOr .i64 (bOr .i64 (w64 ((w64 (bAnd .u8 (c5.toNat : Int) 15)) * 2 ^ (min (Int.toNat 12) 64))) (w64 ((w64 (bAnd .u8 (c18.toNat : Int) 63)) * 2 ^ (min (Int.toNat 6) 64)))) (w64 (bAnd .u8 (c19.toNat : Int) 63))), a1, 3)))) else (some ((-1), a1, 1)))) else (some ((-1), a1, 1)))) else ((n157 (a0, (w64 (a1 + 1)), 128, 191)).bind fun y20 => (bif y20 then ((n157 (a0, (w64 (a1 + 2)), 128, 191)).bind fun y21 => (bif y21 then ((sidx a0 (w64 (a1 + 1))).bind fun c22 => ((sidx a0 (w64 (a1 + 2))).bind fun c23 => (some ((bOr .i64 (bOr .i64 (w64 ((w64 (bAnd .u8 (c5.toNat : Int) 15)) * 2 ^ (min (Int.toNat 12) 64))) (w64 ((w64 (bAnd .u8 (c22.toNat : Int) 63)) * 2 ^ (min (Int.toNat 6) 64)))) (w64 (bAnd .u8 (c23.toNat : Int) 63))), a1, 3)))) else (some ((-1), a1, 1)))) else (some ((-1), a1, 1)))))) else (bif (bif (decide ((c5.toNat : Int) ≥ 240)) then (decide ((c5.toNat : Int) ≤ 244)) else false) then (bif ((c5.toNat : Int) == 240) then (bif ((c5.toNat : Int) == 244) then ((n157 (a0, (w64 (a1 + 1)), 144, 143)).bind fun y24 => (bif y24 then ((n157 (a0, (w64 (a1 + 2)), 128, 191)).bind fun y25 => (bif y25 then ((n157 (a0, (w64 (a1 + 3)), 128, 191)).bind fun y26 => (bif y26 then ((sidx a0 (w64 (a1 + 1))).bind fun c27 => ((sidx a0 (w64 (a1 + 2))).bind fun c28 => ((sidx a0 (w64 (a1 + 3))).bind fun c29 => (some ((bOr .i64 (bOr .i64 (bOr .i64 (w64 ((w64 (bAnd .u8 (c5.toNat : Int) 7)) * 2 ^ (min (Int.toNat 18) 64))) (w64 ((w64 (bAnd .u8 (c27.toNat : Int) 63)) * 2 ^ (min (Int.toNat 12) 64)))) (w64 ((w64 (bAnd .u8 (c28.toNat : Int) 63)) * 2 ^ (min (Int.toNat 6) 64)))) (w64 (bAnd .u8 (c29.toNat : Int) 63))), a1, 4))))) else (some ((-1), a1, 1)))) else (some ((-1), a1, 1)))) else (some ((-1), a1, 1)))) else ((n157 (a0, (w64 (a1 + 1)), 144, 191)).bind fun y30 => (bif y30 then ((n157 (a0, (w64 (a1 + 2)), 128, 191)).bind fun y31 => (bif y31 then ((n157 (a0, (w64 (a1 + 3)), 128, 191)).bind fun y32 => (bif y32 then ((sidx a0 (w64 (a1 + 1))).bind fun c33 => ((sidx a0 (w64 (a1 + 2))).bind fun c34 => ((sidx a0 (w64 (a1 + 3))).bind fun c35 => (some ((bOr .i64 (bOr .i64 (bOr .i64 (w64 ((w64 (bAnd .u8 (c5.toNat : Int) 7)) * 2 ^ (min (Int.toNat 18) 64))) (w64 ((w64 (bAnd .u8 (c33.toNat : Int) 63)) * 2 ^ (min (Int.toNat 12) 64)))) (w64 ((w64 (bAnd .u8 (c34.toNat : Int) 63)) * 2 ^ (min (Int.toNat 6) 64)))) (w64 (bAnd .u8 (c35.toNat : Int) 63))), a1, 4))))) else (some ((-1), a1, 1)))) else (some ((-1), a1, 1)))) else (some ((-1), a1, 1))))) else (bif ((c5.toNat : Int) == 244) then ((n157 (a0, (w64 (a1 + 1)), 128, 143)).bind fun y36 => (bif y36 then ((n157 (a0, (w64 (a1 + 2)), 128, 191)).bind fun y37 => (bif y37 then ((n157 (a0, (w64 (a1 + 3)), 128, 191)).bind fun y38 => (bif y38 then ((sidx a0 (w64 (a1 + 1))).bind fun c39 => ((sidx a0 (w64 (a1 + 2))).bind fun c40 => ((sidx a0 (w64 (a1 + 3))).bind fun c41 => (some ((bOr .i64 (bOr .i64 (bOr .i64 (w64 ((w64 (bAnd .u8 (c5.toNat : Int) 7)) * 2 ^ (min (Int.toNat 18) 64))) (w64 ((w64 (bAnd .u8 (c39.toNat : Int) 63)) * 2 ^ (min (Int.toNat 12) 64)))) (w64 ((w64 (bAnd .u8 (c40.toNat : Int) 63)) * 2 ^ (min (Int.toNat 6) 64)))) (w64 (bAnd .u8 (c41.toNat : Int) 63))), a1, 4))))) else (some ((-1), a1, 1)))) else (some ((-1), a1, 1)))) else (some ((-1), a1, 1)))) else ((n157 (a0, (w64 (a1 + 1)), 128, 191)).bind fun y42 => (bif y42 then ((n157 (a0, (w64 (a1 + 2)), 128, 191)).bind fun y43 => (bif y43 then ((n157 (a0, (w64 (a1 + 3)), 128, 191)).bind fun y44 => (bif y44 then ((sidx a0 (w64 (a1 + 1))).bind fun c45 => ((sidx a0 (w64 (a1 + 2))).bind fun c46 => ((sidx a0 (w64 (a1 + 3))).bind fun c47 => (some ((bOr .i64 (bOr .i64 (bOr .i64 (w64 ((w64 (bAnd .u8 (c5.toNat : Int) 7)) * 2 ^ (min (Int.toNat 18) 64))) (w64 ((w64 (bAnd .u8 (c45.toNat : Int) 63)) * 2 ^ (min (Int.toNat 12) 64)))) (w64 ((w64 (bAnd .u8 (c46.toNat : Int) 63)) * 2 ^ (min (Int.toNat 6) 64)))) (w64 (bAnd .u8 (c47.toNat : Int) 63))), a1, 4))))) else (some ((-1), a1, 1)))) else (some ((-1), a1, 1)))) else (some ((-1), a1, 1)))))) else (some ((-1), a1, 1)))))))
def e138 : PureE := mkE d138 n138 (fun (a2, a3, a4) => .one (.agg [.val (.int .i64 a2), .val (.int .i64 a3), .val (.int .i64 a4)]))
def g138 {σ : Type} : Nat → Option (SegE σ)
  | _ => none
theorem N138 : ∀ a, n138 a = bodyK (cfgOf Tryz.prog (tabsS1 gl) tS1) (toldOf tS1) noY (inlN (cfgOf Tryz.prog (tabsS1 gl) tS1) (toldOf tS1) noY) g138 138 Tryz.f138 (((fun (a0, a1) => [.val (.string a0), .val (.int .i64 a1)] : (ByteArray × Int) → List D) a).map .d) [] [] () (fun v _ _ _ => r138 v) := by
  intro a
  obtain ⟨a0, a1⟩ := a
  kernel_rfl
noncomputable def t138 : Tab := (138, e138) :: tS1
theorem ok138 (hl : LibFits gl) : TabOk Tryz.prog gl t138 :=
  told_fn (okS1 hl) mixed (oddOkS1 hl) Tryz.func138 (by kernel_rfl) (by kernel_rfl) (by kernel_rfl) (segs_no (by kernel_rfl))
    (args := fun (a0, a1) => [.val (.string a0), .val (.int .i64 a1)]) (res := r138)
    (fun ds a h => by
      unfold d138 at h
      split at h
      · cases h; rfl
      · cases h)
    (fun v r h => by
      unfold r138 at h
      split at h
      · rename_i hv; cases h; exact hv
      · cases h)
    N138
def d128 (ds : List D) : Option (Int) := match ds with
  | [.val (.int .i64 a0)] => some a0
  | _ => none
def r128 (v : AV) : Option (Bool) := match toPR v with
  | some (.one (.val (.bool a1))) => some a1
  | _ => none
def n128 : Int → Option (Bool) := fun a0 => ((n127 a0).bind fun y2 => (bif y2 then (some true) else (bif (decide (a0 ≥ 48)) then (some (bif (decide (a0 ≤ 57)) then true else (a0 == 39))) else (some (a0 == 39)))))
def e128 : PureE := mkE d128 n128 (fun a1 => .one (.val (.bool a1)))
def g128 {σ : Type} : Nat → Option (SegE σ)
  | _ => none
theorem N128 : ∀ a, n128 a = bodyK (cfgOf Tryz.prog (tabsS1 gl) tS1) (toldOf tS1) noY (inlN (cfgOf Tryz.prog (tabsS1 gl) tS1) (toldOf tS1) noY) g128 128 Tryz.f128 (((fun a0 => [.val (.int .i64 a0)] : (Int) → List D) a).map .d) [] [] () (fun v _ _ _ => r128 v) := by
  intro a0
  kernel_rfl
noncomputable def t128 : Tab := (128, e128) :: tS1
theorem ok128 (hl : LibFits gl) : TabOk Tryz.prog gl t128 :=
  told_fn (okS1 hl) mixed (oddOkS1 hl) Tryz.func128 (by kernel_rfl) (by kernel_rfl) (by kernel_rfl) (segs_no (by kernel_rfl))
    (args := fun a0 => [.val (.int .i64 a0)]) (res := r128)
    (fun ds a h => by
      unfold d128 at h
      split at h
      · cases h; rfl
      · cases h)
    (fun v r h => by
      unfold r128 at h
      split at h
      · rename_i hv; cases h; exact hv
      · cases h)
    N128
def d125 (ds : List D) : Option (Int) := match ds with
  | [.val (.int .i32 a0)] => some a0
  | _ => none
def r125 (v : AV) : Option (Bool) := match toPR v with
  | some (.one (.val (.bool a1))) => some a1
  | _ => none
def n125 : Int → Option (Bool) := fun a0 => ((n137 ()).bind fun y2 => (bif (bif (decide (a0 ≥ y2.1)) then (decide (a0 ≤ y2.2.1)) else false) then (some true) else (bif (bif (decide (a0 ≥ y2.2.2.1)) then (decide (a0 ≤ y2.2.2.2.1)) else false) then (some true) else (bif (bif (decide (a0 ≥ y2.2.2.2.2.1)) then (decide (a0 ≤ y2.2.2.2.2.2.1)) else false) then (some true) else (bif (bif (decide (a0 ≥ y2.2.2.2.2.2.2.1)) then (decide (a0 ≤ y2.2.2.2.2.2.2.2.1)) else false) then (some true) else (bif (bif (decide (a0 ≥ y2.2.2.2.2.2.2.2.2.1)) then (decide (a0 ≤ y2.2.2.2.2.2.2.2.2.2.1)) else false) then (some true) else (bif (bif (decide (a0 ≥ y2.2.2.2.2.2.2.2.2.2.2.1)) then (decide (a0 ≤ y2.2.2.2.2.2.2.2.2.2.2.2.1)) else false) then (some true) else (bif (bif (decide (a0 ≥ y2.2.2.2.2.2.2.2.2.2.2.2.2.1)) then (decide (a0 ≤ y2.2.2.2.2.2.2.2.2.2.2.2.2.2.1)) else false) then (some true) else (bif (bif (decide (a0 ≥ y2.2.2.2.2.2.2.2.2.2.2.2.2.2.2.1)) then (decide (a0 ≤ y2.2.2.2.2.2.2.2.2.2.2.2.2.2.2.2)) else false) then (some true) else (some false))))))))))
def e125 : PureE := mkE d125 n125 (fun a1 => .one (.val (.bool a1)))
def g125 {σ : Type} : Nat → Option (SegE σ)
  | _ => none
theorem N125 : ∀ a, n125 a = bodyK (cfgOf Tryz.prog (tabsS1 gl) tS1) (toldOf tS1) noY (inlN (cfgOf Tryz.prog (tabsS1 gl) tS1) (toldOf tS1) noY) g125 125 Tryz.f125 (((fun a0 => [.val (.int .i32 a0)] : (Int) → List D) a).map .d) [] [] () (fun v _ _ _ => r125 v) := by
  intro a0
  kernel_rfl
noncomputable def t125 : Tab := (125, e125) :: tS1
theorem ok125 (hl : LibFits gl) : TabOk Tryz.prog gl t125 :=
  told_fn (okS1 hl) mixed (oddOkS1 hl) Tryz.func125 (by kernel_rfl) (by kernel_rfl) (by kernel_rfl) (segs_no (by kernel_rfl))
    (args := fun a0 => [.val (.int .i32 a0)]) (res := r125)
    (fun ds a h => by
      unfold d125 at h
      split at h
      · cases h; rfl
      · cases h)
    (fun v r h => by
      unfold r125 at h
      split at h
      · rename_i hv; cases h; exact hv
      · cases h)
    N125
abbrev A50_0 := Int × Int × Int × Int × ByteArray × List D × Int × Int × Int × ByteArray × List D
inductive O50_0 where
  | x0 (o50 : Int) (o51 : Int) (o52 : Int) (o53 : Int) (o54 : ByteArray) (o55 : List D) (o56 : Int) (o57 : Int) (o58 : Int) (o59 : ByteArray) (o60 : List D)
  | x1 (o61 : Int) (o62 : Int) (o63 : Int) (o64 : ByteArray) (o65 : List D) (o66 : Int) (o67 : Int) (o68 : Int) (o69 : ByteArray) (o70 : List D)
def l50_0 : LoopS A50_0 O50_0 where
  n := 114
  ks := [2, 3, 5]
  kso := [4]
  m := 2
  mt := 0
  decV := fun vs bs ts => match vs, bs, ts with
    | [.ptr 0 0, .ptr 1 0, .d (.val (.int .i64 v16))], [.cells none [.d (.val (.int .i64 v17)), .d (.val (.int .i64 v18)), .d (.val (.int .i64 v19)), .d (.val (.string v20)), .d (.slice v21)], .cells none [.d (.val (.int .i64 v22)), .d (.val (.int .i64 v23)), .d (.val (.int .i64 v24)), .d (.val (.string v25)), .d (.slice v26)]], [] => some (v16, v17, v18, v19, v20, v21, v22, v23, v24, v25, v26)
    | _, _, _ => none
  encV := fun (v16, v17, v18, v19, v20, v21, v22, v23, v24, v25, v26) => [.ptr 0 0, .ptr 1 0, .d (.val (.int .i64 v16))]
  encB := fun (v16, v17, v18, v19, v20, v21, v22, v23, v24, v25, v26) => [.cells none [.d (.val (.int .i64 v17)), .d (.val (.int .i64 v18)), .d (.val (.int .i64 v19)), .d (.val (.string v20)), .d (.slice v21)], .cells none [.d (.val (.int .i64 v22)), .d (.val (.int .i64 v23)), .d (.val (.int .i64 v24)), .d (.val (.string v25)), .d (.slice v26)]]
  tk := fun _ => []
  decO := fun ex vs bs ts => match ex, vs, bs, ts with
    | .ret, [.d (.val (.int .i64 o50))], [.cells none [.d (.val (.int .i64 o51)), .d (.val (.int .i64 o52)), .d (.val (.int .i64 o53)), .d (.val (.string o54)), .d (.slice o55)], .cells none [.d (.val (.int .i64 o56)), .d (.val (.int .i64 o57)), .d (.val (.int .i64 o58)), .d (.val (.string o59)), .d (.slice o60)]], [] => some (.x0 o50 o51 o52 o53 o54 o55 o56 o57 o58 o59 o60)
    | .normal, [.undef], [.cells none [.d (.val (.int .i64 o61)), .d (.val (.int .i64 o62)), .d (.val (.int .i64 o63)), .d (.val (.string o64)), .d (.slice o65)], .cells none [.d (.val (.int .i64 o66)), .d (.val (.int .i64 o67)), .d (.val (.int .i64 o68)), .d (.val (.string o69)), .d (.slice o70)]], [] => some (.x1 o61 o62 o63 o64 o65 o66 o67 o68 o69 o70)
    | _, _, _, _ => none
  exO := fun x => match x with
    | .x0 o50 o51 o52 o53 o54 o55 o56 o57 o58 o59 o60 => .ret
    | .x1 o61 o62 o63 o64 o65 o66 o67 o68 o69 o70 => .normal
  outV := fun x => match x with
    | .x0 o50 o51 o52 o53 o54 o55 o56 o57 o58 o59 o60 => [.d (.val (.int .i64 o50))]
    | .x1 o61 o62 o63 o64 o65 o66 o67 o68 o69 o70 => [.undef]
  outB := fun x => match x with
    | .x0 o50 o51 o52 o53 o54 o55 o56 o57 o58 o59 o60 => [.cells none [.d (.val (.int .i64 o51)), .d (.val (.int .i64 o52)), .d (.val (.int .i64 o53)), .d (.val (.string o54)), .d (.slice o55)], .cells none [.d (.val (.int .i64 o56)), .d (.val (.int .i64 o57)), .d (.val (.int .i64 o58)), .d (.val (.string o59)), .d (.slice o60)]]
    | .x1 o61 o62 o63 o64 o65 o66 o67 o68 o69 o70 => [.cells none [.d (.val (.int .i64 o61)), .d (.val (.int .i64 o62)), .d (.val (.int .i64 o63)), .d (.val (.string o64)), .d (.slice o65)], .cells none [.d (.val (.int .i64 o66)), .d (.val (.int .i64 o67)), .d (.val (.int .i64 o68)), .d (.val (.string o69)), .d (.slice o70)]]
  tkO := fun x => match x with
    | .x0 o50 o51 o52 o53 o54 o55 o56 o57 o58 o59 o60 => []
    | .x1 o61 o62 o63 o64 o65 o66 o67 o68 o69 o70 => []
  elim := fun x k => match x with
    | .x0 o50 o51 o52 o53 o54 o55 o56 o57 o58 o59 o60 => k .ret [.d (.val (.int .i64 o50))] [.cells none [.d (.val (.int .i64 o51)), .d (.val (.int .i64 o52)), .d (.val (.int .i64 o53)), .d (.val (.string o54)), .d (.slice o55)], .cells none [.d (.val (.int .i64 o56)), .d (.val (.int .i64 o57)), .d (.val (.int .i64 o58)), .d (.val (.string o59)), .d (.slice o60)]] []
    | .x1 o61 o62 o63 o64 o65 o66 o67 o68 o69 o70 => k .normal [.undef] [.cells none [.d (.val (.int .i64 o61)), .d (.val (.int .i64 o62)), .d (.val (.int .i64 o63)), .d (.val (.string o64)), .d (.slice o65)], .cells none [.d (.val (.int .i64 o66)), .d (.val (.int .i64 o67)), .d (.val (.int .i64 o68)), .d (.val (.string o69)), .d (.slice o70)]] []
theorem k50_0 : l50_0.Ok where
  ok1 := by kernel_rfl
  ok2 := by kernel_rfl
  dec := by
    intro vs bs ts a h
    simp only [l50_0] at h ⊢
    split at h
    · cases h; exact ⟨rfl, rfl⟩
    · cases h
  out := by
    intro ex vs bs ts o h
    simp only [l50_0] at h ⊢
    split at h
    · cases h; exact ⟨rfl, rfl, rfl⟩
    · cases h; exact ⟨rfl, rfl, rfl⟩
    · cases h
  len := fun _ => ⟨rfl, rfl⟩
  elim := fun β o k => by cases o <;> rfl
def L50_0 {σ : Type} (F : Int × Int × Int × ByteArray × List D × Int × Int × Int × ByteArray × List D → Option (Int)) : Nat → A50_0 → σ → Option (O50_0 × σ)
  | 0, _, _ => none
  | n+1, (v16, v17, v18, v19, v20, v21, v22, v23, v24, v25, v26), s => (bif (decide (v16 < ((v21.length : Nat) : Int))) then ((lidx v21 v16).bind fun d27 => ask (d27.cells.length = 5) ((cellAt 0 d27).bind fun x28 => (asInt .i64 x28).bind fun x29 => ((cellAt 1 d27).bind fun x30 => (asInt .i64 x30).bind fun x31 => ((cellAt 2 d27).bind fun x32 => (asInt .i64 x32).bind fun x33 => ((cellAt 3 d27).bind fun x34 => (asStr x34).bind fun x35 => ((cellAt 4 d27).bind fun x36 => (asRow x36).bind fun x37 => ((lidx v26 v16).bind fun d38 => ask (d38.cells.length = 5) ((cellAt 0 d38).bind fun x39 => (asInt .i64 x39).bind fun x40 => ((cellAt 1 d38).bind fun x41 => (asInt .i64 x41).bind fun x42 => ((cellAt 2 d38).bind fun x43 => (asInt .i64 x43).bind fun x44 => ((cellAt 3 d38).bind fun x45 => (asStr x45).bind fun x46 => ((cellAt 4 d38).bind fun x47 => (asRow x47).bind fun x48 => ((F (x29, x31, x33, x35, x37, x40, x42, x44, x46, x48)).bind fun y49 => (bif (y49 != 0) then (some (O50_0.x0 y49 v17 v18 v19 v20 v21 v22 v23 v24 v25 v26, s)) else (L50_0 F n ((w64 (v16 + 1)), v17, v18, v19, v20, v21, v22, v23, v24, v25, v26) s))))))))))))))) else (some (O50_0.x1 v17 v18 v19 v20 v21 v22 v23 v24 v25 v26, s)))
def d50 (ds : List D) : Option (Int × Int × Int × ByteArray × List D × Int × Int × Int × ByteArray × List D) := match ds with
  | [.agg [.val (.int .i64 a0), .val (.int .i64 a1), .val (.int .i64 a2), .val (.string a3), .slice a4], .agg [.val (.int .i64 a5), .val (.int .i64 a6), .val (.int .i64 a7), .val (.string a8), .slice a9]] => some (a0, a1, a2, a3, a4, a5, a6, a7, a8, a9)
  | _ => none
def r50 (v : AV) : Option (Int) := match toPR v with
  | some (.one (.val (.int .i64 a10))) => some a10
  | _ => none
def n50 : Nat → Int × Int × Int × ByteArray × List D × Int × Int × Int × ByteArray × List D → Option (Int)
  | 0, _ => none
  | k + 1, (a0, a1, a2, a3, a4, a5, a6, a7, a8, a9) => (bif (a0 != a5) then ((n51 ((decide (a0 < a5)), (decide (a0 > a5)))).bind fun y11 => (some y11)) else (bif (a1 != a6) then ((n51 ((decide (a1 < a6)), (decide (a1 > a6)))).bind fun y12 => (some y12)) else (bif (a2 != a7) then ((n51 ((decide (a2 < a7)), (decide (a2 > a7)))).bind fun y13 => (some y13)) else (bif (!(sEq a3 a8)) then ((n51 ((sLt a3 a8), (!(sLt a3 a8 || sEq a3 a8)))).bind fun y14 => (some y14)) else (bif (((a4.length : Nat) : Int) != ((a9.length : Nat) : Int)) then ((n51 ((decide (((a4.length : Nat) : Int) < ((a9.length : Nat) : Int))), (decide (((a4.length : Nat) : Int) > ((a9.length : Nat) : Int))))).bind fun y15 => (some y15)) else ((L50_0 (n50 k) 1000000000000 (0, a0, a1, a2, a3, a4, a5, a6, a7, a8, a9) ()).bind fun p71 => match p71.1 with | .x0 z72 z73 z74 z75 z76 z77 z78 z79 z80 z81 z82 => (some z72) | .x1 z83 z84 z85 z86 z87 z88 z89 z90 z91 z92 => (some 0)))))))
def e50 : PureE := mkE d50 (n50 64) (fun a10 => .one (.val (.int .i64 a10)))
def g50 (k : Nat) {σ : Type} : Nat → Option (SegE σ)
  | 0 => some (l50_0.seg σ (L50_0 (n50 k) 1000000000000))
  | _ => none
theorem E50_0 {σ : Type} (k : Nat) (Y : Yd σ) : ∀ n a (s : σ), L50_0 (n50 k) (n + 1) a s = evK (cfgOf Tryz.prog (tabsS1 gl) (((50, mkE d50 (n50 k) (fun a10 => .one (.val (.int .i64 a10)))) :: tS1) : Tab)) (toldOf (((50, mkE d50 (n50 k) (fun a10 => .one (.val (.int .i64 a10)))) :: tS1) : Tab)) Y (inlN (cfgOf Tryz.prog (tabsS1 gl) (((50, mkE d50 (n50 k) (fun a10 => .one (.val (.int .i64 a10)))) :: tS1) : Tab)) (toldOf (((50, mkE d50 (n50 k) (fun a10 => .one (.val (.int .i64 a10)))) :: tS1) : Tab)) Y) (g50 k) 50 (loopAt Tryz.f50 0) ((l50_0.toT σ).enc a s) (fun ex st' => l50_0.next (cfgOf Tryz.prog (tabsS1 gl) (((50, mkE d50 (n50 k) (fun a10 => .one (.val (.int .i64 a10)))) :: tS1) : Tab)) 50 0 (L50_0 (n50 k) n) ex st') := by
  intro n ⟨v16, v17, v18, v19, v20, v21, v22, v23, v24, v25, v26⟩ s
  kernel_rfl
theorem Q50_0 {σ : Type} (hl : LibFits gl) (k : Nat) (hk : TabOk Tryz.prog gl (((50, mkE d50 (n50 k) (fun a10 => .one (.val (.int .i64 a10)))) :: tS1) : Tab)) (Y : Yd σ) (rnd : Bool) : SegOk (cfgOf Tryz.prog (tabsS1 gl) (((50, mkE d50 (n50 k) (fun a10 => .one (.val (.int .i64 a10)))) :: tS1) : Tab)) (evFn (cfgOf Tryz.prog (tabsS1 gl) (((50, mkE d50 (n50 k) (fun a10 => .one (.val (.int .i64 a10)))) :: tS1) : Tab)) 9) 50 rnd Y (l50_0.seg σ (L50_0 (n50 k) 1000000000000)) (.block 0 (.loop (loopAt Tryz.f50 0))) :=
  told_loop hk k50_0 (by kernel_rfl) (by kernel_rfl) (fun _ _ => rfl) (segs_no (by kernel_rfl)) (E50_0 k Y) (hr := by kernel_rfl)
theorem N50 : ∀ k a, n50 (k + 1) a = bodyK (cfgOf Tryz.prog (tabsS1 gl) (((50, mkE d50 (n50 k) (fun a10 => .one (.val (.int .i64 a10)))) :: tS1) : Tab)) (toldOf (((50, mkE d50 (n50 k) (fun a10 => .one (.val (.int .i64 a10)))) :: tS1) : Tab)) noY (inlN (cfgOf Tryz.prog (tabsS1 gl) (((50, mkE d50 (n50 k) (fun a10 => .one (.val (.int .i64 a10)))) :: tS1) : Tab)) (toldOf (((50, mkE d50 (n50 k) (fun a10 => .one (.val (.int .i64 a10)))) :: tS1) : Tab)) noY) (g50 k) 50 Tryz.f50 (((fun (a0, a1, a2, a3, a4, a5, a6, a7, a8, a9) => [.agg [.val (.int .i64 a0), .val (.int .i64 a1), .val (.int .i64 a2), .val (.string a3), .slice a4], .agg [.val (.int .i64 a5), .val (.int .i64 a6), .val (.int .i64 a7), .val (.string a8), .slice a9]] : (Int × Int × Int × ByteArray × List D × Int × Int × Int × ByteArray × List D) → List D) a).map .d) [] [] () (fun v _ _ _ => r50 v) := by
  intro k a
  obtain ⟨a0, a1, a2, a3, a4, a5, a6, a7, a8, a9⟩ := a
  kernel_rfl
noncomputable def t50 : Tab := (50, e50) :: tS1
theorem ok50 (hl : LibFits gl) : TabOk Tryz.prog gl t50 :=
  told_rec (t := tabsS1 gl) (okS1 hl) mixed (oddOkS1 hl) Tryz.func50 (by kernel_rfl) (nat := n50) (seg := fun k => g50 k) (by kernel_rfl) (fun k hk => (fun p hp e he => by
    have hq : segsOf (σ := Unit) (g50 k (σ := Unit)) (bodyOf Tryz.f50) = [(0, .loop (loopAt Tryz.f50 0))] := by kernel_rfl
    rw [hq] at hp
    simp only [List.mem_cons, List.not_mem_nil, or_false] at hp
    subst hp
    cases he
    exact Q50_0 hl k hk _ _))
    (args := fun (a0, a1, a2, a3, a4, a5, a6, a7, a8, a9) => [.agg [.val (.int .i64 a0), .val (.int .i64 a1), .val (.int .i64 a2), .val (.string a3), .slice a4], .agg [.val (.int .i64 a5), .val (.int .i64 a6), .val (.int .i64 a7), .val (.string a8), .slice a9]]) (res := r50)
    (fun ds a h => by
      unfold d50 at h
      split at h
      · cases h; rfl
      · cases h)
    (fun v r h => by
      unfold r50 at h
      split at h
      · rename_i hv; cases h; exact hv
      · cases h)
    (fun _ => rfl) N50 64
noncomputable def tS2 : Tab := (43, e43) :: (49, e49) :: (138, e138) :: (128, e128) :: (125, e125) :: (50, e50) :: tS1
theorem okS2 (hl : LibFits gl) : TabOk Tryz.prog gl tS2 :=
  TabOk.cons (TabOk.cons (TabOk.cons (TabOk.cons (TabOk.cons (TabOk.cons (okS1 hl) ((ok50 hl).fair (50, e50) (List.mem_cons_self (l := tS1))) ((ok50 hl).spec (50, e50) (List.mem_cons_self (l := tS1)))) ((ok125 hl).fair (125, e125) (List.mem_cons_self (l := tS1))) ((ok125 hl).spec (125, e125) (List.mem_cons_self (l := tS1)))) ((ok128 hl).fair (128, e128) (List.mem_cons_self (l := tS1))) ((ok128 hl).spec (128, e128) (List.mem_cons_self (l := tS1)))) ((ok138 hl).fair (138, e138) (List.mem_cons_self (l := tS1))) ((ok138 hl).spec (138, e138) (List.mem_cons_self (l := tS1)))) ((ok49 hl).fair (49, e49) (List.mem_cons_self (l := tS1))) ((ok49 hl).spec (49, e49) (List.mem_cons_self (l := tS1)))) ((ok43 hl).fair (43, e43) (List.mem_cons_self (l := tS1))) ((ok43 hl).spec (43, e43) (List.mem_cons_self (l := tS1)))
abbrev A126_0 := ByteArray × List D × Int × Nat
inductive O126_0 where
  | x0 (o7 : List D) (q8 : Nat)
def l126_0 : LoopS A126_0 O126_0 where
  n := 22
  ks := [0, 3, 4]
  kso := [3]
  m := 0
  mt := 2
  decV := fun vs bs ts => match vs, bs, ts with
    | [.d (.val (.string v2)), .osl 1 v3, .d (.val (.int .i64 v4))], [], [k5, _] => some (v2, v3, v4, k5)
    | _, _, _ => none
  encV := fun (v2, v3, v4, k5) => [.d (.val (.string v2)), .osl 1 v3, .d (.val (.int .i64 v4))]
  encB := fun (v2, v3, v4, k5) => []
  tk := fun (v2, v3, v4, k5) => [k5, v3.length]
  decO := fun ex vs bs ts => match ex, vs, bs, ts with
    | .normal, [.osl 1 o7], [], [q8, _] => some (.x0 o7 q8)
    | _, _, _, _ => none
  exO := fun x => match x with
    | .x0 o7 q8 => .normal
  outV := fun x => match x with
    | .x0 o7 q8 => [.osl 1 o7]
  outB := fun x => match x with
    | .x0 o7 q8 => []
  tkO := fun x => match x with
    | .x0 o7 q8 => [q8, o7.length]
  elim := fun x k => match x with
    | .x0 o7 q8 => k .normal [.osl 1 o7] [] [q8, o7.length]
theorem k126_0 : l126_0.Ok where
  ok1 := by kernel_rfl
  ok2 := by kernel_rfl
  dec := by
    intro vs bs ts a h
    simp only [l126_0] at h ⊢
    split at h
    · cases h; exact ⟨rfl, rfl⟩
    · cases h
  out := by
    intro ex vs bs ts o h
    simp only [l126_0] at h ⊢
    split at h
    · cases h; exact ⟨rfl, rfl, rfl⟩
    · cases h
  len := fun _ => ⟨rfl, rfl⟩
  elim := fun β o k => by cases o <;> rfl
def L126_0 {σ : Type} : Nat → A126_0 → σ → Option (O126_0 × σ)
  | 0, _, _ => none
  | n+1, (v2, v3, v4, k5), s => (bif (decide (v4 < (v2.size : Int))) then ((n138 (v2, v4)).bind fun y6 => (ask (addOk v3.length v3 ([.agg [.val (.int .i64 y6.1), .val (.int .i64 y6.2.1), .val (.int .i64 y6.2.2)]] : List D) 3 24) (ask (([k5, (v3.length + ([.agg [.val (.int .i64 y6.1), .val (.int .i64 y6.2.1), .val (.int .i64 y6.2.2)]] : List D).length)] : List Nat) = [k5, (v3 ++ ([.agg [.val (.int .i64 y6.1), .val (.int .i64 y6.2.1), .val (.int .i64 y6.2.2)]] : List D)).length]) (L126_0 n (v2, (v3 ++ ([.agg [.val (.int .i64 y6.1), .val (.int .i64 y6.2.1), .val (.int .i64 y6.2.2)]] : List D)), (w64 (v4 + y6.2.2)), k5) s)))) else (ask (([k5, v3.length] : List Nat) = [k5, v3.length]) (some (O126_0.x0 v3 k5, s))))
def d126 (ds : List D) : Option (ByteArray) := match ds with
  | [.val (.string a0)] => some a0
  | _ => none
def r126 (v : AV) : Option (List D) := match toPR v with
  | some (.one (.slice a1)) => some a1
  | _ => none
def n126 : ByteArray → Option (List D) := fun a0 => (ask (([0, 0] : List Nat) = [0, ([] : List D).length]) ((L126_0 1000000000000 (a0, ([] : List D), 0, 0) ()).bind fun p9 => match p9.1 with | .x0 z10 z11 => (some z10)))
def e126 : PureE := mkE d126 n126 (fun a1 => .one (.slice a1))
def g126 {σ : Type} : Nat → Option (SegE σ)
  | 0 => some (l126_0.seg σ (L126_0 1000000000000))
  | _ => none
theorem E126_0 {σ : Type} (Y : Yd σ) : ∀ n a (s : σ), L126_0 (n + 1) a s = evK (cfgOf Tryz.prog (tabsS1 gl) tS2) (toldOf tS2) Y (inlN (cfgOf Tryz.prog (tabsS1 gl) tS2) (toldOf tS2) Y) g126 126 (loopAt Tryz.f126 0) ((l126_0.toT σ).enc a s) (fun ex st' => l126_0.next (cfgOf Tryz.prog (tabsS1 gl) tS2) 126 0 (L126_0 n) ex st') := by
  intro n ⟨v2, v3, v4, k5⟩ s
  kernel_rfl
theorem Q126_0 {σ : Type} (hl : LibFits gl) (Y : Yd σ) (rnd : Bool) : SegOk (cfgOf Tryz.prog (tabsS1 gl) tS2) (evFn (cfgOf Tryz.prog (tabsS1 gl) tS2) 9) 126 rnd Y (l126_0.seg σ (L126_0 1000000000000)) (.block 0 (.loop (loopAt Tryz.f126 0))) :=
  told_loop (okS2 hl) k126_0 (by kernel_rfl) (by kernel_rfl) (fun _ _ => rfl) (segs_no (by kernel_rfl)) (E126_0 Y) (hr := by kernel_rfl)
theorem N126 : ∀ a, n126 a = bodyK (cfgOf Tryz.prog (tabsS1 gl) tS2) (toldOf tS2) noY (inlN (cfgOf Tryz.prog (tabsS1 gl) tS2) (toldOf tS2) noY) g126 126 Tryz.f126 (((fun a0 => [.val (.string a0)] : (ByteArray) → List D) a).map .d) [] [] () (fun v _ _ _ => r126 v) := by
  intro a0
  kernel_rfl
noncomputable def t126 : Tab := (126, e126) :: tS2
theorem ok126 (hl : LibFits gl) : TabOk Tryz.prog gl t126 :=
  told_fn (okS2 hl) mixed (oddOkS1 hl) Tryz.func126 (by kernel_rfl) (by kernel_rfl) (by kernel_rfl) (fun p hp e he => by
    have hq : segsOf (σ := Unit) (g126 (σ := Unit)) (bodyOf Tryz.f126) = [(0, .loop (loopAt Tryz.f126 0))] := by kernel_rfl
    rw [hq] at hp
    simp only [List.mem_cons, List.not_mem_nil, or_false] at hp
    subst hp
    cases he
    exact Q126_0 hl _ _)
    (args := fun a0 => [.val (.string a0)]) (res := r126)
    (fun ds a h => by
      unfold d126 at h
      split at h
      · cases h; rfl
      · cases h)
    (fun v r h => by
      unfold r126 at h
      split at h
      · rename_i hv; cases h; exact hv
      · cases h)
    N126
abbrev A107_0 := Int × ByteArray × Nat
inductive O107_0 where
  | x0 (o6 : Int) (o7 : ByteArray) (o8 : Nat)
  | x1 (o9 : Int) (o10 : ByteArray) (o11 : Nat)
def l107_0 : LoopS A107_0 O107_0 where
  n := 38
  ks := [3, 7]
  kso := [2, 3]
  m := 1
  mt := 0
  decV := fun vs bs ts => match vs, bs, ts with
    | [.d (.val (.int .i64 v2)), .iter 0], [.iter v3 v4], [] => some (v2, v3, v4)
    | _, _, _ => none
  encV := fun (v2, v3, v4) => [.d (.val (.int .i64 v2)), .iter 0]
  encB := fun (v2, v3, v4) => [.iter v3 v4]
  tk := fun _ => []
  decO := fun ex vs bs ts => match ex, vs, bs, ts with
    | .ret, [.d (.val (.int .i64 o6)), .undef], [.iter o7 o8], [] => some (.x0 o6 o7 o8)
    | .normal, [.undef, .d (.val (.int .i64 o9))], [.iter o10 o11], [] => some (.x1 o9 o10 o11)
    | _, _, _, _ => none
  exO := fun x => match x with
    | .x0 o6 o7 o8 => .ret
    | .x1 o9 o10 o11 => .normal
  outV := fun x => match x with
    | .x0 o6 o7 o8 => [.d (.val (.int .i64 o6)), .undef]
    | .x1 o9 o10 o11 => [.undef, .d (.val (.int .i64 o9))]
  outB := fun x => match x with
    | .x0 o6 o7 o8 => [.iter o7 o8]
    | .x1 o9 o10 o11 => [.iter o10 o11]
  tkO := fun x => match x with
    | .x0 o6 o7 o8 => []
    | .x1 o9 o10 o11 => []
  elim := fun x k => match x with
    | .x0 o6 o7 o8 => k .ret [.d (.val (.int .i64 o6)), .undef] [.iter o7 o8] []
    | .x1 o9 o10 o11 => k .normal [.undef, .d (.val (.int .i64 o9))] [.iter o10 o11] []
theorem k107_0 : l107_0.Ok where
  ok1 := by kernel_rfl
  ok2 := by kernel_rfl
  dec := by
    intro vs bs ts a h
    simp only [l107_0] at h ⊢
    split at h
    · cases h; exact ⟨rfl, rfl⟩
    · cases h
  out := by
    intro ex vs bs ts o h
    simp only [l107_0] at h ⊢
    split at h
    · cases h; exact ⟨rfl, rfl, rfl⟩
    · cases h; exact ⟨rfl, rfl, rfl⟩
    · cases h
  len := fun _ => ⟨rfl, rfl⟩
  elim := fun β o k => by cases o <;> rfl
def L107_0 {σ : Type} : Nat → A107_0 → σ → Option (O107_0 × σ)
  | 0, _, _ => none
  | n+1, (v2, v3, v4), s => (bif decide (v4 < v3.size) then ((n125 ((Utf8.decode v3 v4).1 : Int)).bind fun y5 => (bif (!y5) then (bif ((w64 (v2 + 1)) == 1) then (some (O107_0.x0 21 v3 (v4 + (Utf8.decode v3 v4).2), s)) else (bif (((Utf8.decode v3 v4).1 : Int) != 39) then (bif (decide (((Utf8.decode v3 v4).1 : Int) < 48)) then (some (O107_0.x0 21 v3 (v4 + (Utf8.decode v3 v4).2), s)) else (bif (decide (((Utf8.decode v3 v4).1 : Int) > 57)) then (some (O107_0.x0 21 v3 (v4 + (Utf8.decode v3 v4).2), s)) else (L107_0 n ((w64 (v2 + 1)), v3, (v4 + (Utf8.decode v3 v4).2)) s))) else (L107_0 n ((w64 (v2 + 1)), v3, (v4 + (Utf8.decode v3 v4).2)) s))) else (L107_0 n ((w64 (v2 + 1)), v3, (v4 + (Utf8.decode v3 v4).2)) s))) else (some (O107_0.x1 v2 v3 v4, s)))
def d107 (ds : List D) : Option (ByteArray) := match ds with
  | [.val (.string a0)] => some a0
  | _ => none
def r107 (v : AV) : Option (Int) := match toPR v with
  | some (.one (.val (.int .i64 a1))) => some a1
  | _ => none
def n107 : ByteArray → Option (Int) := fun a0 => ((L107_0 1000000000000 (0, a0, 0) ()).bind fun p12 => match p12.1 with | .x0 z13 z14 z15 => (some z13) | .x1 z16 z17 z18 => (bif (bif (z16 == 0) then true else (decide (z16 > 32))) then (some 21) else (some 0)))
def e107 : PureE := mkE d107 n107 (fun a1 => .one (.val (.int .i64 a1)))
def g107 {σ : Type} : Nat → Option (SegE σ)
  | 0 => some (l107_0.seg σ (L107_0 1000000000000))
  | _ => none
theorem E107_0 {σ : Type} (Y : Yd σ) : ∀ n a (s : σ), L107_0 (n + 1) a s = evK (cfgOf Tryz.prog (tabsS1 gl) tS2) (toldOf tS2) Y (inlN (cfgOf Tryz.prog (tabsS1 gl) tS2) (toldOf tS2) Y) g107 107 (loopAt Tryz.f107 0) ((l107_0.toT σ).enc a s) (fun ex st' => l107_0.next (cfgOf Tryz.prog (tabsS1 gl) tS2) 107 0 (L107_0 n) ex st') := by
  intro n ⟨v2, v3, v4⟩ s
  kernel_rfl
theorem Q107_0 {σ : Type} (hl : LibFits gl) (Y : Yd σ) (rnd : Bool) : SegOk (cfgOf Tryz.prog (tabsS1 gl) tS2) (evFn (cfgOf Tryz.prog (tabsS1 gl) tS2) 9) 107 rnd Y (l107_0.seg σ (L107_0 1000000000000)) (.block 0 (.loop (loopAt Tryz.f107 0))) :=
  told_loop (okS2 hl) k107_0 (by kernel_rfl) (by kernel_rfl) (fun _ _ => rfl) (segs_no (by kernel_rfl)) (E107_0 Y) (hr := by kernel_rfl)
theorem N107 : ∀ a, n107 a = bodyK (cfgOf Tryz.prog (tabsS1 gl) tS2) (toldOf tS2) noY (inlN (cfgOf Tryz.prog (tabsS1 gl) tS2) (toldOf tS2) noY) g107 107 Tryz.f107 (((fun a0 => [.val (.string a0)] : (ByteArray) → List D) a).map .d) [] [] () (fun v _ _ _ => r107 v) := by
  intro a0
  kernel_rfl
noncomputable def t107 : Tab := (107, e107) :: tS2
theorem ok107 (hl : LibFits gl) : TabOk Tryz.prog gl t107 :=
  told_fn (okS2 hl) mixed (oddOkS1 hl) Tryz.func107 (by kernel_rfl) (by kernel_rfl) (by kernel_rfl) (fun p hp e he => by
    have hq : segsOf (σ := Unit) (g107 (σ := Unit)) (bodyOf Tryz.f107) = [(0, .loop (loopAt Tryz.f107 0))] := by kernel_rfl
    rw [hq] at hp
    simp only [List.mem_cons, List.not_mem_nil, or_false] at hp
    subst hp
    cases he
    exact Q107_0 hl _ _)
    (args := fun a0 => [.val (.string a0)]) (res := r107)
    (fun ds a h => by
      unfold d107 at h
      split at h
      · cases h; rfl
      · cases h)
    (fun v r h => by
      unfold r107 at h
      split at h
      · rename_i hv; cases h; exact hv
      · cases h)
    N107
noncomputable def tS3 : Tab := (126, e126) :: (107, e107) :: tS2
theorem okS3 (hl : LibFits gl) : TabOk Tryz.prog gl tS3 :=
  TabOk.cons (TabOk.cons (okS2 hl) ((ok107 hl).fair (107, e107) (List.mem_cons_self (l := tS2))) ((ok107 hl).spec (107, e107) (List.mem_cons_self (l := tS2)))) ((ok126 hl).fair (126, e126) (List.mem_cons_self (l := tS2))) ((ok126 hl).spec (126, e126) (List.mem_cons_self (l := tS2)))
abbrev A108_0 := List D × Int
inductive O108_0 where
  | x0 (o13 : Bool)
  | x1 
def l108_0 : LoopS A108_0 O108_0 where
  n := 36
  ks := [3, 4]
  kso := [2]
  m := 0
  mt := 0
  decV := fun vs bs ts => match vs, bs, ts with
    | [.d (.slice v7), .d (.val (.int .i64 v8))], [], [] => some (v7, v8)
    | _, _, _ => none
  encV := fun (v7, v8) => [.d (.slice v7), .d (.val (.int .i64 v8))]
  encB := fun (v7, v8) => []
  tk := fun _ => []
  decO := fun ex vs bs ts => match ex, vs, bs, ts with
    | .ret, [.d (.val (.bool o13))], [], [] => some (.x0 o13)
    | .normal, [.undef], [], [] => some (.x1 )
    | _, _, _, _ => none
  exO := fun x => match x with
    | .x0 o13 => .ret
    | .x1  => .normal
  outV := fun x => match x with
    | .x0 o13 => [.d (.val (.bool o13))]
    | .x1  => [.undef]
  outB := fun x => match x with
    | .x0 o13 => []
    | .x1  => []
  tkO := fun x => match x with
    | .x0 o13 => []
    | .x1  => []
  elim := fun x k => match x with
    | .x0 o13 => k .ret [.d (.val (.bool o13))] [] []
    | .x1  => k .normal [.undef] [] []
theorem k108_0 : l108_0.Ok where
  ok1 := by kernel_rfl
  ok2 := by kernel_rfl
  dec := by
    intro vs bs ts a h
    simp only [l108_0] at h ⊢
    split at h
    · cases h; exact ⟨rfl, rfl⟩
    · cases h
  out := by
    intro ex vs bs ts o h
    simp only [l108_0] at h ⊢
    split at h
    · cases h; exact ⟨rfl, rfl, rfl⟩
    · cases h; exact ⟨rfl, rfl, rfl⟩
    · cases h
  len := fun _ => ⟨rfl, rfl⟩
  elim := fun β o k => by cases o <;> rfl
def L108_0 {σ : Type} : Nat → A108_0 → σ → Option (O108_0 × σ)
  | 0, _, _ => none
  | n+1, (v7, v8), s => (bif (decide (v8 < ((v7.length : Nat) : Int))) then ((lidx v7 v8).bind fun d9 => ask (d9.cells.length = 3) ((cellAt 0 d9).bind fun x10 => (asInt .i64 x10).bind fun x11 => ((n128 x11).bind fun y12 => (bif (!y12) then (some (O108_0.x0 false, s)) else (L108_0 n (v7, (w64 (v8 + 1))) s))))) else (some (O108_0.x1 , s)))
def d108 (ds : List D) : Option (ByteArray) := match ds with
  | [.val (.string a0)] => some a0
  | _ => none
def r108 (v : AV) : Option (Bool) := match toPR v with
  | some (.one (.val (.bool a1))) => some a1
  | _ => none
def n108 : ByteArray → Option (Bool) := fun a0 => ((n126 a0).bind fun y2 => (bif (bif (decide (((y2.length : Nat) : Int) < 1)) then true else (decide (((y2.length : Nat) : Int) > 32))) then (some false) else ((lidx y2 0).bind fun d3 => ask (d3.cells.length = 3) ((cellAt 0 d3).bind fun x4 => (asInt .i64 x4).bind fun x5 => ((n127 x5).bind fun y6 => (bif (!y6) then (some false) else ((L108_0 1000000000000 (y2, 1) ()).bind fun p14 => match p14.1 with | .x0 z15 => (some z15) | .x1  => (some true))))))))
def e108 : PureE := mkE d108 n108 (fun a1 => .one (.val (.bool a1)))
def g108 {σ : Type} : Nat → Option (SegE σ)
  | 0 => some (l108_0.seg σ (L108_0 1000000000000))
  | _ => none
theorem E108_0 {σ : Type} (Y : Yd σ) : ∀ n a (s : σ), L108_0 (n + 1) a s = evK (cfgOf Tryz.prog (tabsS1 gl) tS3) (toldOf tS3) Y (inlN (cfgOf Tryz.prog (tabsS1 gl) tS3) (toldOf tS3) Y) g108 108 (loopAt Tryz.f108 0) ((l108_0.toT σ).enc a s) (fun ex st' => l108_0.next (cfgOf Tryz.prog (tabsS1 gl) tS3) 108 0 (L108_0 n) ex st') := by
  intro n ⟨v7, v8⟩ s
  kernel_rfl
theorem Q108_0 {σ : Type} (hl : LibFits gl) (Y : Yd σ) (rnd : Bool) : SegOk (cfgOf Tryz.prog (tabsS1 gl) tS3) (evFn (cfgOf Tryz.prog (tabsS1 gl) tS3) 9) 108 rnd Y (l108_0.seg σ (L108_0 1000000000000)) (.block 0 (.loop (loopAt Tryz.f108 0))) :=
  told_loop (okS3 hl) k108_0 (by kernel_rfl) (by kernel_rfl) (fun _ _ => rfl) (segs_no (by kernel_rfl)) (E108_0 Y) (hr := by kernel_rfl)
theorem N108 : ∀ a, n108 a = bodyK (cfgOf Tryz.prog (tabsS1 gl) tS3) (toldOf tS3) noY (inlN (cfgOf Tryz.prog (tabsS1 gl) tS3) (toldOf tS3) noY) g108 108 Tryz.f108 (((fun a0 => [.val (.string a0)] : (ByteArray) → List D) a).map .d) [] [] () (fun v _ _ _ => r108 v) := by
  intro a0
  kernel_rfl
noncomputable def t108 : Tab := (108, e108) :: tS3
theorem ok108 (hl : LibFits gl) : TabOk Tryz.prog gl t108 :=
  told_fn (okS3 hl) mixed (oddOkS1 hl) Tryz.func108 (by kernel_rfl) (by kernel_rfl) (by kernel_rfl) (fun p hp e he => by
    have hq : segsOf (σ := Unit) (g108 (σ := Unit)) (bodyOf Tryz.f108) = [(0, .loop (loopAt Tryz.f108 0))] := by kernel_rfl
    rw [hq] at hp
    simp only [List.mem_cons, List.not_mem_nil, or_false] at hp
    subst hp
    cases he
    exact Q108_0 hl _ _)
    (args := fun a0 => [.val (.string a0)]) (res := r108)
    (fun ds a h => by
      unfold d108 at h
      split at h
      · cases h; rfl
      · cases h)
    (fun v r h => by
      unfold r108 at h
      split at h
      · rename_i hv; cases h; exact hv
      · cases h)
    N108
def d67 (ds : List D) : Option (ByteArray) := match ds with
  | [.val (.string a0)] => some a0
  | _ => none
def r67 (v : AV) : Option (Bool) := match toPR v with
  | some (.one (.val (.bool a1))) => some a1
  | _ => none
def n67 : ByteArray → Option (Bool) := fun a0 => ((n107 a0).bind fun y2 => (some (bif (bif (y2 == 0) then (!(sEq a0 (⟨#[116, 114, 117, 101]⟩ : ByteArray))) else false) then (!(sEq a0 (⟨#[102, 97, 108, 115, 101]⟩ : ByteArray))) else false)))
def e67 : PureE := mkE d67 n67 (fun a1 => .one (.val (.bool a1)))
def g67 {σ : Type} : Nat → Option (SegE σ)
  | _ => none
theorem N67 : ∀ a, n67 a = bodyK (cfgOf Tryz.prog (tabsS1 gl) tS3) (toldOf tS3) noY (inlN (cfgOf Tryz.prog (tabsS1 gl) tS3) (toldOf tS3) noY) g67 67 Tryz.f67 (((fun a0 => [.val (.string a0)] : (ByteArray) → List D) a).map .d) [] [] () (fun v _ _ _ => r67 v) := by
  intro a0
  kernel_rfl
noncomputable def t67 : Tab := (67, e67) :: tS3
theorem ok67 (hl : LibFits gl) : TabOk Tryz.prog gl t67 :=
  told_fn (okS3 hl) mixed (oddOkS1 hl) Tryz.func67 (by kernel_rfl) (by kernel_rfl) (by kernel_rfl) (segs_no (by kernel_rfl))
    (args := fun a0 => [.val (.string a0)]) (res := r67)
    (fun ds a h => by
      unfold d67 at h
      split at h
      · cases h; rfl
      · cases h)
    (fun v r h => by
      unfold r67 at h
      split at h
      · rename_i hv; cases h; exact hv
      · cases h)
    N67
noncomputable def tS4 : Tab := (108, e108) :: (67, e67) :: tS3
theorem okS4 (hl : LibFits gl) : TabOk Tryz.prog gl tS4 :=
  TabOk.cons (TabOk.cons (okS3 hl) ((ok67 hl).fair (67, e67) (List.mem_cons_self (l := tS3))) ((ok67 hl).spec (67, e67) (List.mem_cons_self (l := tS3)))) ((ok108 hl).fair (108, e108) (List.mem_cons_self (l := tS3))) ((ok108 hl).spec (108, e108) (List.mem_cons_self (l := tS3)))
def d68 (ds : List D) : Option (ByteArray) := match ds with
  | [.val (.string a0)] => some a0
  | _ => none
def r68 (v : AV) : Option (Bool) := match toPR v with
  | some (.one (.val (.bool a1))) => some a1
  | _ => none
def n68 : ByteArray → Option (Bool) := fun a0 => ((n108 a0).bind fun y2 => (some (bif (bif y2 then (!(sEq a0 (⟨#[116, 114, 117, 101]⟩ : ByteArray))) else false) then (!(sEq a0 (⟨#[102, 97, 108, 115, 101]⟩ : ByteArray))) else false)))
def e68 : PureE := mkE d68 n68 (fun a1 => .one (.val (.bool a1)))
def g68 {σ : Type} : Nat → Option (SegE σ)
  | _ => none
theorem N68 : ∀ a, n68 a = bodyK (cfgOf Tryz.prog (tabsS1 gl) tS4) (toldOf tS4) noY (inlN (cfgOf Tryz.prog (tabsS1 gl) tS4) (toldOf tS4) noY) g68 68 Tryz.f68 (((fun a0 => [.val (.string a0)] : (ByteArray) → List D) a).map .d) [] [] () (fun v _ _ _ => r68 v) := by
  intro a0
  kernel_rfl
noncomputable def t68 : Tab := (68, e68) :: tS4
theorem ok68 (hl : LibFits gl) : TabOk Tryz.prog gl t68 :=
  told_fn (okS4 hl) mixed (oddOkS1 hl) Tryz.func68 (by kernel_rfl) (by kernel_rfl) (by kernel_rfl) (segs_no (by kernel_rfl))
    (args := fun a0 => [.val (.string a0)]) (res := r68)
    (fun ds a h => by
      unfold d68 at h
      split at h
      · cases h; rfl
      · cases h)
    (fun v r h => by
      unfold r68 at h
      split at h
      · rename_i hv; cases h; exact hv
      · cases h)
    N68
abbrev A44_1 := List D × Int × Int × Int × Int × Int × ByteArray × List D
inductive O44_1 where
  | x0 (o29 : Bool) (o30 : Int) (o31 : Int) (o32 : Int) (o33 : ByteArray) (o34 : List D)
  | x1 (o47 : Int) (o48 : Int) (o49 : Int) (o50 : ByteArray) (o51 : List D)
def l44_1 : LoopS A44_1 O44_1 where
  n := 126
  ks := [1, 95, 96, 97]
  kso := [2]
  m := 1
  mt := 0
  decV := fun vs bs ts => match vs, bs, ts with
    | [.ptr 0 0, .d (.slice v9), .d (.val (.int .i64 v10)), .d (.val (.int .i64 v11))], [.cells none [.d (.val (.int .i64 v12)), .d (.val (.int .i64 v13)), .d (.val (.int .i64 v14)), .d (.val (.string v15)), .d (.slice v16)]], [] => some (v9, v10, v11, v12, v13, v14, v15, v16)
    | _, _, _ => none
  encV := fun (v9, v10, v11, v12, v13, v14, v15, v16) => [.ptr 0 0, .d (.slice v9), .d (.val (.int .i64 v10)), .d (.val (.int .i64 v11))]
  encB := fun (v9, v10, v11, v12, v13, v14, v15, v16) => [.cells none [.d (.val (.int .i64 v12)), .d (.val (.int .i64 v13)), .d (.val (.int .i64 v14)), .d (.val (.string v15)), .d (.slice v16)]]
  tk := fun _ => []
  decO := fun ex vs bs ts => match ex, vs, bs, ts with
    | .ret, [.d (.val (.bool o29))], [.cells none [.d (.val (.int .i64 o30)), .d (.val (.int .i64 o31)), .d (.val (.int .i64 o32)), .d (.val (.string o33)), .d (.slice o34)]], [] => some (.x0 o29 o30 o31 o32 o33 o34)
    | .normal, [.undef], [.cells none [.d (.val (.int .i64 o47)), .d (.val (.int .i64 o48)), .d (.val (.int .i64 o49)), .d (.val (.string o50)), .d (.slice o51)]], [] => some (.x1 o47 o48 o49 o50 o51)
    | _, _, _, _ => none
  exO := fun x => match x with
    | .x0 o29 o30 o31 o32 o33 o34 => .ret
    | .x1 o47 o48 o49 o50 o51 => .normal
  outV := fun x => match x with
    | .x0 o29 o30 o31 o32 o33 o34 => [.d (.val (.bool o29))]
    | .x1 o47 o48 o49 o50 o51 => [.undef]
  outB := fun x => match x with
    | .x0 o29 o30 o31 o32 o33 o34 => [.cells none [.d (.val (.int .i64 o30)), .d (.val (.int .i64 o31)), .d (.val (.int .i64 o32)), .d (.val (.string o33)), .d (.slice o34)]]
    | .x1 o47 o48 o49 o50 o51 => [.cells none [.d (.val (.int .i64 o47)), .d (.val (.int .i64 o48)), .d (.val (.int .i64 o49)), .d (.val (.string o50)), .d (.slice o51)]]
  tkO := fun x => match x with
    | .x0 o29 o30 o31 o32 o33 o34 => []
    | .x1 o47 o48 o49 o50 o51 => []
  elim := fun x k => match x with
    | .x0 o29 o30 o31 o32 o33 o34 => k .ret [.d (.val (.bool o29))] [.cells none [.d (.val (.int .i64 o30)), .d (.val (.int .i64 o31)), .d (.val (.int .i64 o32)), .d (.val (.string o33)), .d (.slice o34)]] []
    | .x1 o47 o48 o49 o50 o51 => k .normal [.undef] [.cells none [.d (.val (.int .i64 o47)), .d (.val (.int .i64 o48)), .d (.val (.int .i64 o49)), .d (.val (.string o50)), .d (.slice o51)]] []
theorem k44_1 : l44_1.Ok where
  ok1 := by kernel_rfl
  ok2 := by kernel_rfl
  dec := by
    intro vs bs ts a h
    simp only [l44_1] at h ⊢
    split at h
    · cases h; exact ⟨rfl, rfl⟩
    · cases h
  out := by
    intro ex vs bs ts o h
    simp only [l44_1] at h ⊢
    split at h
    · cases h; exact ⟨rfl, rfl, rfl⟩
    · cases h; exact ⟨rfl, rfl, rfl⟩
    · cases h
  len := fun _ => ⟨rfl, rfl⟩
  elim := fun β o k => by cases o <;> rfl
def L44_1 {σ : Type} (F : Int × Int × Int × ByteArray × List D → Option (Bool)) : Nat → A44_1 → σ → Option (O44_1 × σ)
  | 0, _, _ => none
  | n+1, (v9, v10, v11, v12, v13, v14, v15, v16), s => (bif (decide (v11 < v10)) then ((lidx v9 v11).bind fun d17 => ask (d17.cells.length = 5) ((cellAt 0 d17).bind fun x18 => (asInt .i64 x18).bind fun x19 => ((cellAt 1 d17).bind fun x20 => (asInt .i64 x20).bind fun x21 => ((cellAt 2 d17).bind fun x22 => (asInt .i64 x22).bind fun x23 => ((cellAt 3 d17).bind fun x24 => (asStr x24).bind fun x25 => ((cellAt 4 d17).bind fun x26 => (asRow x26).bind fun x27 => ((F (x19, x21, x23, x25, x27)).bind fun y28 => (bif (!y28) then (some (O44_1.x0 false v12 v13 v14 v15 v16, s)) else (bif (v12 == 7) then (bif (decide (v11 > 0)) then ((lidx v16 (w64 (v11 - 1))).bind fun d35 => ask (d35.cells.length = 5) ((cellAt 0 d35).bind fun x36 => (asInt .i64 x36).bind fun x37 => ((cellAt 1 d35).bind fun x38 => (asInt .i64 x38).bind fun x39 => ((cellAt 2 d35).bind fun x40 => (asInt .i64 x40).bind fun x41 => ((cellAt 3 d35).bind fun x42 => (asStr x42).bind fun x43 => ((cellAt 4 d35).bind fun x44 => (asRow x44).bind fun x45 => ((n49 64 (x37, x39, x41, x43, x45, x19, x21, x23, x25, x27)).bind fun y46 => (bif (decide (y46 ≥ 0)) then (some (O44_1.x0 false v12 v13 v14 v15 v16, s)) else (L44_1 F n (v9, v10, (w64 (v11 + 1)), v12, v13, v14, v15, v16) s))))))))) else (L44_1 F n (v9, v10, (w64 (v11 + 1)), v12, v13, v14, v15, v16) s)) else (L44_1 F n (v9, v10, (w64 (v11 + 1)), v12, v13, v14, v15, v16) s)))))))))) else (some (O44_1.x1 v12 v13 v14 v15 v16, s)))
def d44 (ds : List D) : Option (Int × Int × Int × ByteArray × List D) := match ds with
  | [.agg [.val (.int .i64 a0), .val (.int .i64 a1), .val (.int .i64 a2), .val (.string a3), .slice a4]] => some (a0, a1, a2, a3, a4)
  | _ => none
def r44 (v : AV) : Option (Bool) := match toPR v with
  | some (.one (.val (.bool a5))) => some a5
  | _ => none
def n44 : Nat → Int × Int × Int × ByteArray × List D → Option (Bool)
  | 0, _ => none
  | k + 1, (a0, a1, a2, a3, a4) => (bif (a0 == 1) then (bif (bif (bif (sEq a3 (⟨#[]⟩ : ByteArray)) then (((a4.length : Nat) : Int) == 0) else false) then (a2 == 0) else false) then (bif (a1 == 0) then (some true) else (some (a1 == 1))) else (some false)) else (bif (a0 == 2) then (some (bif (bif (sEq a3 (⟨#[]⟩ : ByteArray)) then (((a4.length : Nat) : Int) == 0) else false) then (a2 == 0) else false)) else (bif (a0 == 3) then (bif (bif (sEq a3 (⟨#[]⟩ : ByteArray)) then (((a4.length : Nat) : Int) == 0) else false) then ((n69 a1).bind fun y6 => (bif y6 then ((n69 a2).bind fun y7 => (some y7)) else (some false))) else (some false)) else (bif (a0 == 4) then (bif (bif (bif (a1 == 0) then (a2 == 0) else false) then (((a4.length : Nat) : Int) == 0) else false) then ((n67 a3).bind fun y8 => (some y8)) else (some false)) else (bif (a0 == 5) then (bif (bif (bif (a1 != 0) then true else (a2 != 0)) then true else (!(sEq a3 (⟨#[]⟩ : ByteArray)))) then (some false) else ((L44_1 (n44 k) 1000000000000 (a4, ((a4.length : Nat) : Int), 0, a0, a1, a2, a3, a4) ()).bind fun p52 => match p52.1 with | .x0 z53 z54 z55 z56 z57 z58 => (some z53) | .x1 z59 z60 z61 z62 z63 => (some true))) else (bif (a0 == 6) then (bif (bif (bif (a1 != 0) then true else (a2 != 0)) then true else (!(sEq a3 (⟨#[]⟩ : ByteArray)))) then (some false) else ((L44_1 (n44 k) 1000000000000 (a4, ((a4.length : Nat) : Int), 0, a0, a1, a2, a3, a4) ()).bind fun p107 => match p107.1 with | .x0 z108 z109 z110 z111 z112 z113 => (some z108) | .x1 z114 z115 z116 z117 z118 => (some true))) else (bif (a0 == 7) then (bif (bif (bif (a1 != 0) then true else (a2 != 0)) then true else (!(sEq a3 (⟨#[]⟩ : ByteArray)))) then (some false) else ((L44_1 (n44 k) 1000000000000 (a4, ((a4.length : Nat) : Int), 0, a0, a1, a2, a3, a4) ()).bind fun p162 => match p162.1 with | .x0 z163 z164 z165 z166 z167 z168 => (some z163) | .x1 z169 z170 z171 z172 z173 => (some true))) else (some false))))))))
def e44 : PureE := mkE d44 (n44 64) (fun a5 => .one (.val (.bool a5)))
def g44 (k : Nat) {σ : Type} : Nat → Option (SegE σ)
  | 1 => some (l44_1.seg σ (L44_1 (n44 k) 1000000000000))
  | _ => none
theorem E44_1 {σ : Type} (k : Nat) (Y : Yd σ) : ∀ n a (s : σ), L44_1 (n44 k) (n + 1) a s = evK (cfgOf Tryz.prog (tabsS1 gl) (((44, mkE d44 (n44 k) (fun a5 => .one (.val (.bool a5)))) :: tS4) : Tab)) (toldOf (((44, mkE d44 (n44 k) (fun a5 => .one (.val (.bool a5)))) :: tS4) : Tab)) Y (inlN (cfgOf Tryz.prog (tabsS1 gl) (((44, mkE d44 (n44 k) (fun a5 => .one (.val (.bool a5)))) :: tS4) : Tab)) (toldOf (((44, mkE d44 (n44 k) (fun a5 => .one (.val (.bool a5)))) :: tS4) : Tab)) Y) (g44 k) 44 (loopAt Tryz.f44 1) ((l44_1.toT σ).enc a s) (fun ex st' => l44_1.next (cfgOf Tryz.prog (tabsS1 gl) (((44, mkE d44 (n44 k) (fun a5 => .one (.val (.bool a5)))) :: tS4) : Tab)) 44 1 (L44_1 (n44 k) n) ex st') := by
  intro n ⟨v9, v10, v11, v12, v13, v14, v15, v16⟩ s
  kernel_rfl
theorem Q44_1 {σ : Type} (hl : LibFits gl) (k : Nat) (hk : TabOk Tryz.prog gl (((44, mkE d44 (n44 k) (fun a5 => .one (.val (.bool a5)))) :: tS4) : Tab)) (Y : Yd σ) (rnd : Bool) : SegOk (cfgOf Tryz.prog (tabsS1 gl) (((44, mkE d44 (n44 k) (fun a5 => .one (.val (.bool a5)))) :: tS4) : Tab)) (evFn (cfgOf Tryz.prog (tabsS1 gl) (((44, mkE d44 (n44 k) (fun a5 => .one (.val (.bool a5)))) :: tS4) : Tab)) 9) 44 rnd Y (l44_1.seg σ (L44_1 (n44 k) 1000000000000)) (.block 1 (.loop (loopAt Tryz.f44 1))) :=
  told_loop hk k44_1 (by kernel_rfl) (by kernel_rfl) (fun _ _ => rfl) (segs_no (by kernel_rfl)) (E44_1 k Y) (hr := by kernel_rfl)
theorem N44 : ∀ k a, n44 (k + 1) a = bodyK (cfgOf Tryz.prog (tabsS1 gl) (((44, mkE d44 (n44 k) (fun a5 => .one (.val (.bool a5)))) :: tS4) : Tab)) (toldOf (((44, mkE d44 (n44 k) (fun a5 => .one (.val (.bool a5)))) :: tS4) : Tab)) noY (inlN (cfgOf Tryz.prog (tabsS1 gl) (((44, mkE d44 (n44 k) (fun a5 => .one (.val (.bool a5)))) :: tS4) : Tab)) (toldOf (((44, mkE d44 (n44 k) (fun a5 => .one (.val (.bool a5)))) :: tS4) : Tab)) noY) (g44 k) 44 Tryz.f44 (((fun (a0, a1, a2, a3, a4) => [.agg [.val (.int .i64 a0), .val (.int .i64 a1), .val (.int .i64 a2), .val (.string a3), .slice a4]] : (Int × Int × Int × ByteArray × List D) → List D) a).map .d) [] [] () (fun v _ _ _ => r44 v) := by
  intro k a
  obtain ⟨a0, a1, a2, a3, a4⟩ := a
  kernel_rfl
noncomputable def t44 : Tab := (44, e44) :: tS4
theorem ok44 (hl : LibFits gl) : TabOk Tryz.prog gl t44 :=
  told_rec (t := tabsS1 gl) (okS4 hl) mixed (oddOkS1 hl) Tryz.func44 (by kernel_rfl) (nat := n44) (seg := fun k => g44 k) (by kernel_rfl) (fun k hk => (fun p hp e he => by
    have hq : segsOf (σ := Unit) (g44 k (σ := Unit)) (bodyOf Tryz.f44) = [(1, .loop (loopAt Tryz.f44 1))] := by kernel_rfl
    rw [hq] at hp
    simp only [List.mem_cons, List.not_mem_nil, or_false] at hp
    subst hp
    cases he
    exact Q44_1 hl k hk _ _))
    (args := fun (a0, a1, a2, a3, a4) => [.agg [.val (.int .i64 a0), .val (.int .i64 a1), .val (.int .i64 a2), .val (.string a3), .slice a4]]) (res := r44)
    (fun ds a h => by
      unfold d44 at h
      split at h
      · cases h; rfl
      · cases h)
    (fun v r h => by
      unfold r44 at h
      split at h
      · rename_i hv; cases h; exact hv
      · cases h)
    (fun _ => rfl) N44 64
noncomputable def tS5 : Tab := (68, e68) :: (44, e44) :: tS4
theorem okS5 (hl : LibFits gl) : TabOk Tryz.prog gl tS5 :=
  TabOk.cons (TabOk.cons (okS4 hl) ((ok44 hl).fair (44, e44) (List.mem_cons_self (l := tS4))) ((ok44 hl).spec (44, e44) (List.mem_cons_self (l := tS4)))) ((ok68 hl).fair (68, e68) (List.mem_cons_self (l := tS4))) ((ok68 hl).spec (68, e68) (List.mem_cons_self (l := tS4)))
abbrev A42_1 := Int × Int × Int × Int × ByteArray × List D
inductive O42_1 where
  | x0 (o32 : Bool) (o33 : Int) (o34 : Int) (o35 : Int) (o36 : ByteArray) (o37 : List D)
  | x1 (o61 : Int) (o62 : Int) (o63 : Int) (o64 : ByteArray) (o65 : List D)
def l42_1 : LoopS A42_1 O42_1 where
  n := 92
  ks := [1, 3]
  kso := [2]
  m := 1
  mt := 0
  decV := fun vs bs ts => match vs, bs, ts with
    | [.ptr 0 0, .d (.val (.int .i64 v14))], [.cells none [.d (.val (.int .i64 v15)), .d (.val (.int .i64 v16)), .d (.val (.int .i64 v17)), .d (.val (.string v18)), .d (.slice v19)]], [] => some (v14, v15, v16, v17, v18, v19)
    | _, _, _ => none
  encV := fun (v14, v15, v16, v17, v18, v19) => [.ptr 0 0, .d (.val (.int .i64 v14))]
  encB := fun (v14, v15, v16, v17, v18, v19) => [.cells none [.d (.val (.int .i64 v15)), .d (.val (.int .i64 v16)), .d (.val (.int .i64 v17)), .d (.val (.string v18)), .d (.slice v19)]]
  tk := fun _ => []
  decO := fun ex vs bs ts => match ex, vs, bs, ts with
    | .ret, [.d (.val (.bool o32))], [.cells none [.d (.val (.int .i64 o33)), .d (.val (.int .i64 o34)), .d (.val (.int .i64 o35)), .d (.val (.string o36)), .d (.slice o37)]], [] => some (.x0 o32 o33 o34 o35 o36 o37)
    | .normal, [.undef], [.cells none [.d (.val (.int .i64 o61)), .d (.val (.int .i64 o62)), .d (.val (.int .i64 o63)), .d (.val (.string o64)), .d (.slice o65)]], [] => some (.x1 o61 o62 o63 o64 o65)
    | _, _, _, _ => none
  exO := fun x => match x with
    | .x0 o32 o33 o34 o35 o36 o37 => .ret
    | .x1 o61 o62 o63 o64 o65 => .normal
  outV := fun x => match x with
    | .x0 o32 o33 o34 o35 o36 o37 => [.d (.val (.bool o32))]
    | .x1 o61 o62 o63 o64 o65 => [.undef]
  outB := fun x => match x with
    | .x0 o32 o33 o34 o35 o36 o37 => [.cells none [.d (.val (.int .i64 o33)), .d (.val (.int .i64 o34)), .d (.val (.int .i64 o35)), .d (.val (.string o36)), .d (.slice o37)]]
    | .x1 o61 o62 o63 o64 o65 => [.cells none [.d (.val (.int .i64 o61)), .d (.val (.int .i64 o62)), .d (.val (.int .i64 o63)), .d (.val (.string o64)), .d (.slice o65)]]
  tkO := fun x => match x with
    | .x0 o32 o33 o34 o35 o36 o37 => []
    | .x1 o61 o62 o63 o64 o65 => []
  elim := fun x k => match x with
    | .x0 o32 o33 o34 o35 o36 o37 => k .ret [.d (.val (.bool o32))] [.cells none [.d (.val (.int .i64 o33)), .d (.val (.int .i64 o34)), .d (.val (.int .i64 o35)), .d (.val (.string o36)), .d (.slice o37)]] []
    | .x1 o61 o62 o63 o64 o65 => k .normal [.undef] [.cells none [.d (.val (.int .i64 o61)), .d (.val (.int .i64 o62)), .d (.val (.int .i64 o63)), .d (.val (.string o64)), .d (.slice o65)]] []
theorem k42_1 : l42_1.Ok where
  ok1 := by kernel_rfl
  ok2 := by kernel_rfl
  dec := by
    intro vs bs ts a h
    simp only [l42_1] at h ⊢
    split at h
    · cases h; exact ⟨rfl, rfl⟩
    · cases h
  out := by
    intro ex vs bs ts o h
    simp only [l42_1] at h ⊢
    split at h
    · cases h; exact ⟨rfl, rfl, rfl⟩
    · cases h; exact ⟨rfl, rfl, rfl⟩
    · cases h
  len := fun _ => ⟨rfl, rfl⟩
  elim := fun β o k => by cases o <;> rfl
def L42_1 {σ : Type} (F : Int × Int × Int × ByteArray × List D → Option (Bool)) : Nat → A42_1 → σ → Option (O42_1 × σ)
  | 0, _, _ => none
  | n+1, (v14, v15, v16, v17, v18, v19), s => (bif (decide (v14 < ((v19.length : Nat) : Int))) then ((lidx v19 v14).bind fun d20 => ask (d20.cells.length = 5) ((cellAt 0 d20).bind fun x21 => (asInt .i64 x21).bind fun x22 => ((cellAt 1 d20).bind fun x23 => (asInt .i64 x23).bind fun x24 => ((cellAt 2 d20).bind fun x25 => (asInt .i64 x25).bind fun x26 => ((cellAt 3 d20).bind fun x27 => (asStr x27).bind fun x28 => ((cellAt 4 d20).bind fun x29 => (asRow x29).bind fun x30 => ((F (x22, x24, x26, x28, x30)).bind fun y31 => (bif (!y31) then (some (O42_1.x0 false v15 v16 v17 v18 v19, s)) else (bif (v15 == 7) then (bif (decide (v14 > 0)) then ((lidx v19 (w64 (v14 - 1))).bind fun d38 => ask (d38.cells.length = 5) ((cellAt 0 d38).bind fun x39 => (asInt .i64 x39).bind fun x40 => ((cellAt 1 d38).bind fun x41 => (asInt .i64 x41).bind fun x42 => ((cellAt 2 d38).bind fun x43 => (asInt .i64 x43).bind fun x44 => ((cellAt 3 d38).bind fun x45 => (asStr x45).bind fun x46 => ((cellAt 4 d38).bind fun x47 => (asRow x47).bind fun x48 => ((lidx v19 v14).bind fun d49 => ask (d49.cells.length = 5) ((cellAt 0 d49).bind fun x50 => (asInt .i64 x50).bind fun x51 => ((cellAt 1 d49).bind fun x52 => (asInt .i64 x52).bind fun x53 => ((cellAt 2 d49).bind fun x54 => (asInt .i64 x54).bind fun x55 => ((cellAt 3 d49).bind fun x56 => (asStr x56).bind fun x57 => ((cellAt 4 d49).bind fun x58 => (asRow x58).bind fun x59 => ((n50 64 (x40, x42, x44, x46, x48, x51, x53, x55, x57, x59)).bind fun y60 => (bif (decide (y60 ≥ 0)) then (some (O42_1.x0 false v15 v16 v17 v18 v19, s)) else (L42_1 F n ((w64 (v14 + 1)), v15, v16, v17, v18, v19) s))))))))))))))) else (L42_1 F n ((w64 (v14 + 1)), v15, v16, v17, v18, v19) s)) else (L42_1 F n ((w64 (v14 + 1)), v15, v16, v17, v18, v19) s)))))))))) else (some (O42_1.x1 v15 v16 v17 v18 v19, s)))
def d42 (ds : List D) : Option (Int × Int × Int × ByteArray × List D) := match ds with
  | [.agg [.val (.int .i64 a0), .val (.int .i64 a1), .val (.int .i64 a2), .val (.string a3), .slice a4]] => some (a0, a1, a2, a3, a4)
  | _ => none
def r42 (v : AV) : Option (Bool) := match toPR v with
  | some (.one (.val (.bool a5))) => some a5
  | _ => none
def n42 : Nat → Int × Int × Int × ByteArray × List D → Option (Bool)
  | 0, _ => none
  | k + 1, (a0, a1, a2, a3, a4) => (bif (a0 == 1) then ((n78 (a0, a1, a2, a3, a4, true, false, false, false)).bind fun y6 => (bif y6 then (bif (a1 == 0) then (some true) else (some (a1 == 1))) else (some false))) else (bif (a0 == 2) then ((n78 (a0, a1, a2, a3, a4, true, false, false, false)).bind fun y7 => (some y7)) else (bif (a0 == 3) then ((n78 (a0, a1, a2, a3, a4, true, true, false, false)).bind fun y8 => (bif y8 then ((n70 a1).bind fun y9 => (bif y9 then ((n70 a2).bind fun y10 => (some y10)) else (some false))) else (some false))) else (bif (a0 == 4) then ((n78 (a0, a1, a2, a3, a4, false, false, true, false)).bind fun y11 => (bif y11 then ((n68 a3).bind fun y12 => (some y12)) else (some false))) else (bif (a0 == 5) then ((n78 (a0, a1, a2, a3, a4, false, false, false, true)).bind fun y13 => (bif (!y13) then (some false) else ((L42_1 (n42 k) 1000000000000 (0, a0, a1, a2, a3, a4) ()).bind fun p66 => match p66.1 with | .x0 z67 z68 z69 z70 z71 z72 => (some z67) | .x1 z73 z74 z75 z76 z77 => (some true)))) else (bif (a0 == 6) then ((n78 (a0, a1, a2, a3, a4, false, false, false, true)).bind fun y78 => (bif (!y78) then (some false) else ((L42_1 (n42 k) 1000000000000 (0, a0, a1, a2, a3, a4) ()).bind fun p131 => match p131.1 with | .x0 z132 z133 z134 z135 z136 z137 => (some z132) | .x1 z138 z139 z140 z141 z142 => (some true)))) else (bif (a0 == 7) then ((n78 (a0, a1, a2, a3, a4, false, false, false, true)).bind fun y143 => (bif (!y143) then (some false) else ((L42_1 (n42 k) 1000000000000 (0, a0, a1, a2, a3, a4) ()).bind fun p196 => match p196.1 with | .x0 z197 z198 z199 z200 z201 z202 => (some z197) | .x1 z203 z204 z205 z206 z207 => (some true)))) else (some false))))))))
def e42 : PureE := mkE d42 (n42 64) (fun a5 => .one (.val (.bool a5)))
def g42 (k : Nat) {σ : Type} : Nat → Option (SegE σ)
  | 1 => some (l42_1.seg σ (L42_1 (n42 k) 1000000000000))
  | _ => none
theorem E42_1 {σ : Type} (k : Nat) (Y : Yd σ) : ∀ n a (s : σ), L42_1 (n42 k) (n + 1) a s = evK (cfgOf Tryz.prog (tabsS1 gl) (((42, mkE d42 (n42 k) (fun a5 => .one (.val (.bool a5)))) :: tS5) : Tab)) (toldOf (((42, mkE d42 (n42 k) (fun a5 => .one (.val (.bool a5)))) :: tS5) : Tab)) Y (inlN (cfgOf Tryz.prog (tabsS1 gl) (((42, mkE d42 (n42 k) (fun a5 => .one (.val (.bool a5)))) :: tS5) : Tab)) (toldOf (((42, mkE d42 (n42 k) (fun a5 => .one (.val (.bool a5)))) :: tS5) : Tab)) Y) (g42 k) 42 (loopAt Tryz.f42 1) ((l42_1.toT σ).enc a s) (fun ex st' => l42_1.next (cfgOf Tryz.prog (tabsS1 gl) (((42, mkE d42 (n42 k) (fun a5 => .one (.val (.bool a5)))) :: tS5) : Tab)) 42 1 (L42_1 (n42 k) n) ex st') := by
  intro n ⟨v14, v15, v16, v17, v18, v19⟩ s
  kernel_rfl
theorem Q42_1 {σ : Type} (hl : LibFits gl) (k : Nat) (hk : TabOk Tryz.prog gl (((42, mkE d42 (n42 k) (fun a5 => .one (.val (.bool a5)))) :: tS5) : Tab)) (Y : Yd σ) (rnd : Bool) : SegOk (cfgOf Tryz.prog (tabsS1 gl) (((42, mkE d42 (n42 k) (fun a5 => .one (.val (.bool a5)))) :: tS5) : Tab)) (evFn (cfgOf Tryz.prog (tabsS1 gl) (((42, mkE d42 (n42 k) (fun a5 => .one (.val (.bool a5)))) :: tS5) : Tab)) 9) 42 rnd Y (l42_1.seg σ (L42_1 (n42 k) 1000000000000)) (.block 1 (.loop (loopAt Tryz.f42 1))) :=
  told_loop hk k42_1 (by kernel_rfl) (by kernel_rfl) (fun _ _ => rfl) (segs_no (by kernel_rfl)) (E42_1 k Y) (hr := by kernel_rfl)
theorem N42 : ∀ k a, n42 (k + 1) a = bodyK (cfgOf Tryz.prog (tabsS1 gl) (((42, mkE d42 (n42 k) (fun a5 => .one (.val (.bool a5)))) :: tS5) : Tab)) (toldOf (((42, mkE d42 (n42 k) (fun a5 => .one (.val (.bool a5)))) :: tS5) : Tab)) noY (inlN (cfgOf Tryz.prog (tabsS1 gl) (((42, mkE d42 (n42 k) (fun a5 => .one (.val (.bool a5)))) :: tS5) : Tab)) (toldOf (((42, mkE d42 (n42 k) (fun a5 => .one (.val (.bool a5)))) :: tS5) : Tab)) noY) (g42 k) 42 Tryz.f42 (((fun (a0, a1, a2, a3, a4) => [.agg [.val (.int .i64 a0), .val (.int .i64 a1), .val (.int .i64 a2), .val (.string a3), .slice a4]] : (Int × Int × Int × ByteArray × List D) → List D) a).map .d) [] [] () (fun v _ _ _ => r42 v) := by
  intro k a
  obtain ⟨a0, a1, a2, a3, a4⟩ := a
  kernel_rfl
noncomputable def t42 : Tab := (42, e42) :: tS5
theorem ok42 (hl : LibFits gl) : TabOk Tryz.prog gl t42 :=
  told_rec (t := tabsS1 gl) (okS5 hl) mixed (oddOkS1 hl) Tryz.func42 (by kernel_rfl) (nat := n42) (seg := fun k => g42 k) (by kernel_rfl) (fun k hk => (fun p hp e he => by
    have hq : segsOf (σ := Unit) (g42 k (σ := Unit)) (bodyOf Tryz.f42) = [(1, .loop (loopAt Tryz.f42 1))] := by kernel_rfl
    rw [hq] at hp
    simp only [List.mem_cons, List.not_mem_nil, or_false] at hp
    subst hp
    cases he
    exact Q42_1 hl k hk _ _))
    (args := fun (a0, a1, a2, a3, a4) => [.agg [.val (.int .i64 a0), .val (.int .i64 a1), .val (.int .i64 a2), .val (.string a3), .slice a4]]) (res := r42)
    (fun ds a h => by
      unfold d42 at h
      split at h
      · cases h; rfl
      · cases h)
    (fun v r h => by
      unfold r42 at h
      split at h
      · rename_i hv; cases h; exact hv
      · cases h)
    (fun _ => rfl) N42 64
def d15 (ds : List D) : Option (Int × Int × Int × ByteArray × List D) := match ds with
  | [.agg [.val (.int .i64 a0), .val (.int .i64 a1), .val (.int .i64 a2), .val (.string a3), .slice a4]] => some (a0, a1, a2, a3, a4)
  | _ => none
def r15 (v : AV) : Option (Int) := match toPR v with
  | some (.one (.val (.int .i64 a5))) => some a5
  | _ => none
def n15 : Int × Int × Int × ByteArray × List D → Option (Int) := fun (a0, a1, a2, a3, a4) => ((n43 (a0, a1, a2, a3, a4)).bind fun y6 => (bif (!y6) then (some 40) else ((n44 64 (a0, a1, a2, a3, a4)).bind fun y7 => (bif (!y7) then (some 40) else (some 0)))))
def e15 : PureE := mkE d15 n15 (fun a5 => .one (.val (.int .i64 a5)))
def g15 {σ : Type} : Nat → Option (SegE σ)
  | _ => none
theorem N15 : ∀ a, n15 a = bodyK (cfgOf Tryz.prog (tabsS1 gl) tS5) (toldOf tS5) noY (inlN (cfgOf Tryz.prog (tabsS1 gl) tS5) (toldOf tS5) noY) g15 15 Tryz.f15 (((fun (a0, a1, a2, a3, a4) => [.agg [.val (.int .i64 a0), .val (.int .i64 a1), .val (.int .i64 a2), .val (.string a3), .slice a4]] : (Int × Int × Int × ByteArray × List D) → List D) a).map .d) [] [] () (fun v _ _ _ => r15 v) := by
  intro a
  obtain ⟨a0, a1, a2, a3, a4⟩ := a
  kernel_rfl
noncomputable def t15 : Tab := (15, e15) :: tS5
theorem ok15 (hl : LibFits gl) : TabOk Tryz.prog gl t15 :=
  told_fn (okS5 hl) mixed (oddOkS1 hl) Tryz.func15 (by kernel_rfl) (by kernel_rfl) (by kernel_rfl) (segs_no (by kernel_rfl))
    (args := fun (a0, a1, a2, a3, a4) => [.agg [.val (.int .i64 a0), .val (.int .i64 a1), .val (.int .i64 a2), .val (.string a3), .slice a4]]) (res := r15)
    (fun ds a h => by
      unfold d15 at h
      split at h
      · cases h; rfl
      · cases h)
    (fun v r h => by
      unfold r15 at h
      split at h
      · rename_i hv; cases h; exact hv
      · cases h)
    N15
noncomputable def tS6 : Tab := (42, e42) :: (15, e15) :: tS5
theorem okS6 (hl : LibFits gl) : TabOk Tryz.prog gl tS6 :=
  TabOk.cons (TabOk.cons (okS5 hl) ((ok15 hl).fair (15, e15) (List.mem_cons_self (l := tS5))) ((ok15 hl).spec (15, e15) (List.mem_cons_self (l := tS5)))) ((ok42 hl).fair (42, e42) (List.mem_cons_self (l := tS5))) ((ok42 hl).spec (42, e42) (List.mem_cons_self (l := tS5)))
def d13 (ds : List D) : Option (Int × Int × Int × ByteArray × List D) := match ds with
  | [.agg [.val (.int .i64 a0), .val (.int .i64 a1), .val (.int .i64 a2), .val (.string a3), .slice a4]] => some (a0, a1, a2, a3, a4)
  | _ => none
def r13 (v : AV) : Option (Bool) := match toPR v with
  | some (.one (.val (.bool a5))) => some a5
  | _ => none
def n13 : Int × Int × Int × ByteArray × List D → Option (Bool) := fun (a0, a1, a2, a3, a4) => ((n41 64 (a0, a1, a2, a3, a4, 0, 1)).bind fun y6 => (bif (decide (y6 ≤ 4096)) then ((n42 64 (a0, a1, a2, a3, a4)).bind fun y7 => (some y7)) else (some false)))
def e13 : PureE := mkE d13 n13 (fun a5 => .one (.val (.bool a5)))
def g13 {σ : Type} : Nat → Option (SegE σ)
  | _ => none
theorem N13 : ∀ a, n13 a = bodyK (cfgOf Tryz.prog (tabsS1 gl) tS6) (toldOf tS6) noY (inlN (cfgOf Tryz.prog (tabsS1 gl) tS6) (toldOf tS6) noY) g13 13 Tryz.f13 (((fun (a0, a1, a2, a3, a4) => [.agg [.val (.int .i64 a0), .val (.int .i64 a1), .val (.int .i64 a2), .val (.string a3), .slice a4]] : (Int × Int × Int × ByteArray × List D) → List D) a).map .d) [] [] () (fun v _ _ _ => r13 v) := by
  intro a
  obtain ⟨a0, a1, a2, a3, a4⟩ := a
  kernel_rfl
noncomputable def t13 : Tab := (13, e13) :: tS6
theorem ok13 (hl : LibFits gl) : TabOk Tryz.prog gl t13 :=
  told_fn (okS6 hl) mixed (oddOkS1 hl) Tryz.func13 (by kernel_rfl) (by kernel_rfl) (by kernel_rfl) (segs_no (by kernel_rfl))
    (args := fun (a0, a1, a2, a3, a4) => [.agg [.val (.int .i64 a0), .val (.int .i64 a1), .val (.int .i64 a2), .val (.string a3), .slice a4]]) (res := r13)
    (fun ds a h => by
      unfold d13 at h
      split at h
      · cases h; rfl
      · cases h)
    (fun v r h => by
      unfold r13 at h
      split at h
      · rename_i hv; cases h; exact hv
      · cases h)
    N13
def d21 (ds : List D) : Option (Int × Int × Int × ByteArray × List D × Int × Int × Int × ByteArray × List D) := match ds with
  | [.agg [.val (.int .i64 a0), .val (.int .i64 a1), .val (.int .i64 a2), .val (.string a3), .slice a4], .agg [.val (.int .i64 a5), .val (.int .i64 a6), .val (.int .i64 a7), .val (.string a8), .slice a9]] => some (a0, a1, a2, a3, a4, a5, a6, a7, a8, a9)
  | _ => none
def r21 (v : AV) : Option (Int) := match toPR v with
  | some (.one (.val (.int .i64 a10))) => some a10
  | _ => none
def n21 : Int × Int × Int × ByteArray × List D × Int × Int × Int × ByteArray × List D → Option (Int) := fun (a0, a1, a2, a3, a4, a5, a6, a7, a8, a9) => ((n15 (a0, a1, a2, a3, a4)).bind fun y11 => ((n15 (a5, a6, a7, a8, a9)).bind fun y12 => (bif (bif (y11 == 0) then (y12 == 0) else false) then ((n49 64 (a0, a1, a2, a3, a4, a5, a6, a7, a8, a9)).bind fun y13 => (some y13)) else (bif (y11 == 0) then (some (-1)) else (bif (y12 == 0) then (some 1) else (some 0))))))
def e21 : PureE := mkE d21 n21 (fun a10 => .one (.val (.int .i64 a10)))
def g21 {σ : Type} : Nat → Option (SegE σ)
  | _ => none
theorem N21 : ∀ a, n21 a = bodyK (cfgOf Tryz.prog (tabsS1 gl) tS6) (toldOf tS6) noY (inlN (cfgOf Tryz.prog (tabsS1 gl) tS6) (toldOf tS6) noY) g21 21 Tryz.f21 (((fun (a0, a1, a2, a3, a4, a5, a6, a7, a8, a9) => [.agg [.val (.int .i64 a0), .val (.int .i64 a1), .val (.int .i64 a2), .val (.string a3), .slice a4], .agg [.val (.int .i64 a5), .val (.int .i64 a6), .val (.int .i64 a7), .val (.string a8), .slice a9]] : (Int × Int × Int × ByteArray × List D × Int × Int × Int × ByteArray × List D) → List D) a).map .d) [] [] () (fun v _ _ _ => r21 v) := by
  intro a
  obtain ⟨a0, a1, a2, a3, a4, a5, a6, a7, a8, a9⟩ := a
  kernel_rfl
noncomputable def t21 : Tab := (21, e21) :: tS6
theorem ok21 (hl : LibFits gl) : TabOk Tryz.prog gl t21 :=
  told_fn (okS6 hl) mixed (oddOkS1 hl) Tryz.func21 (by kernel_rfl) (by kernel_rfl) (by kernel_rfl) (segs_no (by kernel_rfl))
    (args := fun (a0, a1, a2, a3, a4, a5, a6, a7, a8, a9) => [.agg [.val (.int .i64 a0), .val (.int .i64 a1), .val (.int .i64 a2), .val (.string a3), .slice a4], .agg [.val (.int .i64 a5), .val (.int .i64 a6), .val (.int .i64 a7), .val (.string a8), .slice a9]]) (res := r21)
    (fun ds a h => by
      unfold d21 at h
      split at h
      · cases h; rfl
      · cases h)
    (fun v r h => by
      unfold r21 at h
      split at h
      · rename_i hv; cases h; exact hv
      · cases h)
    N21
noncomputable def tS7 : Tab := (13, e13) :: (21, e21) :: tS6
theorem okS7 (hl : LibFits gl) : TabOk Tryz.prog gl tS7 :=
  TabOk.cons (TabOk.cons (okS6 hl) ((ok21 hl).fair (21, e21) (List.mem_cons_self (l := tS6))) ((ok21 hl).spec (21, e21) (List.mem_cons_self (l := tS6)))) ((ok13 hl).fair (13, e13) (List.mem_cons_self (l := tS6))) ((ok13 hl).spec (13, e13) (List.mem_cons_self (l := tS6)))
def d22 (ds : List D) : Option (Int × Int × Int × ByteArray × List D × Int × Int × Int × ByteArray × List D) := match ds with
  | [.agg [.val (.int .i64 a0), .val (.int .i64 a1), .val (.int .i64 a2), .val (.string a3), .slice a4], .agg [.val (.int .i64 a5), .val (.int .i64 a6), .val (.int .i64 a7), .val (.string a8), .slice a9]] => some (a0, a1, a2, a3, a4, a5, a6, a7, a8, a9)
  | _ => none
def r22 (v : AV) : Option (Int) := match toPR v with
  | some (.one (.val (.int .i64 a10))) => some a10
  | _ => none
def n22 : Int × Int × Int × ByteArray × List D × Int × Int × Int × ByteArray × List D → Option (Int) := fun (a0, a1, a2, a3, a4, a5, a6, a7, a8, a9) => ((n13 (a0, a1, a2, a3, a4)).bind fun y11 => ((n13 (a5, a6, a7, a8, a9)).bind fun y12 => (bif (bif y11 then y12 else false) then ((n50 64 (a0, a1, a2, a3, a4, a5, a6, a7, a8, a9)).bind fun y13 => (some y13)) else ((n51 ((bif y11 then (!y12) else false), (bif y12 then (!y11) else false))).bind fun y14 => (some y14)))))
def e22 : PureE := mkE d22 n22 (fun a10 => .one (.val (.int .i64 a10)))
def g22 {σ : Type} : Nat → Option (SegE σ)
  | _ => none
theorem N22 : ∀ a, n22 a = bodyK (cfgOf Tryz.prog (tabsS1 gl) tS7) (toldOf tS7) noY (inlN (cfgOf Tryz.prog (tabsS1 gl) tS7) (toldOf tS7) noY) g22 22 Tryz.f22 (((fun (a0, a1, a2, a3, a4, a5, a6, a7, a8, a9) => [.agg [.val (.int .i64 a0), .val (.int .i64 a1), .val (.int .i64 a2), .val (.string a3), .slice a4], .agg [.val (.int .i64 a5), .val (.int .i64 a6), .val (.int .i64 a7), .val (.string a8), .slice a9]] : (Int × Int × Int × ByteArray × List D × Int × Int × Int × ByteArray × List D) → List D) a).map .d) [] [] () (fun v _ _ _ => r22 v) := by
  intro a
  obtain ⟨a0, a1, a2, a3, a4, a5, a6, a7, a8, a9⟩ := a
  kernel_rfl
noncomputable def t22 : Tab := (22, e22) :: tS7
theorem ok22 (hl : LibFits gl) : TabOk Tryz.prog gl t22 :=
  told_fn (okS7 hl) mixed (oddOkS1 hl) Tryz.func22 (by kernel_rfl) (by kernel_rfl) (by kernel_rfl) (segs_no (by kernel_rfl))
    (args := fun (a0, a1, a2, a3, a4, a5, a6, a7, a8, a9) => [.agg [.val (.int .i64 a0), .val (.int .i64 a1), .val (.int .i64 a2), .val (.string a3), .slice a4], .agg [.val (.int .i64 a5), .val (.int .i64 a6), .val (.int .i64 a7), .val (.string a8), .slice a9]]) (res := r22)
    (fun ds a h => by
      unfold d22 at h
      split at h
      · cases h; rfl
      · cases h)
    (fun v r h => by
      unfold r22 at h
      split at h
      · rename_i hv; cases h; exact hv
      · cases h)
    N22
noncomputable def tS8 : Tab := (22, e22) :: tS7
theorem okS8 (hl : LibFits gl) : TabOk Tryz.prog gl tS8 :=
  TabOk.cons (okS7 hl) ((ok22 hl).fair (22, e22) (List.mem_cons_self (l := tS7))) ((ok22 hl).spec (22, e22) (List.mem_cons_self (l := tS7)))
def d4 (ds : List D) : Option (Int × Int × Int × ByteArray × List D × Int × Int × Int × ByteArray × List D) := match ds with
  | [.agg [.val (.int .i64 a0), .val (.int .i64 a1), .val (.int .i64 a2), .val (.string a3), .slice a4], .agg [.val (.int .i64 a5), .val (.int .i64 a6), .val (.int .i64 a7), .val (.string a8), .slice a9]] => some (a0, a1, a2, a3, a4, a5, a6, a7, a8, a9)
  | _ => none
def r4 (v : AV) : Option (Bool) := match toPR v with
  | some (.one (.val (.bool a10))) => some a10
  | _ => none
def n4 : Int × Int × Int × ByteArray × List D × Int × Int × Int × ByteArray × List D → Option (Bool) := fun (a0, a1, a2, a3, a4, a5, a6, a7, a8, a9) => ((n21 (a0, a1, a2, a3, a4, a5, a6, a7, a8, a9)).bind fun y11 => ((n22 (a0, a1, a2, a3, a4, a5, a6, a7, a8, a9)).bind fun y12 => (bif (y11 == y12) then ((n20 ()).bind fun y13 => (some y13)) else (some false))))
def e4 : PureE := mkE d4 n4 (fun a10 => .one (.val (.bool a10)))
def g4 {σ : Type} : Nat → Option (SegE σ)
  | _ => none
theorem N4 : ∀ a, n4 a = bodyK (cfgOf Tryz.prog (tabsS1 gl) tS8) (toldOf tS8) noY (inlN (cfgOf Tryz.prog (tabsS1 gl) tS8) (toldOf tS8) noY) g4 4 Tryz.f4 (((fun (a0, a1, a2, a3, a4, a5, a6, a7, a8, a9) => [.agg [.val (.int .i64 a0), .val (.int .i64 a1), .val (.int .i64 a2), .val (.string a3), .slice a4], .agg [.val (.int .i64 a5), .val (.int .i64 a6), .val (.int .i64 a7), .val (.string a8), .slice a9]] : (Int × Int × Int × ByteArray × List D × Int × Int × Int × ByteArray × List D) → List D) a).map .d) [] [] () (fun v _ _ _ => r4 v) := by
  intro a
  obtain ⟨a0, a1, a2, a3, a4, a5, a6, a7, a8, a9⟩ := a
  kernel_rfl
noncomputable def t4 : Tab := (4, e4) :: tS8
theorem ok4 (hl : LibFits gl) : TabOk Tryz.prog gl t4 :=
  told_fn (okS8 hl) mixed (oddOkS1 hl) Tryz.func4 (by kernel_rfl) (by kernel_rfl) (by kernel_rfl) (segs_no (by kernel_rfl))
    (args := fun (a0, a1, a2, a3, a4, a5, a6, a7, a8, a9) => [.agg [.val (.int .i64 a0), .val (.int .i64 a1), .val (.int .i64 a2), .val (.string a3), .slice a4], .agg [.val (.int .i64 a5), .val (.int .i64 a6), .val (.int .i64 a7), .val (.string a8), .slice a9]]) (res := r4)
    (fun ds a h => by
      unfold d4 at h
      split at h
      · cases h; rfl
      · cases h)
    (fun v r h => by
      unfold r4 at h
      split at h
      · rename_i hv; cases h; exact hv
      · cases h)
    N4
def d5 (ds : List D) : Option (Int × Int × Int × ByteArray × List D × Int × Int × Int × ByteArray × List D × Int × Int × Int × ByteArray × List D) := match ds with
  | [.agg [.val (.int .i64 a0), .val (.int .i64 a1), .val (.int .i64 a2), .val (.string a3), .slice a4], .agg [.val (.int .i64 a5), .val (.int .i64 a6), .val (.int .i64 a7), .val (.string a8), .slice a9], .agg [.val (.int .i64 a10), .val (.int .i64 a11), .val (.int .i64 a12), .val (.string a13), .slice a14]] => some (a0, a1, a2, a3, a4, a5, a6, a7, a8, a9, a10, a11, a12, a13, a14)
  | _ => none
def r5 (v : AV) : Option (Bool) := match toPR v with
  | some (.one (.val (.bool a15))) => some a15
  | _ => none
def n5 : Int × Int × Int × ByteArray × List D × Int × Int × Int × ByteArray × List D × Int × Int × Int × ByteArray × List D → Option (Bool) := fun (a0, a1, a2, a3, a4, a5, a6, a7, a8, a9, a10, a11, a12, a13, a14) => ((n15 (a0, a1, a2, a3, a4)).bind fun y16 => ((n14 y16).bind fun y17 => (bif (y17 != 0) then ((n20 ()).bind fun y18 => (some y18)) else ((n15 (a5, a6, a7, a8, a9)).bind fun y19 => ((n14 y19).bind fun y20 => (bif (y20 != 0) then ((n20 ()).bind fun y21 => (some y21)) else ((n15 (a10, a11, a12, a13, a14)).bind fun y22 => ((n14 y22).bind fun y23 => (bif (y23 != 0) then ((n20 ()).bind fun y24 => (some y24)) else ((n21 (a0, a1, a2, a3, a4, a5, a6, a7, a8, a9)).bind fun y25 => ((n21 (a5, a6, a7, a8, a9, a10, a11, a12, a13, a14)).bind fun y26 => ((n21 (a0, a1, a2, a3, a4, a10, a11, a12, a13, a14)).bind fun y27 => (bif (bif (decide (y25 < (-1))) then true else (decide (y25 > 1))) then (some false) else ((n21 (a5, a6, a7, a8, a9, a0, a1, a2, a3, a4)).bind fun y28 => (bif (y28 != (w64 (0 - y25))) then (some false) else ((n21 (a0, a1, a2, a3, a4, a0, a1, a2, a3, a4)).bind fun y29 => (bif (y29 != 0) then (some false) else ((n23 64 (a0, a1, a2, a3, a4, a5, a6, a7, a8, a9)).bind fun y30 => (bif (!((y25 == 0) == y30)) then (some false) else (bif (bif (bif (decide (y25 ≤ 0)) then (decide (y26 ≤ 0)) else false) then (decide (y27 > 0)) else false) then (some false) else (bif (decide (y25 ≤ 0)) then (bif (decide (y26 ≤ 0)) then (bif (y27 == 0) then (bif (y25 != 0) then (some false) else (bif (y26 != 0) then (some false) else (bif (decide (y25 ≥ 0)) then (bif (decide (y26 ≥ 0)) then (bif (decide (y27 < 0)) then (some false) else ((n20 ()).bind fun y31 => (some y31))) else ((n20 ()).bind fun y32 => (some y32))) else ((n20 ()).bind fun y33 => (some y33))))) else (bif (decide (y25 ≥ 0)) then (bif (decide (y26 ≥ 0)) then (bif (decide (y27 < 0)) then (some false) else ((n20 ()).bind fun y34 => (some y34))) else ((n20 ()).bind fun y35 => (some y35))) else ((n20 ()).bind fun y36 => (some y36)))) else (bif (decide (y25 ≥ 0)) then (bif (decide (y26 ≥ 0)) then (bif (decide (y27 < 0)) then (some false) else ((n20 ()).bind fun y37 => (some y37))) else ((n20 ()).bind fun y38 => (some y38))) else ((n20 ()).bind fun y39 => (some y39)))) else (bif (decide (y25 ≥ 0)) then (bif (decide (y26 ≥ 0)) then (bif (decide (y27 < 0)) then (some false) else ((n20 ()).bind fun y40 => (some y40))) else ((n20 ()).bind fun y41 => (some y41))) else ((n20 ()).bind fun y42 => (some y42))))))))))))))))))))))))
def e5 : PureE := mkE d5 n5 (fun a15 => .one (.val (.bool a15)))
def g5 {σ : Type} : Nat → Option (SegE σ)
  | _ => none
theorem N5 : ∀ a, n5 a = bodyK (cfgOf Tryz.prog (tabsS1 gl) tS8) (toldOf tS8) noY (inlN (cfgOf Tryz.prog (tabsS1 gl) tS8) (toldOf tS8) noY) g5 5 Tryz.f5 (((fun (a0, a1, a2, a3, a4, a5, a6, a7, a8, a9, a10, a11, a12, a13, a14) => [.agg [.val (.int .i64 a0), .val (.int .i64 a1), .val (.int .i64 a2), .val (.string a3), .slice a4], .agg [.val (.int .i64 a5), .val (.int .i64 a6), .val (.int .i64 a7), .val (.string a8), .slice a9], .agg [.val (.int .i64 a10), .val (.int .i64 a11), .val (.int .i64 a12), .val (.string a13), .slice a14]] : (Int × Int × Int × ByteArray × List D × Int × Int × Int × ByteArray × List D × Int × Int × Int × ByteArray × List D) → List D) a).map .d) [] [] () (fun v _ _ _ => r5 v) := by
  intro a
  obtain ⟨a0, a1, a2, a3, a4, a5, a6, a7, a8, a9, a10, a11, a12, a13, a14⟩ := a
  kernel_rfl
noncomputable def t5 : Tab := (5, e5) :: tS8
theorem ok5 (hl : LibFits gl) : TabOk Tryz.prog gl t5 :=
  told_fn (okS8 hl) mixed (oddOkS1 hl) Tryz.func5 (by kernel_rfl) (by kernel_rfl) (by kernel_rfl) (segs_no (by kernel_rfl))
    (args := fun (a0, a1, a2, a3, a4, a5, a6, a7, a8, a9, a10, a11, a12, a13, a14) => [.agg [.val (.int .i64 a0), .val (.int .i64 a1), .val (.int .i64 a2), .val (.string a3), .slice a4], .agg [.val (.int .i64 a5), .val (.int .i64 a6), .val (.int .i64 a7), .val (.string a8), .slice a9], .agg [.val (.int .i64 a10), .val (.int .i64 a11), .val (.int .i64 a12), .val (.string a13), .slice a14]]) (res := r5)
    (fun ds a h => by
      unfold d5 at h
      split at h
      · cases h; rfl
      · cases h)
    (fun v r h => by
      unfold r5 at h
      split at h
      · rename_i hv; cases h; exact hv
      · cases h)
    N5
noncomputable def tS9 : Tab := (4, e4) :: (5, e5) :: tS8
theorem okS9 (hl : LibFits gl) : TabOk Tryz.prog gl tS9 :=
  TabOk.cons (TabOk.cons (okS8 hl) ((ok5 hl).fair (5, e5) (List.mem_cons_self (l := tS8))) ((ok5 hl).spec (5, e5) (List.mem_cons_self (l := tS8)))) ((ok4 hl).fair (4, e4) (List.mem_cons_self (l := tS8))) ((ok4 hl).spec (4, e4) (List.mem_cons_self (l := tS8)))
abbrev A84_0 := Int × ByteArray × Nat
inductive O84_0 where
  | x0 (o5 : Int) (o6 : ByteArray) (q7 : Nat)
def l84_0 : LoopS A84_0 O84_0 where
  n := 19
  ks := [0, 3]
  kso := [0, 3]
  m := 0
  mt := 2
  decV := fun vs bs ts => match vs, bs, ts with
    | [.d (.val (.int .u64 v2)), .obs 1 v3], [], [k4, _] => some (v2, v3, k4)
    | _, _, _ => none
  encV := fun (v2, v3, k4) => [.d (.val (.int .u64 v2)), .obs 1 v3]
  encB := fun (v2, v3, k4) => []
  tk := fun (v2, v3, k4) => [k4, v3.size]
  decO := fun ex vs bs ts => match ex, vs, bs, ts with
    | .normal, [.d (.val (.int .u64 o5)), .obs 1 o6], [], [q7, _] => some (.x0 o5 o6 q7)
    | _, _, _, _ => none
  exO := fun x => match x with
    | .x0 o5 o6 q7 => .normal
  outV := fun x => match x with
    | .x0 o5 o6 q7 => [.d (.val (.int .u64 o5)), .obs 1 o6]
  outB := fun x => match x with
    | .x0 o5 o6 q7 => []
  tkO := fun x => match x with
    | .x0 o5 o6 q7 => [q7, o6.size]
  elim := fun x k => match x with
    | .x0 o5 o6 q7 => k .normal [.d (.val (.int .u64 o5)), .obs 1 o6] [] [q7, o6.size]
theorem k84_0 : l84_0.Ok where
  ok1 := by kernel_rfl
  ok2 := by kernel_rfl
  dec := by
    intro vs bs ts a h
    simp only [l84_0] at h ⊢
    split at h
    · cases h; exact ⟨rfl, rfl⟩
    · cases h
  out := by
    intro ex vs bs ts o h
    simp only [l84_0] at h ⊢
    split at h
    · cases h; exact ⟨rfl, rfl, rfl⟩
    · cases h
  len := fun _ => ⟨rfl, rfl⟩
  elim := fun β o k => by cases o <;> rfl
def L84_0 {σ : Type} : Nat → A84_0 → σ → Option (O84_0 × σ)
  | 0, _, _ => none
  | n+1, (v2, v3, k4), s => (bif (decide (v2 ≥ 128)) then (ask (byteOk (bOr .u8 (wu8 v2) 128)) (ask (addBOk v3.size v3 (bcons (bOr .u8 (wu8 v2) 128) ByteArray.empty) 1) (ask (([k4, (v3.size + (bcons (bOr .u8 (wu8 v2) 128) ByteArray.empty).size)] : List Nat) = [k4, (v3 ++ (bcons (bOr .u8 (wu8 v2) 128) ByteArray.empty)).size]) (L84_0 n (((v2 : Int).fdiv (2 ^ (min (Int.toNat 7) 64))), (v3 ++ (bcons (bOr .u8 (wu8 v2) 128) ByteArray.empty)), k4) s)))) else (ask (([k4, v3.size] : List Nat) = [k4, v3.size]) (some (O84_0.x0 v2 v3 k4, s))))
def d84 (ds : List D) : Option (Int) := match ds with
  | [.val (.int .u64 a0)] => some a0
  | _ => none
def r84 (v : AV) : Option (ByteArray) := match toPR v with
  | some (.one (.bytes a1)) => some a1
  | _ => none
def n84 : Int → Option (ByteArray) := fun a0 => (ask (([0, 0] : List Nat) = [0, ByteArray.empty.size]) ((L84_0 1000000000000 (a0, ByteArray.empty, 0) ()).bind fun p8 => match p8.1 with | .x0 z9 z10 z11 => (ask (byteOk (wu8 z9)) (ask (addBOk z10.size z10 (bcons (wu8 z9) ByteArray.empty) 1) (some (z10 ++ (bcons (wu8 z9) ByteArray.empty)))))))
def e84 : PureE := mkE d84 n84 (fun a1 => .one (.bytes a1))
def g84 {σ : Type} : Nat → Option (SegE σ)
  | 0 => some (l84_0.seg σ (L84_0 1000000000000))
  | _ => none
theorem E84_0 {σ : Type} (Y : Yd σ) : ∀ n a (s : σ), L84_0 (n + 1) a s = evK (cfgOf Tryz.prog (tabsS1 gl) tS9) (toldOf tS9) Y (inlN (cfgOf Tryz.prog (tabsS1 gl) tS9) (toldOf tS9) Y) g84 84 (loopAt Tryz.f84 0) ((l84_0.toT σ).enc a s) (fun ex st' => l84_0.next (cfgOf Tryz.prog (tabsS1 gl) tS9) 84 0 (L84_0 n) ex st') := by
  intro n ⟨v2, v3, k4⟩ s
  kernel_rfl
theorem Q84_0 {σ : Type} (hl : LibFits gl) (Y : Yd σ) (rnd : Bool) : SegOk (cfgOf Tryz.prog (tabsS1 gl) tS9) (evFn (cfgOf Tryz.prog (tabsS1 gl) tS9) 9) 84 rnd Y (l84_0.seg σ (L84_0 1000000000000)) (.block 0 (.loop (loopAt Tryz.f84 0))) :=
  told_loop (okS9 hl) k84_0 (by kernel_rfl) (by kernel_rfl) (fun _ _ => rfl) (segs_no (by kernel_rfl)) (E84_0 Y) (hr := by kernel_rfl)
theorem N84 : ∀ a, n84 a = bodyK (cfgOf Tryz.prog (tabsS1 gl) tS9) (toldOf tS9) noY (inlN (cfgOf Tryz.prog (tabsS1 gl) tS9) (toldOf tS9) noY) g84 84 Tryz.f84 (((fun a0 => [.val (.int .u64 a0)] : (Int) → List D) a).map .d) [] [] () (fun v _ _ _ => r84 v) := by
  intro a0
  kernel_rfl
noncomputable def t84 : Tab := (84, e84) :: tS9
theorem ok84 (hl : LibFits gl) : TabOk Tryz.prog gl t84 :=
  told_fn (okS9 hl) mixed (oddOkS1 hl) Tryz.func84 (by kernel_rfl) (by kernel_rfl) (by kernel_rfl) (fun p hp e he => by
    have hq : segsOf (σ := Unit) (g84 (σ := Unit)) (bodyOf Tryz.f84) = [(0, .loop (loopAt Tryz.f84 0))] := by kernel_rfl
    rw [hq] at hp
    simp only [List.mem_cons, List.not_mem_nil, or_false] at hp
    subst hp
    cases he
    exact Q84_0 hl _ _)
    (args := fun a0 => [.val (.int .u64 a0)]) (res := r84)
    (fun ds a h => by
      unfold d84 at h
      split at h
      · cases h; rfl
      · cases h)
    (fun v r h => by
      unfold r84 at h
      split at h
      · rename_i hv; cases h; exact hv
      · cases h)
    N84
def d85 (ds : List D) : Option (Int) := match ds with
  | [.val (.int .u64 a0)] => some a0
  | _ => none
def r85 (v : AV) : Option (ByteArray) := match toPR v with
  | some (.one (.bytes a1)) => some a1
  | _ => none
def n85 : Nat → Int → Option (ByteArray)
  | 0, _ => none
  | k + 1, a0 => (bif (decide (a0 < 128)) then (ask (byteOk (wu8 a0)) (some (bcons (wu8 a0) ByteArray.empty))) else (ask (byteOk (bOr .u8 (wu8 a0) 128)) ((n85 k ((a0 : Int).fdiv (2 ^ (min (Int.toNat 7) 64)))).bind fun y2 => (ask (addBOk ((bcons (bOr .u8 (wu8 a0) 128) ByteArray.empty).size) (bcons (bOr .u8 (wu8 a0) 128) ByteArray.empty) y2 1) (some ((bcons (bOr .u8 (wu8 a0) 128) ByteArray.empty) ++ y2))))))
def e85 : PureE := mkE d85 (n85 64) (fun a1 => .one (.bytes a1))
def g85 {σ : Type} : Nat → Option (SegE σ)
  | _ => none
theorem N85 : ∀ k a, n85 (k + 1) a = bodyK (cfgOf Tryz.prog (tabsS1 gl) (((85, mkE d85 (n85 k) (fun a1 => .one (.bytes a1))) :: tS9) : Tab)) (toldOf (((85, mkE d85 (n85 k) (fun a1 => .one (.bytes a1))) :: tS9) : Tab)) noY (inlN (cfgOf Tryz.prog (tabsS1 gl) (((85, mkE d85 (n85 k) (fun a1 => .one (.bytes a1))) :: tS9) : Tab)) (toldOf (((85, mkE d85 (n85 k) (fun a1 => .one (.bytes a1))) :: tS9) : Tab)) noY) g85 85 Tryz.f85 (((fun a0 => [.val (.int .u64 a0)] : (Int) → List D) a).map .d) [] [] () (fun v _ _ _ => r85 v) := by
  intro k a0
  kernel_rfl
noncomputable def t85 : Tab := (85, e85) :: tS9
theorem ok85 (hl : LibFits gl) : TabOk Tryz.prog gl t85 :=
  told_rec (t := tabsS1 gl) (okS9 hl) mixed (oddOkS1 hl) Tryz.func85 (by kernel_rfl) (nat := n85) (seg := fun _ => g85) (by kernel_rfl) (fun k hk => (segs_no (by kernel_rfl)))
    (args := fun a0 => [.val (.int .u64 a0)]) (res := r85)
    (fun ds a h => by
      unfold d85 at h
      split at h
      · cases h; rfl
      · cases h)
    (fun v r h => by
      unfold r85 at h
      split at h
      · rename_i hv; cases h; exact hv
      · cases h)
    (fun _ => rfl) N85 64
def d86 (ds : List D) : Option (Int) := match ds with
  | [.val (.int .i64 a0)] => some a0
  | _ => none
def r86 (v : AV) : Option (Int) := match toPR v with
  | some (.one (.val (.int .u64 a1))) => some a1
  | _ => none
def n86 : Int → Option (Int) := fun a0 => (bif (decide (a0 < 0)) then (some (wu64 ((wu64 (2 * (wu64 (w64 (0 - (w64 (a0 + 1))))))) + 1))) else (some (wu64 (2 * (wu64 a0)))))
def e86 : PureE := mkE d86 n86 (fun a1 => .one (.val (.int .u64 a1)))
def g86 {σ : Type} : Nat → Option (SegE σ)
  | _ => none
theorem N86 : ∀ a, n86 a = bodyK (cfgOf Tryz.prog (tabsS1 gl) tS9) (toldOf tS9) noY (inlN (cfgOf Tryz.prog (tabsS1 gl) tS9) (toldOf tS9) noY) g86 86 Tryz.f86 (((fun a0 => [.val (.int .i64 a0)] : (Int) → List D) a).map .d) [] [] () (fun v _ _ _ => r86 v) := by
  intro a0
  kernel_rfl
noncomputable def t86 : Tab := (86, e86) :: tS9
theorem ok86 (hl : LibFits gl) : TabOk Tryz.prog gl t86 :=
  told_fn (okS9 hl) mixed (oddOkS1 hl) Tryz.func86 (by kernel_rfl) (by kernel_rfl) (by kernel_rfl) (segs_no (by kernel_rfl))
    (args := fun a0 => [.val (.int .i64 a0)]) (res := r86)
    (fun ds a h => by
      unfold d86 at h
      split at h
      · cases h; rfl
      · cases h)
    (fun v r h => by
      unfold r86 at h
      split at h
      · rename_i hv; cases h; exact hv
      · cases h)
    N86
noncomputable def tS10 : Tab := (84, e84) :: (85, e85) :: (86, e86) :: tS9
theorem okS10 (hl : LibFits gl) : TabOk Tryz.prog gl tS10 :=
  TabOk.cons (TabOk.cons (TabOk.cons (okS9 hl) ((ok86 hl).fair (86, e86) (List.mem_cons_self (l := tS9))) ((ok86 hl).spec (86, e86) (List.mem_cons_self (l := tS9)))) ((ok85 hl).fair (85, e85) (List.mem_cons_self (l := tS9))) ((ok85 hl).spec (85, e85) (List.mem_cons_self (l := tS9)))) ((ok84 hl).fair (84, e84) (List.mem_cons_self (l := tS9))) ((ok84 hl).spec (84, e84) (List.mem_cons_self (l := tS9)))
abbrev AO84_0 := Int × ByteArray × Nat
inductive OO84_0 where
  | x0 (o5 : Int) (o6 : ByteArray) (q7 : Nat)
def lO84_0 : LoopS AO84_0 OO84_0 where
  n := 19
  ks := [0, 3]
  kso := [0, 3]
  m := 0
  mt := 2
  decV := fun vs bs ts => match vs, bs, ts with
    | [.d (.val (.int .u64 v2)), .obs 1 v3], [], [k4, _] => some (v2, v3, k4)
    | _, _, _ => none
  encV := fun (v2, v3, k4) => [.d (.val (.int .u64 v2)), .obs 1 v3]
  encB := fun (v2, v3, k4) => []
  tk := fun (v2, v3, k4) => [k4, v3.size]
  decO := fun ex vs bs ts => match ex, vs, bs, ts with
    | .normal, [.d (.val (.int .u64 o5)), .obs 1 o6], [], [q7, _] => some (.x0 o5 o6 q7)
    | _, _, _, _ => none
  exO := fun x => match x with
    | .x0 o5 o6 q7 => .normal
  outV := fun x => match x with
    | .x0 o5 o6 q7 => [.d (.val (.int .u64 o5)), .obs 1 o6]
  outB := fun x => match x with
    | .x0 o5 o6 q7 => []
  tkO := fun x => match x with
    | .x0 o5 o6 q7 => [q7, o6.size]
  elim := fun x k => match x with
    | .x0 o5 o6 q7 => k .normal [.d (.val (.int .u64 o5)), .obs 1 o6] [] [q7, o6.size]
theorem kO84_0 : lO84_0.Ok where
  ok1 := by kernel_rfl
  ok2 := by kernel_rfl
  dec := by
    intro vs bs ts a h
    simp only [lO84_0] at h ⊢
    split at h
    · cases h; exact ⟨rfl, rfl⟩
    · cases h
  out := by
    intro ex vs bs ts o h
    simp only [lO84_0] at h ⊢
    split at h
    · cases h; exact ⟨rfl, rfl, rfl⟩
    · cases h
  len := fun _ => ⟨rfl, rfl⟩
  elim := fun β o k => by cases o <;> rfl
def LO84_0 {σ : Type} : Nat → AO84_0 → σ → Option (OO84_0 × σ)
  | 0, _, _ => none
  | n+1, (v2, v3, k4), s => (bif (decide (v2 ≥ 128)) then (ask (byteOk (bOr .u8 (wu8 v2) 128)) (ask (addBOk v3.size v3 (bcons (bOr .u8 (wu8 v2) 128) ByteArray.empty) 1) (ask (([k4, (v3.size + (bcons (bOr .u8 (wu8 v2) 128) ByteArray.empty).size)] : List Nat) = [k4, (v3 ++ (bcons (bOr .u8 (wu8 v2) 128) ByteArray.empty)).size]) (LO84_0 n (((v2 : Int).fdiv (2 ^ (min (Int.toNat 7) 64))), (v3 ++ (bcons (bOr .u8 (wu8 v2) 128) ByteArray.empty)), k4) s)))) else (ask (([k4, v3.size] : List Nat) = [k4, v3.size]) (some (OO84_0.x0 v2 v3 k4, s))))
def dO84 (ds : List D) : Option (Int) := match ds with
  | [.val (.int .u64 a0)] => some a0
  | _ => none
def rO84 (v : AV) (tk : List Nat) : Option (ByteArray) := match v with
  | .obs j r1 => (tk[j]?).bind fun n => ask (n = r1.size) (some r1)
  | _ => none
def wO84 : (ByteArray) → ByteArray := fun r1 => r1
def xO84 : (ByteArray) → List D := fun r1 => []
def nO84 : Int → Option (ByteArray) := fun a0 => (ask (([0, 0] : List Nat) = [0, ByteArray.empty.size]) ((LO84_0 1000000000000 (a0, ByteArray.empty, 0) ()).bind fun p8 => match p8.1 with | .x0 z9 z10 z11 => (ask (byteOk (wu8 z9)) (ask (addBOk z10.size z10 (bcons (wu8 z9) ByteArray.empty) 1) (ask ((z10.size + (bcons (wu8 z9) ByteArray.empty).size) = (z10 ++ (bcons (wu8 z9) ByteArray.empty)).size) (some (z10 ++ (bcons (wu8 z9) ByteArray.empty))))))))
def gO84 {σ : Type} : Nat → Option (SegE σ)
  | 0 => some (lO84_0.seg σ (LO84_0 1000000000000))
  | _ => none
theorem EO84_0 {σ : Type} (Y : Yd σ) : ∀ n a (s : σ), LO84_0 (n + 1) a s = evK (cfgOf Tryz.prog (tabsS1 gl) tS9) (toldOf tS9) Y (inlN (cfgOf Tryz.prog (tabsS1 gl) tS9) (toldOf tS9) Y) gO84 84 (loopAt Tryz.f84 0) ((lO84_0.toT σ).enc a s) (fun ex st' => lO84_0.next (cfgOf Tryz.prog (tabsS1 gl) tS9) 84 0 (LO84_0 n) ex st') := by
  intro n ⟨v2, v3, k4⟩ s
  kernel_rfl
theorem QO84_0 {σ : Type} (hl : LibFits gl) (Y : Yd σ) (rnd : Bool) : SegOk (cfgOf Tryz.prog (tabsS1 gl) tS9) (evFn (cfgOf Tryz.prog (tabsS1 gl) tS9) 9) 84 rnd Y (lO84_0.seg σ (LO84_0 1000000000000)) (.block 0 (.loop (loopAt Tryz.f84 0))) :=
  told_loop (okS9 hl) kO84_0 (by kernel_rfl) (by kernel_rfl) (fun _ _ => rfl) (segs_no (by kernel_rfl)) (EO84_0 Y) (hr := by kernel_rfl)
theorem NO84 : ∀ a, nO84 a = bodyK (cfgOf Tryz.prog (tabsS1 gl) tS9) (toldOf tS9) noY (inlN (cfgOf Tryz.prog (tabsS1 gl) tS9) (toldOf tS9) noY) gO84 84 Tryz.f84 ((((fun a0 => [.val (.int .u64 a0)]) : (Int) → List D) a).map .d) [] [] () (fun v _ tk _ => rO84 v tk) := by
  intro a0
  kernel_rfl
theorem omO84 (hl : LibFits gl) : OddSound Tryz.prog gl (fun g => bif Nat.beq g 84 then some (ownB dO84 nO84 wO84 xO84) else (tabsS1 gl).odd g) :=
  told_ownB (t := tabsS1 gl) (okS9 hl) mixed (oddOkS1 hl) Tryz.func84 (by kernel_rfl) (by kernel_rfl) (row := wO84) (rest := xO84) (args := (fun a0 => [.val (.int .u64 a0)])) (res := rO84) (by kernel_rfl) (fun p hp e he => by
    have hq : segsOf (σ := Unit) (gO84 (σ := Unit)) (bodyOf Tryz.f84) = [(0, .loop (loopAt Tryz.f84 0))] := by kernel_rfl
    rw [hq] at hp
    simp only [List.mem_cons, List.not_mem_nil, or_false] at hp
    subst hp
    cases he
    exact QO84_0 hl _ _)
    (fun ds a h => by
      unfold dO84 at h
      split at h
      · cases h; rfl
      · cases h)
    (fun v tk o h => by
      unfold rO84 at h
      split at h
      · obtain ⟨n, h1, h2⟩ := bind_some h
        obtain ⟨h3, h4⟩ := ask_some h2
        cases h4
        exact ⟨⟨_, rfl, h1.trans (congrArg some h3)⟩, rfl⟩
      · cases h)
    NO84
noncomputable def tabsS11 (gl : Nat → Option (List D)) : Tabs := { tabsS1 gl with odd := fun g => bif Nat.beq g 84 then some (ownB dO84 nO84 wO84 xO84) else ((tabsS1 gl).odd g) }
theorem oddOkS11 (hl : LibFits gl) : OddSound Tryz.prog gl (tabsS11 gl).odd := OddSound.join (omO84 hl) ((oddOkS1 hl))
noncomputable abbrev tS11 : Tab := tS10
theorem okS11 (hl : LibFits gl) : TabOk Tryz.prog gl tS11 := okS10 hl
def d83 (ds : List D) : Option (ByteArray) := match ds with
  | [.val (.string a0)] => some a0
  | _ => none
def r83 (v : AV) : Option (ByteArray) := match toPR v with
  | some (.one (.bytes a1)) => some a1
  | _ => none
def n83 : ByteArray → Option (ByteArray) := fun a0 => ((nO84 (wu64 (a0.size : Int))).bind fun y2 => (ask (addBOk y2.size y2 a0 1) (some (y2 ++ a0))))
def e83 : PureE := mkE d83 n83 (fun a1 => .one (.bytes a1))
def g83 {σ : Type} : Nat → Option (SegE σ)
  | _ => none
theorem N83 : ∀ a, n83 a = bodyK (cfgOf Tryz.prog (tabsS11 gl) tS11) (toldOf tS11) noY (inlN (cfgOf Tryz.prog (tabsS11 gl) tS11) (toldOf tS11) noY) g83 83 Tryz.f83 (((fun a0 => [.val (.string a0)] : (ByteArray) → List D) a).map .d) [] [] () (fun v _ _ _ => r83 v) := by
  intro a0
  kernel_rfl
noncomputable def t83 : Tab := (83, e83) :: tS11
theorem ok83 (hl : LibFits gl) : TabOk Tryz.prog gl t83 :=
  told_fn (okS11 hl) mixed (oddOkS11 hl) Tryz.func83 (by kernel_rfl) (by kernel_rfl) (by kernel_rfl) (segs_no (by kernel_rfl))
    (args := fun a0 => [.val (.string a0)]) (res := r83)
    (fun ds a h => by
      unfold d83 at h
      split at h
      · cases h; rfl
      · cases h)
    (fun v r h => by
      unfold r83 at h
      split at h
      · rename_i hv; cases h; exact hv
      · cases h)
    N83
noncomputable def tS12 : Tab := (83, e83) :: tS11
theorem okS12 (hl : LibFits gl) : TabOk Tryz.prog gl tS12 :=
  TabOk.cons (okS11 hl) ((ok83 hl).fair (83, e83) (List.mem_cons_self (l := tS11))) ((ok83 hl).spec (83, e83) (List.mem_cons_self (l := tS11)))
def d82 (ds : List D) : Option (Int) := match ds with
  | [.val (.int .i64 a0)] => some a0
  | _ => none
def r82 (v : AV) : Option (ByteArray) := match toPR v with
  | some (.one (.bytes a1)) => some a1
  | _ => none
def n82 : Int → Option (ByteArray) := fun a0 => (bif (decide (a0 < 0)) then ((n84 (bXor .u64 18446744073709551615 (wu64 ((wu64 a0) * 2 ^ (min (Int.toNat 1) 64))))).bind fun y2 => (some y2)) else ((n84 (wu64 ((wu64 a0) * 2 ^ (min (Int.toNat 1) 64)))).bind fun y3 => (some y3)))
def e82 : PureE := mkE d82 n82 (fun a1 => .one (.bytes a1))
def g82 {σ : Type} : Nat → Option (SegE σ)
  | _ => none
theorem N82 : ∀ a, n82 a = bodyK (cfgOf Tryz.prog (tabsS1 gl) tS12) (toldOf tS12) noY (inlN (cfgOf Tryz.prog (tabsS1 gl) tS12) (toldOf tS12) noY) g82 82 Tryz.f82 (((fun a0 => [.val (.int .i64 a0)] : (Int) → List D) a).map .d) [] [] () (fun v _ _ _ => r82 v) := by
  intro a0
  kernel_rfl
noncomputable def t82 : Tab := (82, e82) :: tS12
theorem ok82 (hl : LibFits gl) : TabOk Tryz.prog gl t82 :=
  told_fn (okS12 hl) mixed (oddOkS1 hl) Tryz.func82 (by kernel_rfl) (by kernel_rfl) (by kernel_rfl) (segs_no (by kernel_rfl))
    (args := fun a0 => [.val (.int .i64 a0)]) (res := r82)
    (fun ds a h => by
      unfold d82 at h
      split at h
      · cases h; rfl
      · cases h)
    (fun v r h => by
      unfold r82 at h
      split at h
      · rename_i hv; cases h; exact hv
      · cases h)
    N82
noncomputable def tS13 : Tab := (82, e82) :: tS12
theorem okS13 (hl : LibFits gl) : TabOk Tryz.prog gl tS13 :=
  TabOk.cons (okS12 hl) ((ok82 hl).fair (82, e82) (List.mem_cons_self (l := tS12))) ((ok82 hl).spec (82, e82) (List.mem_cons_self (l := tS12)))
abbrev A52_1 := ByteArray × List D × Int × Int × Int × Int × Int × ByteArray × List D × Nat × Nat
inductive O52_1 where
  | x0 (o37 : ByteArray) (o38 : Int) (o39 : Int) (o40 : Int) (o41 : ByteArray) (o42 : List D) (q43 : Nat) (q44 : Nat)
def l52_1 : LoopS A52_1 O52_1 where
  n := 67
  ks := [0, 56, 57, 58]
  kso := [0]
  m := 1
  mt := 3
  decV := fun vs bs ts => match vs, bs, ts with
    | [.obs 0 v14, .d (.slice v15), .d (.val (.int .i64 v16)), .d (.val (.int .i64 v17))], [.cells none [.d (.val (.int .i64 v18)), .d (.val (.int .i64 v19)), .d (.val (.int .i64 v20)), .d (.val (.string v21)), .d (.slice v22)]], [_, k23, k24] => some (v14, v15, v16, v17, v18, v19, v20, v21, v22, k23, k24)
    | _, _, _ => none
  encV := fun (v14, v15, v16, v17, v18, v19, v20, v21, v22, k23, k24) => [.obs 0 v14, .d (.slice v15), .d (.val (.int .i64 v16)), .d (.val (.int .i64 v17))]
  encB := fun (v14, v15, v16, v17, v18, v19, v20, v21, v22, k23, k24) => [.cells none [.d (.val (.int .i64 v18)), .d (.val (.int .i64 v19)), .d (.val (.int .i64 v20)), .d (.val (.string v21)), .d (.slice v22)]]
  tk := fun (v14, v15, v16, v17, v18, v19, v20, v21, v22, k23, k24) => [v14.size, k23, k24]
  decO := fun ex vs bs ts => match ex, vs, bs, ts with
    | .normal, [.obs 0 o37], [.cells none [.d (.val (.int .i64 o38)), .d (.val (.int .i64 o39)), .d (.val (.int .i64 o40)), .d (.val (.string o41)), .d (.slice o42)]], [_, q43, q44] => some (.x0 o37 o38 o39 o40 o41 o42 q43 q44)
    | _, _, _, _ => none
  exO := fun x => match x with
    | .x0 o37 o38 o39 o40 o41 o42 q43 q44 => .normal
  outV := fun x => match x with
    | .x0 o37 o38 o39 o40 o41 o42 q43 q44 => [.obs 0 o37]
  outB := fun x => match x with
    | .x0 o37 o38 o39 o40 o41 o42 q43 q44 => [.cells none [.d (.val (.int .i64 o38)), .d (.val (.int .i64 o39)), .d (.val (.int .i64 o40)), .d (.val (.string o41)), .d (.slice o42)]]
  tkO := fun x => match x with
    | .x0 o37 o38 o39 o40 o41 o42 q43 q44 => [o37.size, q43, q44]
  elim := fun x k => match x with
    | .x0 o37 o38 o39 o40 o41 o42 q43 q44 => k .normal [.obs 0 o37] [.cells none [.d (.val (.int .i64 o38)), .d (.val (.int .i64 o39)), .d (.val (.int .i64 o40)), .d (.val (.string o41)), .d (.slice o42)]] [o37.size, q43, q44]
theorem k52_1 : l52_1.Ok where
  ok1 := by kernel_rfl
  ok2 := by kernel_rfl
  dec := by
    intro vs bs ts a h
    simp only [l52_1] at h ⊢
    split at h
    · cases h; exact ⟨rfl, rfl⟩
    · cases h
  out := by
    intro ex vs bs ts o h
    simp only [l52_1] at h ⊢
    split at h
    · cases h; exact ⟨rfl, rfl, rfl⟩
    · cases h
  len := fun _ => ⟨rfl, rfl⟩
  elim := fun β o k => by cases o <;> rfl
def L52_1 {σ : Type} (F : ByteArray × Int × Int × Int × ByteArray × List D × Nat → Option (ByteArray × Nat)) : Nat → A52_1 → σ → Option (O52_1 × σ)
  | 0, _, _ => none
  | n+1, (v14, v15, v16, v17, v18, v19, v20, v21, v22, k23, k24), s => (bif (decide (v17 < v16)) then ((lidx v15 v17).bind fun d25 => ask (d25.cells.length = 5) ((cellAt 0 d25).bind fun x26 => (asInt .i64 x26).bind fun x27 => ((cellAt 1 d25).bind fun x28 => (asInt .i64 x28).bind fun x29 => ((cellAt 2 d25).bind fun x30 => (asInt .i64 x30).bind fun x31 => ((cellAt 3 d25).bind fun x32 => (asStr x32).bind fun x33 => ((cellAt 4 d25).bind fun x34 => (asRow x34).bind fun x35 => ((F (v14, x27, x29, x31, x33, x35, v14.size)).bind fun y36 => (ask (([y36.2, k23, k24] : List Nat) = [y36.1.size, k23, k24]) (L52_1 F n (y36.1, v15, v16, (w64 (v17 + 1)), v18, v19, v20, v21, v22, k23, k24) s))))))))) else (ask (([v14.size, k23, k24] : List Nat) = [v14.size, k23, k24]) (some (O52_1.x0 v14 v18 v19 v20 v21 v22 k23 k24, s))))
def dM52 (av : List AV) (bs : List Box) (ts : List Nat) : Option (ByteArray × Int × Int × Int × ByteArray × List D × Nat) := match av, bs, ts with
  | [.obs 0 a0, .d (.agg [.val (.int .i64 a2), .val (.int .i64 a3), .val (.int .i64 a4), .val (.string a5), .slice a6])], [], [k1] => some (a0, a2, a3, a4, a5, a6, k1)
  | _, _, _ => none
def aM52 : (ByteArray × Int × Int × Int × ByteArray × List D × Nat) → List AV := fun (a0, a2, a3, a4, a5, a6, k1) => [.obs 0 a0, .d (.agg [.val (.int .i64 a2), .val (.int .i64 a3), .val (.int .i64 a4), .val (.string a5), .slice a6])]
def bM52 : (ByteArray × Int × Int × Int × ByteArray × List D × Nat) → List Box := fun (a0, a2, a3, a4, a5, a6, k1) => []
def tM52 : (ByteArray × Int × Int × Int × ByteArray × List D × Nat) → List Nat := fun (a0, a2, a3, a4, a5, a6, k1) => [k1]
def vM52 : (ByteArray × Nat) → AV := fun (o7, q8) => .obs 0 o7
def cM52 : (ByteArray × Nat) → List Box := fun (o7, q8) => []
def kM52 : (ByteArray × Nat) → List Nat := fun (o7, q8) => [q8]
def rM52 (v : AV) (bs : List Box) (ts : List Nat) : Option (ByteArray × Nat) := match v, bs, ts with
  | .obs 0 o7, [], [q8] => some (o7, q8)
  | _, _, _ => none
def n52 : Nat → ByteArray × Int × Int × Int × ByteArray × List D × Nat → Option (ByteArray × Nat)
  | 0, _ => none
  | k + 1, (a0, a2, a3, a4, a5, a6, k1) => (ask (byteOk (wu8 a2)) (ask (addBOk k1 a0 (bcons (wu8 a2) ByteArray.empty) 1) (bif (a2 == 2) then ((n82 a3).bind fun y9 => (ask (addBOk (a0.size + (bcons (wu8 a2) ByteArray.empty).size) (a0 ++ (bcons (wu8 a2) ByteArray.empty)) y9 1) (some (((a0 ++ (bcons (wu8 a2) ByteArray.empty)) ++ y9), ((a0 ++ (bcons (wu8 a2) ByteArray.empty)).size + y9.size))))) else (bif (a2 == 1) then (ask (byteOk (wu8 a3)) (ask (addBOk (a0.size + (bcons (wu8 a2) ByteArray.empty).size) (a0 ++ (bcons (wu8 a2) ByteArray.empty)) (bcons (wu8 a3) ByteArray.empty) 1) (some (((a0 ++ (bcons (wu8 a2) ByteArray.empty)) ++ (bcons (wu8 a3) ByteArray.empty)), ((a0 ++ (bcons (wu8 a2) ByteArray.empty)).size + (bcons (wu8 a3) ByteArray.empty).size))))) else (bif (a2 == 4) then ((n83 a5).bind fun y10 => (ask (addBOk (a0.size + (bcons (wu8 a2) ByteArray.empty).size) (a0 ++ (bcons (wu8 a2) ByteArray.empty)) y10 1) (some (((a0 ++ (bcons (wu8 a2) ByteArray.empty)) ++ y10), ((a0 ++ (bcons (wu8 a2) ByteArray.empty)).size + y10.size))))) else (bif (a2 == 3) then ((n82 a3).bind fun y11 => (ask (addBOk (a0.size + (bcons (wu8 a2) ByteArray.empty).size) (a0 ++ (bcons (wu8 a2) ByteArray.empty)) y11 1) ((n82 a4).bind fun y12 => (ask (addBOk ((a0 ++ (bcons (wu8 a2) ByteArray.empty)).size + y11.size) ((a0 ++ (bcons (wu8 a2) ByteArray.empty)) ++ y11) y12 1) (some ((((a0 ++ (bcons (wu8 a2) ByteArray.empty)) ++ y11) ++ y12), (((a0 ++ (bcons (wu8 a2) ByteArray.empty)) ++ y11).size + y12.size))))))) else ((n84 (wu64 ((a6.length : Nat) : Int))).bind fun y13 => (ask (addBOk (a0.size + (bcons (wu8 a2) ByteArray.empty).size) (a0 ++ (bcons (wu8 a2) ByteArray.empty)) y13 1) (ask (([((a0 ++ (bcons (wu8 a2) ByteArray.empty)).size + y13.size), 0, (bcons (wu8 a2) ByteArray.empty).size] : List Nat) = [((a0 ++ (bcons (wu8 a2) ByteArray.empty)) ++ y13).size, 0, (bcons (wu8 a2) ByteArray.empty).size]) ((L52_1 (n52 k) 1000000000000 (((a0 ++ (bcons (wu8 a2) ByteArray.empty)) ++ y13), a6, ((a6.length : Nat) : Int), 0, a2, a3, a4, a5, a6, 0, (bcons (wu8 a2) ByteArray.empty).size) ()).bind fun p45 => match p45.1 with | .x0 z46 z47 z48 z49 z50 z51 z52 z53 => (some (z46, z46.size))))))))))))
def g52 (k : Nat) {σ : Type} : Nat → Option (SegE σ)
  | 1 => some (l52_1.seg σ (L52_1 (n52 k) 1000000000000))
  | _ => none
noncomputable def tabsR52 (gl : Nat → Option (List D)) (k : Nat) : Tabs := oddAt (tabsS1 gl) 52 (methE 52 dM52 (n52 k) (fun _ => vM52) (fun _ => cM52) (fun _ => kM52))
theorem E52_1 {σ : Type} (k : Nat) (Y : Yd σ) : ∀ n a (s : σ), L52_1 (n52 k) (n + 1) a s = evK (cfgOf Tryz.prog (tabsR52 gl k) tS13) (toldOf tS13) Y (inlN (cfgOf Tryz.prog (tabsR52 gl k) tS13) (toldOf tS13) Y) (g52 k) 52 (loopAt Tryz.f52 1) ((l52_1.toT σ).enc a s) (fun ex st' => l52_1.next (cfgOf Tryz.prog (tabsR52 gl k) tS13) 52 1 (L52_1 (n52 k) n) ex st') := by
  intro n ⟨v14, v15, v16, v17, v18, v19, v20, v21, v22, k23, k24⟩ s
  kernel_rfl
theorem Q52_1 {σ : Type} (hl : LibFits gl) (k : Nat) (Y : Yd σ) (rnd : Bool) : SegOk (cfgOf Tryz.prog (tabsR52 gl k) tS13) (evFn (cfgOf Tryz.prog (tabsR52 gl k) tS13) 9) 52 rnd Y (l52_1.seg σ (L52_1 (n52 k) 1000000000000)) (.block 1 (.loop (loopAt Tryz.f52 1))) :=
  told_loop (okS13 hl) k52_1 (by kernel_rfl) (by kernel_rfl) (fun _ _ => rfl) (segs_no (by kernel_rfl)) (E52_1 k Y) (hr := by kernel_rfl)
theorem N52 : ∀ k a, n52 (k + 1) a = bodyK (cfgOf Tryz.prog (tabsR52 gl k) tS13) (toldOf tS13) noY (inlN (cfgOf Tryz.prog (tabsR52 gl k) tS13) (toldOf tS13) noY) (g52 k) 52 Tryz.f52 (aM52 a) (bM52 a) (tM52 a) () (fun v b tk _ => rM52 v b tk) := by
  intro k a
  obtain ⟨a0, a2, a3, a4, a5, a6, k1⟩ := a
  kernel_rfl
theorem om52 (hl : LibFits gl) (k : Nat) : OddSound Tryz.prog gl (fun g => bif Nat.beq g 52 then some (methE 52 dM52 (n52 k) (fun _ => vM52) (fun _ => cM52) (fun _ => kM52)) else (tabsS1 gl).odd g) :=
  told_methRec (t := tabsS1 gl) (okS13 hl) mixed (oddOkS1 hl) Tryz.func52 (by kernel_rfl) (by kernel_rfl) (nat := n52) (argsOf := aM52) (boxOf := bM52) (tokOf := tM52) (res := fun _ => rM52) (seg := fun k => (g52 k)) (by kernel_rfl) (fun k => (fun p hp e he => by
    have hq : segsOf (σ := Unit) (g52 k (σ := Unit)) (bodyOf Tryz.f52) = [(1, .loop (loopAt Tryz.f52 1))] := by kernel_rfl
    rw [hq] at hp
    simp only [List.mem_cons, List.not_mem_nil, or_false] at hp
    subst hp
    cases he
    exact Q52_1 hl k _ _))
    (fun av bs ts a h => by
      unfold dM52 at h
      split at h
      · cases h; exact ⟨rfl, rfl, rfl⟩
      · cases h)
    (fun _ v b tk o h => by
      unfold rM52 at h
      split at h
      · cases h; exact ⟨rfl, rfl, rfl⟩
      · cases h)
    (fun _ => rfl) N52 k
abbrev A53_1 := ByteArray × Int × Int × Int × Int × ByteArray × List D × Nat
inductive O53_1 where
  | x0 (o34 : ByteArray) (o35 : Int) (o36 : Int) (o37 : Int) (o38 : ByteArray) (o39 : List D) (q40 : Nat)
def l53_1 : LoopS A53_1 O53_1 where
  n := 75
  ks := [1, 3, 4]
  kso := [3]
  m := 1
  mt := 2
  decV := fun vs bs ts => match vs, bs, ts with
    | [.ptr 0 0, .obs 1 v14, .d (.val (.int .i64 v15))], [.cells none [.d (.val (.int .i64 v16)), .d (.val (.int .i64 v17)), .d (.val (.int .i64 v18)), .d (.val (.string v19)), .d (.slice v20)]], [k21, _] => some (v14, v15, v16, v17, v18, v19, v20, k21)
    | _, _, _ => none
  encV := fun (v14, v15, v16, v17, v18, v19, v20, k21) => [.ptr 0 0, .obs 1 v14, .d (.val (.int .i64 v15))]
  encB := fun (v14, v15, v16, v17, v18, v19, v20, k21) => [.cells none [.d (.val (.int .i64 v16)), .d (.val (.int .i64 v17)), .d (.val (.int .i64 v18)), .d (.val (.string v19)), .d (.slice v20)]]
  tk := fun (v14, v15, v16, v17, v18, v19, v20, k21) => [k21, v14.size]
  decO := fun ex vs bs ts => match ex, vs, bs, ts with
    | .normal, [.obs 1 o34], [.cells none [.d (.val (.int .i64 o35)), .d (.val (.int .i64 o36)), .d (.val (.int .i64 o37)), .d (.val (.string o38)), .d (.slice o39)]], [q40, _] => some (.x0 o34 o35 o36 o37 o38 o39 q40)
    | _, _, _, _ => none
  exO := fun x => match x with
    | .x0 o34 o35 o36 o37 o38 o39 q40 => .normal
  outV := fun x => match x with
    | .x0 o34 o35 o36 o37 o38 o39 q40 => [.obs 1 o34]
  outB := fun x => match x with
    | .x0 o34 o35 o36 o37 o38 o39 q40 => [.cells none [.d (.val (.int .i64 o35)), .d (.val (.int .i64 o36)), .d (.val (.int .i64 o37)), .d (.val (.string o38)), .d (.slice o39)]]
  tkO := fun x => match x with
    | .x0 o34 o35 o36 o37 o38 o39 q40 => [q40, o34.size]
  elim := fun x k => match x with
    | .x0 o34 o35 o36 o37 o38 o39 q40 => k .normal [.obs 1 o34] [.cells none [.d (.val (.int .i64 o35)), .d (.val (.int .i64 o36)), .d (.val (.int .i64 o37)), .d (.val (.string o38)), .d (.slice o39)]] [q40, o34.size]
theorem k53_1 : l53_1.Ok where
  ok1 := by kernel_rfl
  ok2 := by kernel_rfl
  dec := by
    intro vs bs ts a h
    simp only [l53_1] at h ⊢
    split at h
    · cases h; exact ⟨rfl, rfl⟩
    · cases h
  out := by
    intro ex vs bs ts o h
    simp only [l53_1] at h ⊢
    split at h
    · cases h; exact ⟨rfl, rfl, rfl⟩
    · cases h
  len := fun _ => ⟨rfl, rfl⟩
  elim := fun β o k => by cases o <;> rfl
def L53_1 {σ : Type} (F : Int × Int × Int × ByteArray × List D → Option (ByteArray)) : Nat → A53_1 → σ → Option (O53_1 × σ)
  | 0, _, _ => none
  | n+1, (v14, v15, v16, v17, v18, v19, v20, k21), s => (bif (decide (v15 < ((v20.length : Nat) : Int))) then ((lidx v20 v15).bind fun d22 => ask (d22.cells.length = 5) ((cellAt 0 d22).bind fun x23 => (asInt .i64 x23).bind fun x24 => ((cellAt 1 d22).bind fun x25 => (asInt .i64 x25).bind fun x26 => ((cellAt 2 d22).bind fun x27 => (asInt .i64 x27).bind fun x28 => ((cellAt 3 d22).bind fun x29 => (asStr x29).bind fun x30 => ((cellAt 4 d22).bind fun x31 => (asRow x31).bind fun x32 => ((F (x24, x26, x28, x30, x32)).bind fun y33 => (ask (addBOk v14.size v14 y33 1) (ask (([k21, (v14.size + y33.size)] : List Nat) = [k21, (v14 ++ y33).size]) (L53_1 F n ((v14 ++ y33), (w64 (v15 + 1)), v16, v17, v18, v19, v20, k21) s)))))))))) else (ask (([k21, v14.size] : List Nat) = [k21, v14.size]) (some (O53_1.x0 v14 v16 v17 v18 v19 v20 k21, s))))
def d53 (ds : List D) : Option (Int × Int × Int × ByteArray × List D) := match ds with
  | [.agg [.val (.int .i64 a0), .val (.int .i64 a1), .val (.int .i64 a2), .val (.string a3), .slice a4]] => some (a0, a1, a2, a3, a4)
  | _ => none
def r53 (v : AV) : Option (ByteArray) := match toPR v with
  | some (.one (.bytes a5)) => some a5
  | _ => none
def n53 : Nat → Int × Int × Int × ByteArray × List D → Option (ByteArray)
  | 0, _ => none
  | k + 1, (a0, a1, a2, a3, a4) => (ask (byteOk (wu8 a0)) (bif (a0 == 1) then (ask (byteOk (wu8 a1)) (ask (addBOk ((bcons (wu8 a0) ByteArray.empty).size) (bcons (wu8 a0) ByteArray.empty) (bcons (wu8 a1) ByteArray.empty) 1) (some ((bcons (wu8 a0) ByteArray.empty) ++ (bcons (wu8 a1) ByteArray.empty))))) else (bif (a0 == 2) then ((n86 a1).bind fun y6 => ((n85 64 y6).bind fun y7 => (ask (addBOk ((bcons (wu8 a0) ByteArray.empty).size) (bcons (wu8 a0) ByteArray.empty) y7 1) (some ((bcons (wu8 a0) ByteArray.empty) ++ y7))))) else (bif (a0 == 3) then ((n86 a1).bind fun y8 => ((n85 64 y8).bind fun y9 => (ask (addBOk ((bcons (wu8 a0) ByteArray.empty).size) (bcons (wu8 a0) ByteArray.empty) y9 1) ((n86 a2).bind fun y10 => ((n85 64 y10).bind fun y11 => (ask (addBOk ((bcons (wu8 a0) ByteArray.empty).size + y9.size) ((bcons (wu8 a0) ByteArray.empty) ++ y9) y11 1) (some (((bcons (wu8 a0) ByteArray.empty) ++ y9) ++ y11)))))))) else (bif (a0 == 4) then ((n85 64 (wu64 (a3.size : Int))).bind fun y12 => (ask (addBOk ((bcons (wu8 a0) ByteArray.empty).size) (bcons (wu8 a0) ByteArray.empty) y12 1) (ask (addBOk ((bcons (wu8 a0) ByteArray.empty).size + y12.size) ((bcons (wu8 a0) ByteArray.empty) ++ y12) a3 1) (some (((bcons (wu8 a0) ByteArray.empty) ++ y12) ++ a3))))) else ((n85 64 (wu64 ((a4.length : Nat) : Int))).bind fun y13 => (ask (addBOk ((bcons (wu8 a0) ByteArray.empty).size) (bcons (wu8 a0) ByteArray.empty) y13 1) (ask (([0, ((bcons (wu8 a0) ByteArray.empty).size + y13.size)] : List Nat) = [0, ((bcons (wu8 a0) ByteArray.empty) ++ y13).size]) ((L53_1 (n53 k) 1000000000000 (((bcons (wu8 a0) ByteArray.empty) ++ y13), 0, a0, a1, a2, a3, a4, 0) ()).bind fun p41 => match p41.1 with | .x0 z42 z43 z44 z45 z46 z47 z48 => (some z42))))))))))
def e53 : PureE := mkE d53 (n53 64) (fun a5 => .one (.bytes a5))
def g53 (k : Nat) {σ : Type} : Nat → Option (SegE σ)
  | 1 => some (l53_1.seg σ (L53_1 (n53 k) 1000000000000))
  | _ => none
theorem E53_1 {σ : Type} (k : Nat) (Y : Yd σ) : ∀ n a (s : σ), L53_1 (n53 k) (n + 1) a s = evK (cfgOf Tryz.prog (tabsS1 gl) (((53, mkE d53 (n53 k) (fun a5 => .one (.bytes a5))) :: tS13) : Tab)) (toldOf (((53, mkE d53 (n53 k) (fun a5 => .one (.bytes a5))) :: tS13) : Tab)) Y (inlN (cfgOf Tryz.prog (tabsS1 gl) (((53, mkE d53 (n53 k) (fun a5 => .one (.bytes a5))) :: tS13) : Tab)) (toldOf (((53, mkE d53 (n53 k) (fun a5 => .one (.bytes a5))) :: tS13) : Tab)) Y) (g53 k) 53 (loopAt Tryz.f53 1) ((l53_1.toT σ).enc a s) (fun ex st' => l53_1.next (cfgOf Tryz.prog (tabsS1 gl) (((53, mkE d53 (n53 k) (fun a5 => .one (.bytes a5))) :: tS13) : Tab)) 53 1 (L53_1 (n53 k) n) ex st') := by
  intro n ⟨v14, v15, v16, v17, v18, v19, v20, k21⟩ s
  kernel_rfl
theorem Q53_1 {σ : Type} (hl : LibFits gl) (k : Nat) (hk : TabOk Tryz.prog gl (((53, mkE d53 (n53 k) (fun a5 => .one (.bytes a5))) :: tS13) : Tab)) (Y : Yd σ) (rnd : Bool) : SegOk (cfgOf Tryz.prog (tabsS1 gl) (((53, mkE d53 (n53 k) (fun a5 => .one (.bytes a5))) :: tS13) : Tab)) (evFn (cfgOf Tryz.prog (tabsS1 gl) (((53, mkE d53 (n53 k) (fun a5 => .one (.bytes a5))) :: tS13) : Tab)) 9) 53 rnd Y (l53_1.seg σ (L53_1 (n53 k) 1000000000000)) (.block 1 (.loop (loopAt Tryz.f53 1))) :=
  told_loop hk k53_1 (by kernel_rfl) (by kernel_rfl) (fun _ _ => rfl) (segs_no (by kernel_rfl)) (E53_1 k Y) (hr := by kernel_rfl)
theorem N53 : ∀ k a, n53 (k + 1) a = bodyK (cfgOf Tryz.prog (tabsS1 gl) (((53, mkE d53 (n53 k) (fun a5 => .one (.bytes a5))) :: tS13) : Tab)) (toldOf (((53, mkE d53 (n53 k) (fun a5 => .one (.bytes a5))) :: tS13) : Tab)) noY (inlN (cfgOf Tryz.prog (tabsS1 gl) (((53, mkE d53 (n53 k) (fun a5 => .one (.bytes a5))) :: tS13) : Tab)) (toldOf (((53, mkE d53 (n53 k) (fun a5 => .one (.bytes a5))) :: tS13) : Tab)) noY) (g53 k) 53 Tryz.f53 (((fun (a0, a1, a2, a3, a4) => [.agg [.val (.int .i64 a0), .val (.int .i64 a1), .val (.int .i64 a2), .val (.string a3), .slice a4]] : (Int × Int × Int × ByteArray × List D) → List D) a).map .d) [] [] () (fun v _ _ _ => r53 v) := by
  intro k a
  obtain ⟨a0, a1, a2, a3, a4⟩ := a
  kernel_rfl
noncomputable def t53 : Tab := (53, e53) :: tS13
theorem ok53 (hl : LibFits gl) : TabOk Tryz.prog gl t53 :=
  told_rec (t := tabsS1 gl) (okS13 hl) mixed (oddOkS1 hl) Tryz.func53 (by kernel_rfl) (nat := n53) (seg := fun k => g53 k) (by kernel_rfl) (fun k hk => (fun p hp e he => by
    have hq : segsOf (σ := Unit) (g53 k (σ := Unit)) (bodyOf Tryz.f53) = [(1, .loop (loopAt Tryz.f53 1))] := by kernel_rfl
    rw [hq] at hp
    simp only [List.mem_cons, List.not_mem_nil, or_false] at hp
    subst hp
    cases he
    exact Q53_1 hl k hk _ _))
    (args := fun (a0, a1, a2, a3, a4) => [.agg [.val (.int .i64 a0), .val (.int .i64 a1), .val (.int .i64 a2), .val (.string a3), .slice a4]]) (res := r53)
    (fun ds a h => by
      unfold d53 at h
      split at h
      · cases h; rfl
      · cases h)
    (fun v r h => by
      unfold r53 at h
      split at h
      · rename_i hv; cases h; exact hv
      · cases h)
    (fun _ => rfl) N53 64
noncomputable def tabsS14 (gl : Nat → Option (List D)) : Tabs := { tabsS1 gl with odd := fun g => bif Nat.beq g 52 then some (methE 52 dM52 (n52 64) (fun _ => vM52) (fun _ => cM52) (fun _ => kM52)) else ((tabsS1 gl).odd g) }
theorem oddOkS14 (hl : LibFits gl) : OddSound Tryz.prog gl (tabsS14 gl).odd := OddSound.join (om52 hl 64) ((oddOkS1 hl))
noncomputable def tS14 : Tab := (53, e53) :: tS13
theorem okS14 (hl : LibFits gl) : TabOk Tryz.prog gl tS14 :=
  TabOk.cons (okS13 hl) ((ok53 hl).fair (53, e53) (List.mem_cons_self (l := tS13))) ((ok53 hl).spec (53, e53) (List.mem_cons_self (l := tS13)))
abbrev AZ52_1 := ByteArray × List D × Int × Int × Int × Int × Int × ByteArray × List D × Nat × Nat
inductive OZ52_1 where
  | x0 (o34 : ByteArray) (o35 : Int) (o36 : Int) (o37 : Int) (o38 : ByteArray) (o39 : List D) (q40 : Nat) (q41 : Nat)
def lZ52_1 : LoopS AZ52_1 OZ52_1 where
  n := 67
  ks := [0, 56, 57, 58]
  kso := [0]
  m := 1
  mt := 3
  decV := fun vs bs ts => match vs, bs, ts with
    | [.obs 2 v11, .d (.slice v12), .d (.val (.int .i64 v13)), .d (.val (.int .i64 v14))], [.cells none [.d (.val (.int .i64 v15)), .d (.val (.int .i64 v16)), .d (.val (.int .i64 v17)), .d (.val (.string v18)), .d (.slice v19)]], [k20, k21, _] => some (v11, v12, v13, v14, v15, v16, v17, v18, v19, k20, k21)
    | _, _, _ => none
  encV := fun (v11, v12, v13, v14, v15, v16, v17, v18, v19, k20, k21) => [.obs 2 v11, .d (.slice v12), .d (.val (.int .i64 v13)), .d (.val (.int .i64 v14))]
  encB := fun (v11, v12, v13, v14, v15, v16, v17, v18, v19, k20, k21) => [.cells none [.d (.val (.int .i64 v15)), .d (.val (.int .i64 v16)), .d (.val (.int .i64 v17)), .d (.val (.string v18)), .d (.slice v19)]]
  tk := fun (v11, v12, v13, v14, v15, v16, v17, v18, v19, k20, k21) => [k20, k21, v11.size]
  decO := fun ex vs bs ts => match ex, vs, bs, ts with
    | .normal, [.obs 2 o34], [.cells none [.d (.val (.int .i64 o35)), .d (.val (.int .i64 o36)), .d (.val (.int .i64 o37)), .d (.val (.string o38)), .d (.slice o39)]], [q40, q41, _] => some (.x0 o34 o35 o36 o37 o38 o39 q40 q41)
    | _, _, _, _ => none
  exO := fun x => match x with
    | .x0 o34 o35 o36 o37 o38 o39 q40 q41 => .normal
  outV := fun x => match x with
    | .x0 o34 o35 o36 o37 o38 o39 q40 q41 => [.obs 2 o34]
  outB := fun x => match x with
    | .x0 o34 o35 o36 o37 o38 o39 q40 q41 => [.cells none [.d (.val (.int .i64 o35)), .d (.val (.int .i64 o36)), .d (.val (.int .i64 o37)), .d (.val (.string o38)), .d (.slice o39)]]
  tkO := fun x => match x with
    | .x0 o34 o35 o36 o37 o38 o39 q40 q41 => [q40, q41, o34.size]
  elim := fun x k => match x with
    | .x0 o34 o35 o36 o37 o38 o39 q40 q41 => k .normal [.obs 2 o34] [.cells none [.d (.val (.int .i64 o35)), .d (.val (.int .i64 o36)), .d (.val (.int .i64 o37)), .d (.val (.string o38)), .d (.slice o39)]] [q40, q41, o34.size]
theorem kZ52_1 : lZ52_1.Ok where
  ok1 := by kernel_rfl
  ok2 := by kernel_rfl
  dec := by
    intro vs bs ts a h
    simp only [lZ52_1] at h ⊢
    split at h
    · cases h; exact ⟨rfl, rfl⟩
    · cases h
  out := by
    intro ex vs bs ts o h
    simp only [lZ52_1] at h ⊢
    split at h
    · cases h; exact ⟨rfl, rfl, rfl⟩
    · cases h
  len := fun _ => ⟨rfl, rfl⟩
  elim := fun β o k => by cases o <;> rfl
def LZ52_1 {σ : Type} : Nat → AZ52_1 → σ → Option (OZ52_1 × σ)
  | 0, _, _ => none
  | n+1, (v11, v12, v13, v14, v15, v16, v17, v18, v19, k20, k21), s => (bif (decide (v14 < v13)) then ((lidx v12 v14).bind fun d22 => ask (d22.cells.length = 5) ((cellAt 0 d22).bind fun x23 => (asInt .i64 x23).bind fun x24 => ((cellAt 1 d22).bind fun x25 => (asInt .i64 x25).bind fun x26 => ((cellAt 2 d22).bind fun x27 => (asInt .i64 x27).bind fun x28 => ((cellAt 3 d22).bind fun x29 => (asStr x29).bind fun x30 => ((cellAt 4 d22).bind fun x31 => (asRow x31).bind fun x32 => ((n52 64 (v11, x24, x26, x28, x30, x32, v11.size)).bind fun y33 => (ask (([k20, k21, y33.2] : List Nat) = [k20, k21, y33.1.size]) (LZ52_1 n (y33.1, v12, v13, (w64 (v14 + 1)), v15, v16, v17, v18, v19, k20, k21) s))))))))) else (ask (([k20, k21, v11.size] : List Nat) = [k20, k21, v11.size]) (some (OZ52_1.x0 v11 v15 v16 v17 v18 v19 k20 k21, s))))
def dZ52 (ds : List AV) : Option (Int × Int × Int × ByteArray × List D) := match ds with
  | [.nsl, .d (.agg [.val (.int .i64 a0), .val (.int .i64 a1), .val (.int .i64 a2), .val (.string a3), .slice a4])] => some (a0, a1, a2, a3, a4)
  | _ => none
def rZ52 (v : AV) (tk : List Nat) : Option (ByteArray) := match v with
  | .obs j r5 => (tk[j]?).bind fun n => ask (n = r5.size) (some r5)
  | _ => none
def wZ52 : (ByteArray) → ByteArray := fun r5 => r5
def xZ52 : (ByteArray) → List D := fun r5 => []
def nZ52 : Int × Int × Int × ByteArray × List D → Option (ByteArray) := fun (a0, a1, a2, a3, a4) => (ask (byteOk (wu8 a0)) (ask (newBOk (bcons (wu8 a0) ByteArray.empty) 1) (bif (a0 == 2) then ((n82 a1).bind fun y6 => (ask (addBOk ((bcons (wu8 a0) ByteArray.empty).size) (bcons (wu8 a0) ByteArray.empty) y6 1) (ask (((bcons (wu8 a0) ByteArray.empty).size + y6.size) = ((bcons (wu8 a0) ByteArray.empty) ++ y6).size) (some ((bcons (wu8 a0) ByteArray.empty) ++ y6))))) else (bif (a0 == 1) then (ask (byteOk (wu8 a1)) (ask (addBOk ((bcons (wu8 a0) ByteArray.empty).size) (bcons (wu8 a0) ByteArray.empty) (bcons (wu8 a1) ByteArray.empty) 1) (ask (((bcons (wu8 a0) ByteArray.empty).size + (bcons (wu8 a1) ByteArray.empty).size) = ((bcons (wu8 a0) ByteArray.empty) ++ (bcons (wu8 a1) ByteArray.empty)).size) (some ((bcons (wu8 a0) ByteArray.empty) ++ (bcons (wu8 a1) ByteArray.empty)))))) else (bif (a0 == 4) then ((n83 a3).bind fun y7 => (ask (addBOk ((bcons (wu8 a0) ByteArray.empty).size) (bcons (wu8 a0) ByteArray.empty) y7 1) (ask (((bcons (wu8 a0) ByteArray.empty).size + y7.size) = ((bcons (wu8 a0) ByteArray.empty) ++ y7).size) (some ((bcons (wu8 a0) ByteArray.empty) ++ y7))))) else (bif (a0 == 3) then ((n82 a1).bind fun y8 => (ask (addBOk ((bcons (wu8 a0) ByteArray.empty).size) (bcons (wu8 a0) ByteArray.empty) y8 1) ((n82 a2).bind fun y9 => (ask (addBOk ((bcons (wu8 a0) ByteArray.empty).size + y8.size) ((bcons (wu8 a0) ByteArray.empty) ++ y8) y9 1) (ask ((((bcons (wu8 a0) ByteArray.empty) ++ y8).size + y9.size) = (((bcons (wu8 a0) ByteArray.empty) ++ y8) ++ y9).size) (some (((bcons (wu8 a0) ByteArray.empty) ++ y8) ++ y9))))))) else ((n84 (wu64 ((a4.length : Nat) : Int))).bind fun y10 => (ask (addBOk ((bcons (wu8 a0) ByteArray.empty).size) (bcons (wu8 a0) ByteArray.empty) y10 1) (ask (([0, (bcons (wu8 a0) ByteArray.empty).size, ((bcons (wu8 a0) ByteArray.empty).size + y10.size)] : List Nat) = [0, (bcons (wu8 a0) ByteArray.empty).size, ((bcons (wu8 a0) ByteArray.empty) ++ y10).size]) ((LZ52_1 1000000000000 (((bcons (wu8 a0) ByteArray.empty) ++ y10), a4, ((a4.length : Nat) : Int), 0, a0, a1, a2, a3, a4, 0, (bcons (wu8 a0) ByteArray.empty).size) ()).bind fun p42 => match p42.1 with | .x0 z43 z44 z45 z46 z47 z48 z49 z50 => (ask (z43.size = z43.size) (some z43))))))))))))
def gZ52 {σ : Type} : Nat → Option (SegE σ)
  | 1 => some (lZ52_1.seg σ (LZ52_1 1000000000000))
  | _ => none
theorem EZ52_1 {σ : Type} (Y : Yd σ) : ∀ n a (s : σ), LZ52_1 (n + 1) a s = evK (cfgOf Tryz.prog (tabsS14 gl) tS14) (toldOf tS14) Y (inlN (cfgOf Tryz.prog (tabsS14 gl) tS14) (toldOf tS14) Y) gZ52 52 (loopAt Tryz.f52 1) ((lZ52_1.toT σ).enc a s) (fun ex st' => lZ52_1.next (cfgOf Tryz.prog (tabsS14 gl) tS14) 52 1 (LZ52_1 n) ex st') := by
  intro n ⟨v11, v12, v13, v14, v15, v16, v17, v18, v19, k20, k21⟩ s
  kernel_rfl
theorem QZ52_1 {σ : Type} (hl : LibFits gl) (Y : Yd σ) (rnd : Bool) : SegOk (cfgOf Tryz.prog (tabsS14 gl) tS14) (evFn (cfgOf Tryz.prog (tabsS14 gl) tS14) 9) 52 rnd Y (lZ52_1.seg σ (LZ52_1 1000000000000)) (.block 1 (.loop (loopAt Tryz.f52 1))) :=
  told_loop (okS14 hl) kZ52_1 (by kernel_rfl) (by kernel_rfl) (fun _ _ => rfl) (segs_no (by kernel_rfl)) (EZ52_1 Y) (hr := by kernel_rfl)
theorem NZ52 : ∀ a, nZ52 a = bodyK (cfgOf Tryz.prog (tabsS14 gl) tS14) (toldOf tS14) noY (inlN (cfgOf Tryz.prog (tabsS14 gl) tS14) (toldOf tS14) noY) gZ52 52 Tryz.f52 (((fun (a0, a1, a2, a3, a4) => [.nsl, .d (.agg [.val (.int .i64 a0), .val (.int .i64 a1), .val (.int .i64 a2), .val (.string a3), .slice a4])]) : (Int × Int × Int × ByteArray × List D) → List AV) a) [] [] () (fun v _ tk _ => rZ52 v tk) := by
  intro a
  obtain ⟨a0, a1, a2, a3, a4⟩ := a
  kernel_rfl
theorem omZ52 (hl : LibFits gl) : OddSound Tryz.prog gl (fun g => bif Nat.beq g 52 then some (nilB dZ52 nZ52 wZ52 xZ52) else (tabsS14 gl).odd g) :=
  told_nilB (t := tabsS14 gl) (okS14 hl) mixed (oddOkS14 hl) Tryz.func52 (by kernel_rfl) (by kernel_rfl) (row := wZ52) (rest := xZ52) (args := (fun (a0, a1, a2, a3, a4) => [.nsl, .d (.agg [.val (.int .i64 a0), .val (.int .i64 a1), .val (.int .i64 a2), .val (.string a3), .slice a4])])) (res := rZ52) (by kernel_rfl) (fun p hp e he => by
    have hq : segsOf (σ := Unit) (gZ52 (σ := Unit)) (bodyOf Tryz.f52) = [(1, .loop (loopAt Tryz.f52 1))] := by kernel_rfl
    rw [hq] at hp
    simp only [List.mem_cons, List.not_mem_nil, or_false] at hp
    subst hp
    cases he
    exact QZ52_1 hl _ _)
    (fun ds a h => by
      unfold dZ52 at h
      split at h
      · cases h; rfl
      · cases h)
    (fun a => by obtain ⟨a0, a1, a2, a3, a4⟩ := a; rfl)
    (fun v tk o h => by
      unfold rZ52 at h
      split at h
      · obtain ⟨n, h1, h2⟩ := bind_some h
        obtain ⟨h3, h4⟩ := ask_some h2
        cases h4
        exact ⟨⟨_, rfl, h1.trans (congrArg some h3)⟩, rfl⟩
      · cases h)
    NZ52
def d25 (ds : List D) : Option (Int × Int × Int × ByteArray × List D) := match ds with
  | [.agg [.val (.int .i64 a0), .val (.int .i64 a1), .val (.int .i64 a2), .val (.string a3), .slice a4]] => some (a0, a1, a2, a3, a4)
  | _ => none
def r25 (v : AV) : Option (ByteArray × Int) := match toPR v with
  | some (.many [.bytes a5, .val (.int .i64 a6)]) => some (a5, a6)
  | _ => none
def n25 : Int × Int × Int × ByteArray × List D → Option (ByteArray × Int) := fun (a0, a1, a2, a3, a4) => ((n13 (a0, a1, a2, a3, a4)).bind fun y7 => (bif (!y7) then (some (ByteArray.empty, 40)) else ((n53 64 (a0, a1, a2, a3, a4)).bind fun y8 => (some (y8, 0)))))
def e25 : PureE := mkE d25 n25 (fun (a5, a6) => .many [.bytes a5, .val (.int .i64 a6)])
def g25 {σ : Type} : Nat → Option (SegE σ)
  | _ => none
theorem N25 : ∀ a, n25 a = bodyK (cfgOf Tryz.prog (tabsS14 gl) tS14) (toldOf tS14) noY (inlN (cfgOf Tryz.prog (tabsS14 gl) tS14) (toldOf tS14) noY) g25 25 Tryz.f25 (((fun (a0, a1, a2, a3, a4) => [.agg [.val (.int .i64 a0), .val (.int .i64 a1), .val (.int .i64 a2), .val (.string a3), .slice a4]] : (Int × Int × Int × ByteArray × List D) → List D) a).map .d) [] [] () (fun v _ _ _ => r25 v) := by
  intro a
  obtain ⟨a0, a1, a2, a3, a4⟩ := a
  kernel_rfl
noncomputable def t25 : Tab := (25, e25) :: tS14
theorem ok25 (hl : LibFits gl) : TabOk Tryz.prog gl t25 :=
  told_fn (okS14 hl) mixed (oddOkS14 hl) Tryz.func25 (by kernel_rfl) (by kernel_rfl) (by kernel_rfl) (segs_no (by kernel_rfl))
    (args := fun (a0, a1, a2, a3, a4) => [.agg [.val (.int .i64 a0), .val (.int .i64 a1), .val (.int .i64 a2), .val (.string a3), .slice a4]]) (res := r25)
    (fun ds a h => by
      unfold d25 at h
      split at h
      · cases h; rfl
      · cases h)
    (fun v r h => by
      unfold r25 at h
      split at h
      · rename_i hv; cases h; exact hv
      · cases h)
    N25
noncomputable def tabsS15 (gl : Nat → Option (List D)) : Tabs := { tabsS14 gl with odd := fun g => bif Nat.beq g 52 then some (nilE 0 (nilB dZ52 nZ52 wZ52 xZ52) (methE 52 dM52 (n52 64) (fun _ => vM52) (fun _ => cM52) (fun _ => kM52))) else ((tabsS14 gl).odd g) }
theorem oddOkS15 (hl : LibFits gl) : OddSound Tryz.prog gl (tabsS15 gl).odd := OddSound.join (OddSound.nil (o := (tabsS14 gl).odd) (omZ52 hl) (by kernel_rfl) (oddOkS14 hl)) ((oddOkS14 hl))
noncomputable def tS15 : Tab := (25, e25) :: tS14
theorem okS15 (hl : LibFits gl) : TabOk Tryz.prog gl tS15 :=
  TabOk.cons (okS14 hl) ((ok25 hl).fair (25, e25) (List.mem_cons_self (l := tS14))) ((ok25 hl).spec (25, e25) (List.mem_cons_self (l := tS14)))
def dU24 (ds : List D) : Option (Int × Int × Int × ByteArray × List D) := match ds with
  | [.agg [.val (.int .i64 a0), .val (.int .i64 a1), .val (.int .i64 a2), .val (.string a3), .slice a4]] => some (a0, a1, a2, a3, a4)
  | _ => none
def rU24 (v : AV) (tk : List Nat) : Option (ByteArray × Int) := match v with
  | .tup [.obs j r6, .d (.val (.int .i64 a5))] => (tk[j]?).bind fun n => ask (n = r6.size) (some (r6, a5))
  | .tup [.nsl, .d (.val (.int .i64 a5))] => some (ByteArray.empty, a5)
  | _ => none
def wU24 : (ByteArray × Int) → ByteArray := fun (r6, a5) => r6
def xU24 : (ByteArray × Int) → List D := fun (r6, a5) => [.val (.int .i64 a5)]
def nU24 : Int × Int × Int × ByteArray × List D → Option (ByteArray × Int) := fun (a0, a1, a2, a3, a4) => ((n15 (a0, a1, a2, a3, a4)).bind fun y7 => (bif (y7 != 0) then (ask (0 = ByteArray.empty.size) (some (ByteArray.empty, 40))) else ((nZ52 (a0, a1, a2, a3, a4)).bind fun y8 => (ask (y8.size = y8.size) (some (y8, 0))))))
def gU24 {σ : Type} : Nat → Option (SegE σ)
  | _ => none
theorem NU24 : ∀ a, nU24 a = bodyK (cfgOf Tryz.prog (tabsS15 gl) tS15) (toldOf tS15) noY (inlN (cfgOf Tryz.prog (tabsS15 gl) tS15) (toldOf tS15) noY) gU24 24 Tryz.f24 ((((fun (a0, a1, a2, a3, a4) => [.agg [.val (.int .i64 a0), .val (.int .i64 a1), .val (.int .i64 a2), .val (.string a3), .slice a4]]) : (Int × Int × Int × ByteArray × List D) → List D) a).map .d) [] [] () (fun v _ tk _ => rU24 v tk) := by
  intro a
  obtain ⟨a0, a1, a2, a3, a4⟩ := a
  kernel_rfl
theorem omU24 (hl : LibFits gl) : OddSound Tryz.prog gl (fun g => bif Nat.beq g 24 then some (thawB dU24 nU24 wU24 xU24) else (tabsS15 gl).odd g) :=
  told_thawB (t := tabsS15 gl) (okS15 hl) mixed (oddOkS15 hl) Tryz.func24 (by kernel_rfl) (by kernel_rfl) (row := wU24) (rest := xU24) (args := (fun (a0, a1, a2, a3, a4) => [.agg [.val (.int .i64 a0), .val (.int .i64 a1), .val (.int .i64 a2), .val (.string a3), .slice a4]])) (res := rU24) (by kernel_rfl) (segs_no (by kernel_rfl))
    (fun ds a h => by
      unfold dU24 at h
      split at h
      · cases h; rfl
      · cases h)
    (fun v tk o h => by
      unfold rU24 at h
      split at h
      · obtain ⟨n, h1, h2⟩ := bind_some h
        obtain ⟨h3, h4⟩ := ask_some h2
        cases h4
        exact ⟨.inl ⟨_, rfl, h1.trans (congrArg some h3)⟩, rfl⟩
      · cases h; exact ⟨.inr ⟨rfl, rfl⟩, rfl⟩
      · cases h)
    NU24
noncomputable def tabsS16 (gl : Nat → Option (List D)) : Tabs := { tabsS15 gl with odd := fun g => bif Nat.beq g 24 then some (thawB dU24 nU24 wU24 xU24) else ((tabsS15 gl).odd g) }
theorem oddOkS16 (hl : LibFits gl) : OddSound Tryz.prog gl (tabsS16 gl).odd := OddSound.join (omU24 hl) ((oddOkS15 hl))
noncomputable abbrev tS16 : Tab := tS15
theorem okS16 (hl : LibFits gl) : TabOk Tryz.prog gl tS16 := okS15 hl
abbrev A6_0 := ByteArray × ByteArray × Int × Int × Int × Int × ByteArray × List D
inductive O6_0 where
  | x0 (o18 : ByteArray) (o19 : ByteArray) (o20 : Int) (o21 : Int) (o22 : Int) (o23 : ByteArray) (o24 : List D)
def l6_0 : LoopS A6_0 O6_0 where
  n := 61
  ks := [1, 3, 5, 7]
  kso := [1, 3, 5]
  m := 1
  mt := 1
  decV := fun vs bs ts => match vs, bs, ts with
    | [.ptr 0 0, .obs 0 v9, .d (.bytes v10), .d (.val (.int .i64 v11))], [.cells none [.d (.val (.int .i64 v12)), .d (.val (.int .i64 v13)), .d (.val (.int .i64 v14)), .d (.val (.string v15)), .d (.slice v16)]], [_] => some (v9, v10, v11, v12, v13, v14, v15, v16)
    | _, _, _ => none
  encV := fun (v9, v10, v11, v12, v13, v14, v15, v16) => [.ptr 0 0, .obs 0 v9, .d (.bytes v10), .d (.val (.int .i64 v11))]
  encB := fun (v9, v10, v11, v12, v13, v14, v15, v16) => [.cells none [.d (.val (.int .i64 v12)), .d (.val (.int .i64 v13)), .d (.val (.int .i64 v14)), .d (.val (.string v15)), .d (.slice v16)]]
  tk := fun (v9, v10, v11, v12, v13, v14, v15, v16) => [v9.size]
  decO := fun ex vs bs ts => match ex, vs, bs, ts with
    | .normal, [.ptr 0 0, .obs 0 o18, .d (.bytes o19)], [.cells none [.d (.val (.int .i64 o20)), .d (.val (.int .i64 o21)), .d (.val (.int .i64 o22)), .d (.val (.string o23)), .d (.slice o24)]], [_] => some (.x0 o18 o19 o20 o21 o22 o23 o24)
    | _, _, _, _ => none
  exO := fun x => match x with
    | .x0 o18 o19 o20 o21 o22 o23 o24 => .normal
  outV := fun x => match x with
    | .x0 o18 o19 o20 o21 o22 o23 o24 => [.ptr 0 0, .obs 0 o18, .d (.bytes o19)]
  outB := fun x => match x with
    | .x0 o18 o19 o20 o21 o22 o23 o24 => [.cells none [.d (.val (.int .i64 o20)), .d (.val (.int .i64 o21)), .d (.val (.int .i64 o22)), .d (.val (.string o23)), .d (.slice o24)]]
  tkO := fun x => match x with
    | .x0 o18 o19 o20 o21 o22 o23 o24 => [o18.size]
  elim := fun x k => match x with
    | .x0 o18 o19 o20 o21 o22 o23 o24 => k .normal [.ptr 0 0, .obs 0 o18, .d (.bytes o19)] [.cells none [.d (.val (.int .i64 o20)), .d (.val (.int .i64 o21)), .d (.val (.int .i64 o22)), .d (.val (.string o23)), .d (.slice o24)]] [o18.size]
theorem k6_0 : l6_0.Ok where
  ok1 := by kernel_rfl
  ok2 := by kernel_rfl
  dec := by
    intro vs bs ts a h
    simp only [l6_0] at h ⊢
    split at h
    · cases h; exact ⟨rfl, rfl⟩
    · cases h
  out := by
    intro ex vs bs ts o h
    simp only [l6_0] at h ⊢
    split at h
    · cases h; exact ⟨rfl, rfl, rfl⟩
    · cases h
  len := fun _ => ⟨rfl, rfl⟩
  elim := fun β o k => by cases o <;> rfl
def L6_0 {σ : Type} : Nat → A6_0 → σ → Option (O6_0 × σ)
  | 0, _, _ => none
  | n+1, (v9, v10, v11, v12, v13, v14, v15, v16), s => (bif (decide (v11 < ((v9.size : Nat) : Int))) then ((sidx v9 v11).bind fun c17 => none) else (ask (([v9.size] : List Nat) = [v9.size]) (some (O6_0.x0 v9 v10 v12 v13 v14 v15 v16, s))))
abbrev A6_0v1 := Nat × ByteArray × Int × Int × Int × Int × ByteArray × List D × List D
inductive O6_0v1 where
  | x0 (o50 : Nat) (o51 : ByteArray) (o52 : Int) (o53 : Int) (o54 : Int) (o55 : ByteArray) (o56 : List D) (o57 : List D)
def l6_0v1 : LoopS A6_0v1 O6_0v1 where
  n := 61
  ks := [1, 3, 5, 7]
  kso := [1, 3, 5]
  m := 2
  mt := 0
  decV := fun vs bs ts => match vs, bs, ts with
    | [.ptr 0 0, .rsl 1 1 v40, .d (.bytes v41), .d (.val (.int .i64 v42))], [.cells none [.d (.val (.int .i64 v43)), .d (.val (.int .i64 v44)), .d (.val (.int .i64 v45)), .d (.val (.string v46)), .d (.slice v47)], .row 1 v48], [] => some (v40, v41, v42, v43, v44, v45, v46, v47, v48)
    | _, _, _ => none
  encV := fun (v40, v41, v42, v43, v44, v45, v46, v47, v48) => [.ptr 0 0, .rsl 1 1 v40, .d (.bytes v41), .d (.val (.int .i64 v42))]
  encB := fun (v40, v41, v42, v43, v44, v45, v46, v47, v48) => [.cells none [.d (.val (.int .i64 v43)), .d (.val (.int .i64 v44)), .d (.val (.int .i64 v45)), .d (.val (.string v46)), .d (.slice v47)], .row 1 v48]
  tk := fun _ => []
  decO := fun ex vs bs ts => match ex, vs, bs, ts with
    | .normal, [.ptr 0 0, .rsl 1 1 o50, .d (.bytes o51)], [.cells none [.d (.val (.int .i64 o52)), .d (.val (.int .i64 o53)), .d (.val (.int .i64 o54)), .d (.val (.string o55)), .d (.slice o56)], .row 1 o57], [] => some (.x0 o50 o51 o52 o53 o54 o55 o56 o57)
    | _, _, _, _ => none
  exO := fun x => match x with
    | .x0 o50 o51 o52 o53 o54 o55 o56 o57 => .normal
  outV := fun x => match x with
    | .x0 o50 o51 o52 o53 o54 o55 o56 o57 => [.ptr 0 0, .rsl 1 1 o50, .d (.bytes o51)]
  outB := fun x => match x with
    | .x0 o50 o51 o52 o53 o54 o55 o56 o57 => [.cells none [.d (.val (.int .i64 o52)), .d (.val (.int .i64 o53)), .d (.val (.int .i64 o54)), .d (.val (.string o55)), .d (.slice o56)], .row 1 o57]
  tkO := fun x => match x with
    | .x0 o50 o51 o52 o53 o54 o55 o56 o57 => []
  elim := fun x k => match x with
    | .x0 o50 o51 o52 o53 o54 o55 o56 o57 => k .normal [.ptr 0 0, .rsl 1 1 o50, .d (.bytes o51)] [.cells none [.d (.val (.int .i64 o52)), .d (.val (.int .i64 o53)), .d (.val (.int .i64 o54)), .d (.val (.string o55)), .d (.slice o56)], .row 1 o57] []
theorem k6_0v1 : l6_0v1.Ok where
  ok1 := by kernel_rfl
  ok2 := by kernel_rfl
  dec := by
    intro vs bs ts a h
    simp only [l6_0v1] at h ⊢
    split at h
    · cases h; exact ⟨rfl, rfl⟩
    · cases h
  out := by
    intro ex vs bs ts o h
    simp only [l6_0v1] at h ⊢
    split at h
    · cases h; exact ⟨rfl, rfl, rfl⟩
    · cases h
  len := fun _ => ⟨rfl, rfl⟩
  elim := fun β o k => by cases o <;> rfl
def L6_0v1 {σ : Type} : Nat → A6_0v1 → σ → Option (O6_0v1 × σ)
  | 0, _, _ => none
  | n+1, (v40, v41, v42, v43, v44, v45, v46, v47, v48), s => (bif (decide (v42 < ((v40 : Nat) : Int))) then (ask (rowIn v42 v40) (((v48)[(Int.toNat v42)]?).bind fun d49 => ask (d49.cells.length = 1) (L6_0v1 n (v40, v41, (w64 (v42 + 1)), v43, v44, v45, v46, v47, (List.set v48 (Int.toNat v42) (D.put d49 0 ([.val (.int .u8 255)] : List D)))) s))) else (some (O6_0v1.x0 v40 v41 v43 v44 v45 v46 v47 v48, s)))
def d6 (ds : List D) : Option (Int × Int × Int × ByteArray × List D) := match ds with
  | [.agg [.val (.int .i64 a0), .val (.int .i64 a1), .val (.int .i64 a2), .val (.string a3), .slice a4]] => some (a0, a1, a2, a3, a4)
  | _ => none
def r6 (v : AV) : Option (Bool) := match toPR v with
  | some (.one (.val (.bool a5))) => some a5
  | _ => none
def n6 : Int × Int × Int × ByteArray × List D → Option (Bool) := fun (a0, a1, a2, a3, a4) => ((nU24 (a0, a1, a2, a3, a4)).bind fun y6 => (bif Nat.beq y6.1.size 0 then ((n25 (a0, a1, a2, a3, a4)).bind fun y7 => ((n14 y6.2).bind fun y8 => (bif (y8 != y7.2) then (some false) else (bif (!(sEq ByteArray.empty y7.1)) then (some false) else (ask (([0] : List Nat) = [ByteArray.empty.size]) ((L6_0 1000000000000 (ByteArray.empty, y7.1, 0, a0, a1, a2, a3, a4) ()).bind fun p25 => match p25.1 with | .x0 z26 z27 z28 z29 z30 z31 z32 => (ask (addBOk z26.size z26 (bcons 254 ByteArray.empty) 1) (ask (addBOk (z26.size + (bcons 254 ByteArray.empty).size) (z26 ++ (bcons 254 ByteArray.empty)) (bcons 254 ByteArray.empty) 1) (ask (addBOk ((z26 ++ (bcons 254 ByteArray.empty)).size + (bcons 254 ByteArray.empty).size) ((z26 ++ (bcons 254 ByteArray.empty)) ++ (bcons 254 ByteArray.empty)) (bcons 254 ByteArray.empty) 1) (ask (addBOk (((z26 ++ (bcons 254 ByteArray.empty)) ++ (bcons 254 ByteArray.empty)).size + (bcons 254 ByteArray.empty).size) (((z26 ++ (bcons 254 ByteArray.empty)) ++ (bcons 254 ByteArray.empty)) ++ (bcons 254 ByteArray.empty)) (bcons 254 ByteArray.empty) 1) (ask (addBOk ((((z26 ++ (bcons 254 ByteArray.empty)) ++ (bcons 254 ByteArray.empty)) ++ (bcons 254 ByteArray.empty)).size + (bcons 254 ByteArray.empty).size) ((((z26 ++ (bcons 254 ByteArray.empty)) ++ (bcons 254 ByteArray.empty)) ++ (bcons 254 ByteArray.empty)) ++ (bcons 254 ByteArray.empty)) (bcons 254 ByteArray.empty) 1) (ask (addBOk (((((z26 ++ (bcons 254 ByteArray.empty)) ++ (bcons 254 ByteArray.empty)) ++ (bcons 254 ByteArray.empty)) ++ (bcons 254 ByteArray.empty)).size + (bcons 254 ByteArray.empty).size) (((((z26 ++ (bcons 254 ByteArray.empty)) ++ (bcons 254 ByteArray.empty)) ++ (bcons 254 ByteArray.empty)) ++ (bcons 254 ByteArray.empty)) ++ (bcons 254 ByteArray.empty)) (bcons 254 ByteArray.empty) 1) (ask (addBOk ((((((z26 ++ (bcons 254 ByteArray.empty)) ++ (bcons 254 ByteArray.empty)) ++ (bcons 254 ByteArray.empty)) ++ (bcons 254 ByteArray.empty)) ++ (bcons 254 ByteArray.empty)).size + (bcons 254 ByteArray.empty).size) ((((((z26 ++ (bcons 254 ByteArray.empty)) ++ (bcons 254 ByteArray.empty)) ++ (bcons 254 ByteArray.empty)) ++ (bcons 254 ByteArray.empty)) ++ (bcons 254 ByteArray.empty)) ++ (bcons 254 ByteArray.empty)) (bcons 254 ByteArray.empty) 1) (ask (addBOk (((((((z26 ++ (bcons 254 ByteArray.empty)) ++ (bcons 254 ByteArray.empty)) ++ (bcons 254 ByteArray.empty)) ++ (bcons 254 ByteArray.empty)) ++ (bcons 254 ByteArray.empty)) ++ (bcons 254 ByteArray.empty)).size + (bcons 254 ByteArray.empty).size) (((((((z26 ++ (bcons 254 ByteArray.empty)) ++ (bcons 254 ByteArray.empty)) ++ (bcons 254 ByteArray.empty)) ++ (bcons 254 ByteArray.empty)) ++ (bcons 254 ByteArray.empty)) ++ (bcons 254 ByteArray.empty)) ++ (bcons 254 ByteArray.empty)) (bcons 254 ByteArray.empty) 1) (ask (addBOk ((((((((z26 ++ (bcons 254 ByteArray.empty)) ++ (bcons 254 ByteArray.empty)) ++ (bcons 254 ByteArray.empty)) ++ (bcons 254 ByteArray.empty)) ++ (bcons 254 ByteArray.empty)) ++ (bcons 254 ByteArray.empty)) ++ (bcons 254 ByteArray.empty)).size + (bcons 254 ByteArray.empty).size) ((((((((z26 ++ (bcons 254 ByteArray.empty)) ++ (bcons 254 ByteArray.empty)) ++ (bcons 254 ByteArray.empty)) ++ (bcons 254 ByteArray.empty)) ++ (bcons 254 ByteArray.empty)) ++ (bcons 254 ByteArray.empty)) ++ (bcons 254 ByteArray.empty)) ++ (bcons 254 ByteArray.empty)) (bcons 254 ByteArray.empty) 1) (ask (addBOk (((((((((z26 ++ (bcons 254 ByteArray.empty)) ++ (bcons 254 ByteArray.empty)) ++ (bcons 254 ByteArray.empty)) ++ (bcons 254 ByteArray.empty)) ++ (bcons 254 ByteArray.empty)) ++ (bcons 254 ByteArray.empty)) ++ (bcons 254 ByteArray.empty)) ++ (bcons 254 ByteArray.empty)).size + (bcons 254 ByteArray.empty).size) (((((((((z26 ++ (bcons 254 ByteArray.empty)) ++ (bcons 254 ByteArray.empty)) ++ (bcons 254 ByteArray.empty)) ++ (bcons 254 ByteArray.empty)) ++ (bcons 254 ByteArray.empty)) ++ (bcons 254 ByteArray.empty)) ++ (bcons 254 ByteArray.empty)) ++ (bcons 254 ByteArray.empty)) ++ (bcons 254 ByteArray.empty)) (bcons 254 ByteArray.empty) 1) (ask (addBOk ((((((((((z26 ++ (bcons 254 ByteArray.empty)) ++ (bcons 254 ByteArray.empty)) ++ (bcons 254 ByteArray.empty)) ++ (bcons 254 ByteArray.empty)) ++ (bcons 254 ByteArray.empty)) ++ (bcons 254 ByteArray.empty)) ++ (bcons 254 ByteArray.empty)) ++ (bcons 254 ByteArray.empty)) ++ (bcons 254 ByteArray.empty)).size + (bcons 254 ByteArray.empty).size) ((((((((((z26 ++ (bcons 254 ByteArray.empty)) ++ (bcons 254 ByteArray.empty)) ++ (bcons 254 ByteArray.empty)) ++ (bcons 254 ByteArray.empty)) ++ (bcons 254 ByteArray.empty)) ++ (bcons 254 ByteArray.empty)) ++ (bcons 254 ByteArray.empty)) ++ (bcons 254 ByteArray.empty)) ++ (bcons 254 ByteArray.empty)) ++ (bcons 254 ByteArray.empty)) (bcons 254 ByteArray.empty) 1) (ask (addBOk (((((((((((z26 ++ (bcons 254 ByteArray.empty)) ++ (bcons 254 ByteArray.empty)) ++ (bcons 254 ByteArray.empty)) ++ (bcons 254 ByteArray.empty)) ++ (bcons 254 ByteArray.empty)) ++ (bcons 254 ByteArray.empty)) ++ (bcons 254 ByteArray.empty)) ++ (bcons 254 ByteArray.empty)) ++ (bcons 254 ByteArray.empty)) ++ (bcons 254 ByteArray.empty)).size + (bcons 254 ByteArray.empty).size) (((((((((((z26 ++ (bcons 254 ByteArray.empty)) ++ (bcons 254 ByteArray.empty)) ++ (bcons 254 ByteArray.empty)) ++ (bcons 254 ByteArray.empty)) ++ (bcons 254 ByteArray.empty)) ++ (bcons 254 ByteArray.empty)) ++ (bcons 254 ByteArray.empty)) ++ (bcons 254 ByteArray.empty)) ++ (bcons 254 ByteArray.empty)) ++ (bcons 254 ByteArray.empty)) ++ (bcons 254 ByteArray.empty)) (bcons 254 ByteArray.empty) 1) (ask (addBOk ((((((((((((z26 ++ (bcons 254 ByteArray.empty)) ++ (bcons 254 ByteArray.empty)) ++ (bcons 254 ByteArray.empty)) ++ (bcons 254 ByteArray.empty)) ++ (bcons 254 ByteArray.empty)) ++ (bcons 254 ByteArray.empty)) ++ (bcons 254 ByteArray.empty)) ++ (bcons 254 ByteArray.empty)) ++ (bcons 254 ByteArray.empty)) ++ (bcons 254 ByteArray.empty)) ++ (bcons 254 ByteArray.empty)).size + (bcons 254 ByteArray.empty).size) ((((((((((((z26 ++ (bcons 254 ByteArray.empty)) ++ (bcons 254 ByteArray.empty)) ++ (bcons 254 ByteArray.empty)) ++ (bcons 254 ByteArray.empty)) ++ (bcons 254 ByteArray.empty)) ++ (bcons 254 ByteArray.empty)) ++ (bcons 254 ByteArray.empty)) ++ (bcons 254 ByteArray.empty)) ++ (bcons 254 ByteArray.empty)) ++ (bcons 254 ByteArray.empty)) ++ (bcons 254 ByteArray.empty)) ++ (bcons 254 ByteArray.empty)) (bcons 254 ByteArray.empty) 1) (ask (addBOk (((((((((((((z26 ++ (bcons 254 ByteArray.empty)) ++ (bcons 254 ByteArray.empty)) ++ (bcons 254 ByteArray.empty)) ++ (bcons 254 ByteArray.empty)) ++ (bcons 254 ByteArray.empty)) ++ (bcons 254 ByteArray.empty)) ++ (bcons 254 ByteArray.empty)) ++ (bcons 254 ByteArray.empty)) ++ (bcons 254 ByteArray.empty)) ++ (bcons 254 ByteArray.empty)) ++ (bcons 254 ByteArray.empty)) ++ (bcons 254 ByteArray.empty)).size + (bcons 254 ByteArray.empty).size) (((((((((((((z26 ++ (bcons 254 ByteArray.empty)) ++ (bcons 254 ByteArray.empty)) ++ (bcons 254 ByteArray.empty)) ++ (bcons 254 ByteArray.empty)) ++ (bcons 254 ByteArray.empty)) ++ (bcons 254 ByteArray.empty)) ++ (bcons 254 ByteArray.empty)) ++ (bcons 254 ByteArray.empty)) ++ (bcons 254 ByteArray.empty)) ++ (bcons 254 ByteArray.empty)) ++ (bcons 254 ByteArray.empty)) ++ (bcons 254 ByteArray.empty)) ++ (bcons 254 ByteArray.empty)) (bcons 254 ByteArray.empty) 1) (ask (addBOk ((((((((((((((z26 ++ (bcons 254 ByteArray.empty)) ++ (bcons 254 ByteArray.empty)) ++ (bcons 254 ByteArray.empty)) ++ (bcons 254 ByteArray.empty)) ++ (bcons 254 ByteArray.empty)) ++ (bcons 254 ByteArray.empty)) ++ (bcons 254 ByteArray.empty)) ++ (bcons 254 ByteArray.empty)) ++ (bcons 254 ByteArray.empty)) ++ (bcons 254 ByteArray.empty)) ++ (bcons 254 ByteArray.empty)) ++ (bcons 254 ByteArray.empty)) ++ (bcons 254 ByteArray.empty)).size + (bcons 254 ByteArray.empty).size) ((((((((((((((z26 ++ (bcons 254 ByteArray.empty)) ++ (bcons 254 ByteArray.empty)) ++ (bcons 254 ByteArray.empty)) ++ (bcons 254 ByteArray.empty)) ++ (bcons 254 ByteArray.empty)) ++ (bcons 254 ByteArray.empty)) ++ (bcons 254 ByteArray.empty)) ++ (bcons 254 ByteArray.empty)) ++ (bcons 254 ByteArray.empty)) ++ (bcons 254 ByteArray.empty)) ++ (bcons 254 ByteArray.empty)) ++ (bcons 254 ByteArray.empty)) ++ (bcons 254 ByteArray.empty)) ++ (bcons 254 ByteArray.empty)) (bcons 254 ByteArray.empty) 1) (ask (addBOk (((((((((((((((z26 ++ (bcons 254 ByteArray.empty)) ++ (bcons 254 ByteArray.empty)) ++ (bcons 254 ByteArray.empty)) ++ (bcons 254 ByteArray.empty)) ++ (bcons 254 ByteArray.empty)) ++ (bcons 254 ByteArray.empty)) ++ (bcons 254 ByteArray.empty)) ++ (bcons 254 ByteArray.empty)) ++ (bcons 254 ByteArray.empty)) ++ (bcons 254 ByteArray.empty)) ++ (bcons 254 ByteArray.empty)) ++ (bcons 254 ByteArray.empty)) ++ (bcons 254 ByteArray.empty)) ++ (bcons 254 ByteArray.empty)).size + (bcons 254 ByteArray.empty).size) (((((((((((((((z26 ++ (bcons 254 ByteArray.empty)) ++ (bcons 254 ByteArray.empty)) ++ (bcons 254 ByteArray.empty)) ++ (bcons 254 ByteArray.empty)) ++ (bcons 254 ByteArray.empty)) ++ (bcons 254 ByteArray.empty)) ++ (bcons 254 ByteArray.empty)) ++ (bcons 254 ByteArray.empty)) ++ (bcons 254 ByteArray.empty)) ++ (bcons 254 ByteArray.empty)) ++ (bcons 254 ByteArray.empty)) ++ (bcons 254 ByteArray.empty)) ++ (bcons 254 ByteArray.empty)) ++ (bcons 254 ByteArray.empty)) ++ (bcons 254 ByteArray.empty)) (bcons 254 ByteArray.empty) 1) (ask (addBOk ((((((((((((((((z26 ++ (bcons 254 ByteArray.empty)) ++ (bcons 254 ByteArray.empty)) ++ (bcons 254 ByteArray.empty)) ++ (bcons 254 ByteArray.empty)) ++ (bcons 254 ByteArray.empty)) ++ (bcons 254 ByteArray.empty)) ++ (bcons 254 ByteArray.empty)) ++ (bcons 254 ByteArray.empty)) ++ (bcons 254 ByteArray.empty)) ++ (bcons 254 ByteArray.empty)) ++ (bcons 254 ByteArray.empty)) ++ (bcons 254 ByteArray.empty)) ++ (bcons 254 ByteArray.empty)) ++ (bcons 254 ByteArray.empty)) ++ (bcons 254 ByteArray.empty)).size + (bcons 254 ByteArray.empty).size) ((((((((((((((((z26 ++ (bcons 254 ByteArray.empty)) ++ (bcons 254 ByteArray.empty)) ++ (bcons 254 ByteArray.empty)) ++ (bcons 254 ByteArray.empty)) ++ (bcons 254 ByteArray.empty)) ++ (bcons 254 ByteArray.empty)) ++ (bcons 254 ByteArray.empty)) ++ (bcons 254 ByteArray.empty)) ++ (bcons 254 ByteArray.empty)) ++ (bcons 254 ByteArray.empty)) ++ (bcons 254 ByteArray.empty)) ++ (bcons 254 ByteArray.empty)) ++ (bcons 254 ByteArray.empty)) ++ (bcons 254 ByteArray.empty)) ++ (bcons 254 ByteArray.empty)) ++ (bcons 254 ByteArray.empty)) (bcons 254 ByteArray.empty) 1) (ask (addBOk (((((((((((((((((z26 ++ (bcons 254 ByteArray.empty)) ++ (bcons 254 ByteArray.empty)) ++ (bcons 254 ByteArray.empty)) ++ (bcons 254 ByteArray.empty)) ++ (bcons 254 ByteArray.empty)) ++ (bcons 254 ByteArray.empty)) ++ (bcons 254 ByteArray.empty)) ++ (bcons 254 ByteArray.empty)) ++ (bcons 254 ByteArray.empty)) ++ (bcons 254 ByteArray.empty)) ++ (bcons 254 ByteArray.empty)) ++ (bcons 254 ByteArray.empty)) ++ (bcons 254 ByteArray.empty)) ++ (bcons 254 ByteArray.empty)) ++ (bcons 254 ByteArray.empty)) ++ (bcons 254 ByteArray.empty)).size + (bcons 254 ByteArray.empty).size) (((((((((((((((((z26 ++ (bcons 254 ByteArray.empty)) ++ (bcons 254 ByteArray.empty)) ++ (bcons 254 ByteArray.empty)) ++ (bcons 254 ByteArray.empty)) ++ (bcons 254 ByteArray.empty)) ++ (bcons 254 ByteArray.empty)) ++ (bcons 254 ByteArray.empty)) ++ (bcons 254 ByteArray.empty)) ++ (bcons 254 ByteArray.empty)) ++ (bcons 254 ByteArray.empty)) ++ (bcons 254 ByteArray.empty)) ++ (bcons 254 ByteArray.empty)) ++ (bcons 254 ByteArray.empty)) ++ (bcons 254 ByteArray.empty)) ++ (bcons 254 ByteArray.empty)) ++ (bcons 254 ByteArray.empty)) ++ (bcons 254 ByteArray.empty)) (bcons 254 ByteArray.empty) 1) (ask (addBOk ((((((((((((((((((z26 ++ (bcons 254 ByteArray.empty)) ++ (bcons 254 ByteArray.empty)) ++ (bcons 254 ByteArray.empty)) ++ (bcons 254 ByteArray.empty)) ++ (bcons 254 ByteArray.empty)) ++ (bcons 254 ByteArray.empty)) ++ (bcons 254 ByteArray.empty)) ++ (bcons 254 ByteArray.empty)) ++ (bcons 254 ByteArray.empty)) ++ (bcons 254 ByteArray.empty)) ++ (bcons 254 ByteArray.empty)) ++ (bcons 254 ByteArray.empty)) ++ (bcons 254 ByteArray.empty)) ++ (bcons 254 ByteArray.empty)) ++ (bcons 254 ByteArray.empty)) ++ (bcons 254 ByteArray.empty)) ++ (bcons 254 ByteArray.empty)).size + (bcons 254 ByteArray.empty).size) ((((((((((((((((((z26 ++ (bcons 254 ByteArray.empty)) ++ (bcons 254 ByteArray.empty)) ++ (bcons 254 ByteArray.empty)) ++ (bcons 254 ByteArray.empty)) ++ (bcons 254 ByteArray.empty)) ++ (bcons 254 ByteArray.empty)) ++ (bcons 254 ByteArray.empty)) ++ (bcons 254 ByteArray.empty)) ++ (bcons 254 ByteArray.empty)) ++ (bcons 254 ByteArray.empty)) ++ (bcons 254 ByteArray.empty)) ++ (bcons 254 ByteArray.empty)) ++ (bcons 254 ByteArray.empty)) ++ (bcons 254 ByteArray.empty)) ++ (bcons 254 ByteArray.empty)) ++ (bcons 254 ByteArray.empty)) ++ (bcons 254 ByteArray.empty)) ++ (bcons 254 ByteArray.empty)) (bcons 254 ByteArray.empty) 1) (ask (addBOk (((((((((((((((((((z26 ++ (bcons 254 ByteArray.empty)) ++ (bcons 254 ByteArray.empty)) ++ (bcons 254 ByteArray.empty)) ++ (bcons 254 ByteArray.empty)) ++ (bcons 254 ByteArray.empty)) ++ (bcons 254 ByteArray.empty)) ++ (bcons 254 ByteArray.empty)) ++ (bcons 254 ByteArray.empty)) ++ (bcons 254 ByteArray.empty)) ++ (bcons 254 ByteArray.empty)) ++ (bcons 254 ByteArray.empty)) ++ (bcons 254 ByteArray.empty)) ++ (bcons 254 ByteArray.empty)) ++ (bcons 254 ByteArray.empty)) ++ (bcons 254 ByteArray.empty)) ++ (bcons 254 ByteArray.empty)) ++ (bcons 254 ByteArray.empty)) ++ (bcons 254 ByteArray.empty)).size + (bcons 254 ByteArray.empty).size) (((((((((((((((((((z26 ++ (bcons 254 ByteArray.empty)) ++ (bcons 254 ByteArray.empty)) ++ (bcons 254 ByteArray.empty)) ++ (bcons 254 ByteArray.empty)) ++ (bcons 254 ByteArray.empty)) ++ (bcons 254 ByteArray.empty)) ++ (bcons 254 ByteArray.empty)) ++ (bcons 254 ByteArray.empty)) ++ (bcons 254 ByteArray.empty)) ++ (bcons 254 ByteArray.empty)) ++ (bcons 254 ByteArray.empty)) ++ (bcons 254 ByteArray.empty)) ++ (bcons 254 ByteArray.empty)) ++ (bcons 254 ByteArray.empty)) ++ (bcons 254 ByteArray.empty)) ++ (bcons 254 ByteArray.empty)) ++ (bcons 254 ByteArray.empty)) ++ (bcons 254 ByteArray.empty)) ++ (bcons 254 ByteArray.empty)) (bcons 254 ByteArray.empty) 1) ((nU24 (z28, z29, z30, z31, z32)).bind fun y33 => (bif Nat.beq y33.1.size 0 then (bif (sEq ByteArray.empty z27) then ((n20 ()).bind fun y34 => (some y34)) else (some false)) else ((rowBytes (y33.1.size) (bytesD y33.1)).bind fun t35 => (bif (sEq t35 z27) then ((n20 ()).bind fun y36 => (some y36)) else (some false))))))))))))))))))))))))))))))) else ((n25 (a0, a1, a2, a3, a4)).bind fun y37 => ((n14 y6.2).bind fun y38 => (bif (y38 != y37.2) then (some false) else ((rowBytes (y6.1.size) (bytesD y6.1)).bind fun t39 => (bif (!(sEq t39 y37.1)) then (some false) else ((L6_0v1 1000000000000 ((y6.1.size), y37.1, 0, a0, a1, a2, a3, a4, (bytesD y6.1)) ()).bind fun p58 => match p58.1 with | .x0 z59 z60 z61 z62 z63 z64 z65 z66 => (ask (fogOk z59 z59 (bcons 254 ByteArray.empty).size 1) (ask (fogOk (z59 + (bcons 254 ByteArray.empty).size) (z59 + (bcons 254 ByteArray.empty).size) (bcons 254 ByteArray.empty).size 1) (ask (fogOk ((z59 + (bcons 254 ByteArray.empty).size) + (bcons 254 ByteArray.empty).size) ((z59 + (bcons 254 ByteArray.empty).size) + (bcons 254 ByteArray.empty).size) (bcons 254 ByteArray.empty).size 1) (ask (fogOk (((z59 + (bcons 254 ByteArray.empty).size) + (bcons 254 ByteArray.empty).size) + (bcons 254 ByteArray.empty).size) (((z59 + (bcons 254 ByteArray.empty).size) + (bcons 254 ByteArray.empty).size) + (bcons 254 ByteArray.empty).size) (bcons 254 ByteArray.empty).size 1) (ask (fogOk ((((z59 + (bcons 254 ByteArray.empty).size) + (bcons 254 ByteArray.empty).size) + (bcons 254 ByteArray.empty).size) + (bcons 254 ByteArray.empty).size) ((((z59 + (bcons 254 ByteArray.empty).size) + (bcons 254 ByteArray.empty).size) + (bcons 254 ByteArray.empty).size) + (bcons 254 ByteArray.empty).size) (bcons 254 ByteArray.empty).size 1) (ask (fogOk (((((z59 + (bcons 254 ByteArray.empty).size) + (bcons 254 ByteArray.empty).size) + (bcons 254 ByteArray.empty).size) + (bcons 254 ByteArray.empty).size) + (bcons 254 ByteArray.empty).size) (((((z59 + (bcons 254 ByteArray.empty).size) + (bcons 254 ByteArray.empty).size) + (bcons 254 ByteArray.empty).size) + (bcons 254 ByteArray.empty).size) + (bcons 254 ByteArray.empty).size) (bcons 254 ByteArray.empty).size 1) (ask (fogOk ((((((z59 + (bcons 254 ByteArray.empty).size) + (bcons 254 ByteArray.empty).size) + (bcons 254 ByteArray.empty).size) + (bcons 254 ByteArray.empty).size) + (bcons 254 ByteArray.empty).size) + (bcons 254 ByteArray.empty).size) ((((((z59 + (bcons 254 ByteArray.empty).size) + (bcons 254 ByteArray.empty).size) + (bcons 254 ByteArray.empty).size) + (bcons 254 ByteArray.empty).size) + (bcons 254 ByteArray.empty).size) + (bcons 254 ByteArray.empty).size) (bcons 254 ByteArray.empty).size 1) (ask (fogOk (((((((z59 + (bcons 254 ByteArray.empty).size) + (bcons 254 ByteArray.empty).size) + (bcons 254 ByteArray.empty).size) + (bcons 254 ByteArray.empty).size) + (bcons 254 ByteArray.empty).size) + (bcons 254 ByteArray.empty).size) + (bcons 254 ByteArray.empty).size) (((((((z59 + (bcons 254 ByteArray.empty).size) + (bcons 254 ByteArray.empty).size) + (bcons 254 ByteArray.empty).size) + (bcons 254 ByteArray.empty).size) + (bcons 254 ByteArray.empty).size) + (bcons 254 ByteArray.empty).size) + (bcons 254 ByteArray.empty).size) (bcons 254 ByteArray.empty).size 1) (ask (fogOk ((((((((z59 + (bcons 254 ByteArray.empty).size) + (bcons 254 ByteArray.empty).size) + (bcons 254 ByteArray.empty).size) + (bcons 254 ByteArray.empty).size) + (bcons 254 ByteArray.empty).size) + (bcons 254 ByteArray.empty).size) + (bcons 254 ByteArray.empty).size) + (bcons 254 ByteArray.empty).size) ((((((((z59 + (bcons 254 ByteArray.empty).size) + (bcons 254 ByteArray.empty).size) + (bcons 254 ByteArray.empty).size) + (bcons 254 ByteArray.empty).size) + (bcons 254 ByteArray.empty).size) + (bcons 254 ByteArray.empty).size) + (bcons 254 ByteArray.empty).size) + (bcons 254 ByteArray.empty).size) (bcons 254 ByteArray.empty).size 1) (ask (fogOk (((((((((z59 + (bcons 254 ByteArray.empty).size) + (bcons 254 ByteArray.empty).size) + (bcons 254 ByteArray.empty).size) + (bcons 254 ByteArray.empty).size) + (bcons 254 ByteArray.empty).size) + (bcons 254 ByteArray.empty).size) + (bcons 254 ByteArray.empty).size) + (bcons 254 ByteArray.empty).size) + (bcons 254 ByteArray.empty).size) (((((((((z59 + (bcons 254 ByteArray.empty).size) + (bcons 254 ByteArray.empty).size) + (bcons 254 ByteArray.empty).size) + (bcons 254 ByteArray.empty).size) + (bcons 254 ByteArray.empty).size) + (bcons 254 ByteArray.empty).size) + (bcons 254 ByteArray.empty).size) + (bcons 254 ByteArray.empty).size) + (bcons 254 ByteArray.empty).size) (bcons 254 ByteArray.empty).size 1) (ask (fogOk ((((((((((z59 + (bcons 254 ByteArray.empty).size) + (bcons 254 ByteArray.empty).size) + (bcons 254 ByteArray.empty).size) + (bcons 254 ByteArray.empty).size) + (bcons 254 ByteArray.empty).size) + (bcons 254 ByteArray.empty).size) + (bcons 254 ByteArray.empty).size) + (bcons 254 ByteArray.empty).size) + (bcons 254 ByteArray.empty).size) + (bcons 254 ByteArray.empty).size) ((((((((((z59 + (bcons 254 ByteArray.empty).size) + (bcons 254 ByteArray.empty).size) + (bcons 254 ByteArray.empty).size) + (bcons 254 ByteArray.empty).size) + (bcons 254 ByteArray.empty).size) + (bcons 254 ByteArray.empty).size) + (bcons 254 ByteArray.empty).size) + (bcons 254 ByteArray.empty).size) + (bcons 254 ByteArray.empty).size) + (bcons 254 ByteArray.empty).size) (bcons 254 ByteArray.empty).size 1) (ask (fogOk (((((((((((z59 + (bcons 254 ByteArray.empty).size) + (bcons 254 ByteArray.empty).size) + (bcons 254 ByteArray.empty).size) + (bcons 254 ByteArray.empty).size) + (bcons 254 ByteArray.empty).size) + (bcons 254 ByteArray.empty).size) + (bcons 254 ByteArray.empty).size) + (bcons 254 ByteArray.empty).size) + (bcons 254 ByteArray.empty).size) + (bcons 254 ByteArray.empty).size) + (bcons 254 ByteArray.empty).size) (((((((((((z59 + (bcons 254 ByteArray.empty).size) + (bcons 254 ByteArray.empty).size) + (bcons 254 ByteArray.empty).size) + (bcons 254 ByteArray.empty).size) + (bcons 254 ByteArray.empty).size) + (bcons 254 ByteArray.empty).size) + (bcons 254 ByteArray.empty).size) + (bcons 254 ByteArray.empty).size) + (bcons 254 ByteArray.empty).size) + (bcons 254 ByteArray.empty).size) + (bcons 254 ByteArray.empty).size) (bcons 254 ByteArray.empty).size 1) (ask (fogOk ((((((((((((z59 + (bcons 254 ByteArray.empty).size) + (bcons 254 ByteArray.empty).size) + (bcons 254 ByteArray.empty).size) + (bcons 254 ByteArray.empty).size) + (bcons 254 ByteArray.empty).size) + (bcons 254 ByteArray.empty).size) + (bcons 254 ByteArray.empty).size) + (bcons 254 ByteArray.empty).size) + (bcons 254 ByteArray.empty).size) + (bcons 254 ByteArray.empty).size) + (bcons 254 ByteArray.empty).size) + (bcons 254 ByteArray.empty).size) ((((((((((((z59 + (bcons 254 ByteArray.empty).size) + (bcons 254 ByteArray.empty).size) + (bcons 254 ByteArray.empty).size) + (bcons 254 ByteArray.empty).size) + (bcons 254 ByteArray.empty).size) + (bcons 254 ByteArray.empty).size) + (bcons 254 ByteArray.empty).size) + (bcons 254 ByteArray.empty).size) + (bcons 254 ByteArray.empty).size) + (bcons 254 ByteArray.empty).size) + (bcons 254 ByteArray.empty).size) + (bcons 254 ByteArray.empty).size) (bcons 254 ByteArray.empty).size 1) (ask (fogOk (((((((((((((z59 + (bcons 254 ByteArray.empty).size) + (bcons 254 ByteArray.empty).size) + (bcons 254 ByteArray.empty).size) + (bcons 254 ByteArray.empty).size) + (bcons 254 ByteArray.empty).size) + (bcons 254 ByteArray.empty).size) + (bcons 254 ByteArray.empty).size) + (bcons 254 ByteArray.empty).size) + (bcons 254 ByteArray.empty).size) + (bcons 254 ByteArray.empty).size) + (bcons 254 ByteArray.empty).size) + (bcons 254 ByteArray.empty).size) + (bcons 254 ByteArray.empty).size) (((((((((((((z59 + (bcons 254 ByteArray.empty).size) + (bcons 254 ByteArray.empty).size) + (bcons 254 ByteArray.empty).size) + (bcons 254 ByteArray.empty).size) + (bcons 254 ByteArray.empty).size) + (bcons 254 ByteArray.empty).size) + (bcons 254 ByteArray.empty).size) + (bcons 254 ByteArray.empty).size) + (bcons 254 ByteArray.empty).size) + (bcons 254 ByteArray.empty).size) + (bcons 254 ByteArray.empty).size) + (bcons 254 ByteArray.empty).size) + (bcons 254 ByteArray.empty).size) (bcons 254 ByteArray.empty).size 1) (ask (fogOk ((((((((((((((z59 + (bcons 254 ByteArray.empty).size) + (bcons 254 ByteArray.empty).size) + (bcons 254 ByteArray.empty).size) + (bcons 254 ByteArray.empty).size) + (bcons 254 ByteArray.empty).size) + (bcons 254 ByteArray.empty).size) + (bcons 254 ByteArray.empty).size) + (bcons 254 ByteArray.empty).size) + (bcons 254 ByteArray.empty).size) + (bcons 254 ByteArray.empty).size) + (bcons 254 ByteArray.empty).size) + (bcons 254 ByteArray.empty).size) + (bcons 254 ByteArray.empty).size) + (bcons 254 ByteArray.empty).size) ((((((((((((((z59 + (bcons 254 ByteArray.empty).size) + (bcons 254 ByteArray.empty).size) + (bcons 254 ByteArray.empty).size) + (bcons 254 ByteArray.empty).size) + (bcons 254 ByteArray.empty).size) + (bcons 254 ByteArray.empty).size) + (bcons 254 ByteArray.empty).size) + (bcons 254 ByteArray.empty).size) + (bcons 254 ByteArray.empty).size) + (bcons 254 ByteArray.empty).size) + (bcons 254 ByteArray.empty).size) + (bcons 254 ByteArray.empty).size) + (bcons 254 ByteArray.empty).size) + (bcons 254 ByteArray.empty).size) (bcons 254 ByteArray.empty).size 1) (ask (fogOk (((((((((((((((z59 + (bcons 254 ByteArray.empty).size) + (bcons 254 ByteArray.empty).size) + (bcons 254 ByteArray.empty).size) + (bcons 254 ByteArray.empty).size) + (bcons 254 ByteArray.empty).size) + (bcons 254 ByteArray.empty).size) + (bcons 254 ByteArray.empty).size) + (bcons 254 ByteArray.empty).size) + (bcons 254 ByteArray.empty).size) + (bcons 254 ByteArray.empty).size) + (bcons 254 ByteArray.empty).size) + (bcons 254 ByteArray.empty).size) + (bcons 254 ByteArray.empty).size) + (bcons 254 ByteArray.empty).size) + (bcons 254 ByteArray.empty).size) (((((((((((((((z59 + (bcons 254 ByteArray.empty).size) + (bcons 254 ByteArray.empty).size) + (bcons 254 ByteArray.empty).size) + (bcons 254 ByteArray.empty).size) + (bcons 254 ByteArray.empty).size) + (bcons 254 ByteArray.empty).size) + (bcons 254 ByteArray.empty).size) + (bcons 254 ByteArray.empty).size) + (bcons 254 ByteArray.empty).size) + (bcons 254 ByteArray.empty).size) + (bcons 254 ByteArray.empty).size) + (bcons 254 ByteArray.empty).size) + (bcons 254 ByteArray.empty).size) + (bcons 254 ByteArray.empty).size) + (bcons 254 ByteArray.empty).size) (bcons 254 ByteArray.empty).size 1) (ask (fogOk ((((((((((((((((z59 + (bcons 254 ByteArray.empty).size) + (bcons 254 ByteArray.empty).size) + (bcons 254 ByteArray.empty).size) + (bcons 254 ByteArray.empty).size) + (bcons 254 ByteArray.empty).size) + (bcons 254 ByteArray.empty).size) + (bcons 254 ByteArray.empty).size) + (bcons 254 ByteArray.empty).size) + (bcons 254 ByteArray.empty).size) + (bcons 254 ByteArray.empty).size) + (bcons 254 ByteArray.empty).size) + (bcons 254 ByteArray.empty).size) + (bcons 254 ByteArray.empty).size) + (bcons 254 ByteArray.empty).size) + (bcons 254 ByteArray.empty).size) + (bcons 254 ByteArray.empty).size) ((((((((((((((((z59 + (bcons 254 ByteArray.empty).size) + (bcons 254 ByteArray.empty).size) + (bcons 254 ByteArray.empty).size) + (bcons 254 ByteArray.empty).size) + (bcons 254 ByteArray.empty).size) + (bcons 254 ByteArray.empty).size) + (bcons 254 ByteArray.empty).size) + (bcons 254 ByteArray.empty).size) + (bcons 254 ByteArray.empty).size) + (bcons 254 ByteArray.empty).size) + (bcons 254 ByteArray.empty).size) + (bcons 254 ByteArray.empty).size) + (bcons 254 ByteArray.empty).size) + (bcons 254 ByteArray.empty).size) + (bcons 254 ByteArray.empty).size) + (bcons 254 ByteArray.empty).size) (bcons 254 ByteArray.empty).size 1) (ask (fogOk (((((((((((((((((z59 + (bcons 254 ByteArray.empty).size) + (bcons 254 ByteArray.empty).size) + (bcons 254 ByteArray.empty).size) + (bcons 254 ByteArray.empty).size) + (bcons 254 ByteArray.empty).size) + (bcons 254 ByteArray.empty).size) + (bcons 254 ByteArray.empty).size) + (bcons 254 ByteArray.empty).size) + (bcons 254 ByteArray.empty).size) + (bcons 254 ByteArray.empty).size) + (bcons 254 ByteArray.empty).size) + (bcons 254 ByteArray.empty).size) + (bcons 254 ByteArray.empty).size) + (bcons 254 ByteArray.empty).size) + (bcons 254 ByteArray.empty).size) + (bcons 254 ByteArray.empty).size) + (bcons 254 ByteArray.empty).size) (((((((((((((((((z59 + (bcons 254 ByteArray.empty).size) + (bcons 254 ByteArray.empty).size) + (bcons 254 ByteArray.empty).size) + (bcons 254 ByteArray.empty).size) + (bcons 254 ByteArray.empty).size) + (bcons 254 ByteArray.empty).size) + (bcons 254 ByteArray.empty).size) + (bcons 254 ByteArray.empty).size) + (bcons 254 ByteArray.empty).size) + (bcons 254 ByteArray.empty).size) + (bcons 254 ByteArray.empty).size) + (bcons 254 ByteArray.empty).size) + (bcons 254 ByteArray.empty).size) + (bcons 254 ByteArray.empty).size) + (bcons 254 ByteArray.empty).size) + (bcons 254 ByteArray.empty).size) + (bcons 254 ByteArray.empty).size) (bcons 254 ByteArray.empty).size 1) (ask (fogOk ((((((((((((((((((z59 + (bcons 254 ByteArray.empty).size) + (bcons 254 ByteArray.empty).size) + (bcons 254 ByteArray.empty).size) + (bcons 254 ByteArray.empty).size) + (bcons 254 ByteArray.empty).size) + (bcons 254 ByteArray.empty).size) + (bcons 254 ByteArray.empty).size) + (bcons 254 ByteArray.empty).size) + (bcons 254 ByteArray.empty).size) + (bcons 254 ByteArray.empty).size) + (bcons 254 ByteArray.empty).size) + (bcons 254 ByteArray.empty).size) + (bcons 254 ByteArray.empty).size) + (bcons 254 ByteArray.empty).size) + (bcons 254 ByteArray.empty).size) + (bcons 254 ByteArray.empty).size) + (bcons 254 ByteArray.empty).size) + (bcons 254 ByteArray.empty).size) ((((((((((((((((((z59 + (bcons 254 ByteArray.empty).size) + (bcons 254 ByteArray.empty).size) + (bcons 254 ByteArray.empty).size) + (bcons 254 ByteArray.empty).size) + (bcons 254 ByteArray.empty).size) + (bcons 254 ByteArray.empty).size) + (bcons 254 ByteArray.empty).size) + (bcons 254 ByteArray.empty).size) + (bcons 254 ByteArray.empty).size) + (bcons 254 ByteArray.empty).size) + (bcons 254 ByteArray.empty).size) + (bcons 254 ByteArray.empty).size) + (bcons 254 ByteArray.empty).size) + (bcons 254 ByteArray.empty).size) + (bcons 254 ByteArray.empty).size) + (bcons 254 ByteArray.empty).size) + (bcons 254 ByteArray.empty).size) + (bcons 254 ByteArray.empty).size) (bcons 254 ByteArray.empty).size 1) (ask (fogOk (((((((((((((((((((z59 + (bcons 254 ByteArray.empty).size) + (bcons 254 ByteArray.empty).size) + (bcons 254 ByteArray.empty).size) + (bcons 254 ByteArray.empty).size) + (bcons 254 ByteArray.empty).size) + (bcons 254 ByteArray.empty).size) + (bcons 254 ByteArray.empty).size) + (bcons 254 ByteArray.empty).size) + (bcons 254 ByteArray.empty).size) + (bcons 254 ByteArray.empty).size) + (bcons 254 ByteArray.empty).size) + (bcons 254 ByteArray.empty).size) + (bcons 254 ByteArray.empty).size) + (bcons 254 ByteArray.empty).size) + (bcons 254 ByteArray.empty).size) + (bcons 254 ByteArray.empty).size) + (bcons 254 ByteArray.empty).size) + (bcons 254 ByteArray.empty).size) + (bcons 254 ByteArray.empty).size) (((((((((((((((((((z59 + (bcons 254 ByteArray.empty).size) + (bcons 254 ByteArray.empty).size) + (bcons 254 ByteArray.empty).size) + (bcons 254 ByteArray.empty).size) + (bcons 254 ByteArray.empty).size) + (bcons 254 ByteArray.empty).size) + (bcons 254 ByteArray.empty).size) + (bcons 254 ByteArray.empty).size) + (bcons 254 ByteArray.empty).size) + (bcons 254 ByteArray.empty).size) + (bcons 254 ByteArray.empty).size) + (bcons 254 ByteArray.empty).size) + (bcons 254 ByteArray.empty).size) + (bcons 254 ByteArray.empty).size) + (bcons 254 ByteArray.empty).size) + (bcons 254 ByteArray.empty).size) + (bcons 254 ByteArray.empty).size) + (bcons 254 ByteArray.empty).size) + (bcons 254 ByteArray.empty).size) (bcons 254 ByteArray.empty).size 1) ((nU24 (z61, z62, z63, z64, z65)).bind fun y67 => (bif Nat.beq y67.1.size 0 then (bif (sEq ByteArray.empty z60) then ((n20 ()).bind fun y68 => (some y68)) else (some false)) else ((rowBytes (y67.1.size) (bytesD y67.1)).bind fun t69 => (bif (sEq t69 z60) then ((n20 ()).bind fun y70 => (some y70)) else (some false)))))))))))))))))))))))))))))))))
def e6 : PureE := mkE d6 n6 (fun a5 => .one (.val (.bool a5)))
def g6 {σ : Type} : Nat → Option (SegE σ)
  | 0 => some (segOr (fun st => ((l6_0.toT σ).dec st).isSome) (l6_0.seg σ (L6_0 1000000000000)) (l6_0v1.seg σ (L6_0v1 1000000000000)))
  | _ => none
theorem E6_0 {σ : Type} (Y : Yd σ) : ∀ n a (s : σ), L6_0 (n + 1) a s = evK (cfgOf Tryz.prog (tabsS16 gl) tS16) (toldOf tS16) Y (inlN (cfgOf Tryz.prog (tabsS16 gl) tS16) (toldOf tS16) Y) g6 6 (loopAt Tryz.f6 0) ((l6_0.toT σ).enc a s) (fun ex st' => l6_0.next (cfgOf Tryz.prog (tabsS16 gl) tS16) 6 0 (L6_0 n) ex st') := by
  intro n ⟨v9, v10, v11, v12, v13, v14, v15, v16⟩ s
  kernel_rfl
theorem Q6_0 {σ : Type} (hl : LibFits gl) (Y : Yd σ) (rnd : Bool) : SegOk (cfgOf Tryz.prog (tabsS16 gl) tS16) (evFn (cfgOf Tryz.prog (tabsS16 gl) tS16) 9) 6 rnd Y (l6_0.seg σ (L6_0 1000000000000)) (.block 0 (.loop (loopAt Tryz.f6 0))) :=
  told_loop (okS16 hl) k6_0 (by kernel_rfl) (by kernel_rfl) (fun _ _ => rfl) (segs_no (by kernel_rfl)) (E6_0 Y) (hr := by kernel_rfl)
theorem E6_0v1 {σ : Type} (Y : Yd σ) : ∀ n a (s : σ), L6_0v1 (n + 1) a s = evK (cfgOf Tryz.prog (tabsS16 gl) tS16) (toldOf tS16) Y (inlN (cfgOf Tryz.prog (tabsS16 gl) tS16) (toldOf tS16) Y) g6 6 (loopAt Tryz.f6 0) ((l6_0v1.toT σ).enc a s) (fun ex st' => l6_0v1.next (cfgOf Tryz.prog (tabsS16 gl) tS16) 6 0 (L6_0v1 n) ex st') := by
  intro n ⟨v40, v41, v42, v43, v44, v45, v46, v47, v48⟩ s
  kernel_rfl
theorem Q6_0v1 {σ : Type} (hl : LibFits gl) (Y : Yd σ) (rnd : Bool) : SegOk (cfgOf Tryz.prog (tabsS16 gl) tS16) (evFn (cfgOf Tryz.prog (tabsS16 gl) tS16) 9) 6 rnd Y (l6_0v1.seg σ (L6_0v1 1000000000000)) (.block 0 (.loop (loopAt Tryz.f6 0))) :=
  told_loop (okS16 hl) k6_0v1 (by kernel_rfl) (by kernel_rfl) (fun _ _ => rfl) (segs_no (by kernel_rfl)) (E6_0v1 Y) (hr := by kernel_rfl)
theorem QQ6_0 {σ : Type} (hl : LibFits gl) (Y : Yd σ) (rnd : Bool) : SegOk (cfgOf Tryz.prog (tabsS16 gl) tS16) (evFn (cfgOf Tryz.prog (tabsS16 gl) tS16) 9) 6 rnd Y (segOr (fun st => ((l6_0.toT σ).dec st).isSome) (l6_0.seg σ (L6_0 1000000000000)) (l6_0v1.seg σ (L6_0v1 1000000000000))) (.block 0 (.loop (loopAt Tryz.f6 0))) := (SegOk.or (Q6_0 hl Y rnd) (Q6_0v1 hl Y rnd))
theorem N6 : ∀ a, n6 a = bodyK (cfgOf Tryz.prog (tabsS16 gl) tS16) (toldOf tS16) noY (inlN (cfgOf Tryz.prog (tabsS16 gl) tS16) (toldOf tS16) noY) g6 6 Tryz.f6 (((fun (a0, a1, a2, a3, a4) => [.agg [.val (.int .i64 a0), .val (.int .i64 a1), .val (.int .i64 a2), .val (.string a3), .slice a4]] : (Int × Int × Int × ByteArray × List D) → List D) a).map .d) [] [] () (fun v _ _ _ => r6 v) := by
  intro a
  obtain ⟨a0, a1, a2, a3, a4⟩ := a
  kernel_rfl
noncomputable def t6 : Tab := (6, e6) :: tS16
theorem ok6 (hl : LibFits gl) : TabOk Tryz.prog gl t6 :=
  told_fn (okS16 hl) mixed (oddOkS16 hl) Tryz.func6 (by kernel_rfl) (by kernel_rfl) (by kernel_rfl) (fun p hp e he => by
    have hq : segsOf (σ := Unit) (g6 (σ := Unit)) (bodyOf Tryz.f6) = [(0, .loop (loopAt Tryz.f6 0))] := by kernel_rfl
    rw [hq] at hp
    simp only [List.mem_cons, List.not_mem_nil, or_false] at hp
    subst hp
    cases he
    exact QQ6_0 hl _ _)
    (args := fun (a0, a1, a2, a3, a4) => [.agg [.val (.int .i64 a0), .val (.int .i64 a1), .val (.int .i64 a2), .val (.string a3), .slice a4]]) (res := r6)
    (fun ds a h => by
      unfold d6 at h
      split at h
      · cases h; rfl
      · cases h)
    (fun v r h => by
      unfold r6 at h
      split at h
      · rename_i hv; cases h; exact hv
      · cases h)
    N6
end
end Ev
