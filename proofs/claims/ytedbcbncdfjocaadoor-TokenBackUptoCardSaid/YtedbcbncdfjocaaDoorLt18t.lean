/- What functions of the program compute, as plain Lean functions, each with its proof by the reader (Lt18t); printed by a tool of this work. -/
import Derived.Test.YtedbcbncdfjocaaDoorEvTh
import Derived.Test.YtedbcbncdfjocaaDoorEvLib
import Derived.Test.YtedbcbncdfjocaaDoorEvLib2
import Derived.Test.YtedbcbncdfjocaaDoorEvBld
import Derived.Test.YtedbcbncdfjocaaDoorChecked
import Derived.KernelRfl
set_option maxRecDepth 100000
set_option linter.unusedVariables false
namespace Ev
open Go Go.Proofs
noncomputable section
variable {gl : Nat → Option (List D)}
def tabs (gl : Nat → Option (List D)) : Tabs := ⟨[(75, [(3, [0]), (2, [0]), (1, [0]), (0, [0])]),
  (44, [(1, [0]), (0, [0])]),
  (84, [(2, [6]), (1, [0, 1]), (0, [0, 1])]),
  (71, [(1, [0]), (0, [])]),
  (98, [(1, [0, 1, 2, 3]), (0, [0, 1, 2, 3])]),
  (38, [(9, []), (4, []), (6, [0]), (8, [0]), (7, [0]), (5, [0]), (3, [0]), (2, [0]), (1, [0]), (0, [0])]),
  (37, [(7, []), (6, [0, 5, 6]), (5, []), (4, [0, 4, 5, 6]), (3, [0, 5, 6]), (2, [0, 5, 6]), (1, [0]), (0, [0])]),
  (67, [(22, [1, 4]), (4, [1, 4, 5]), (7, [0, 1, 4, 5]), (6, [0, 1, 4, 5, 6, 7]), (14, [0, 1, 4, 5]), (13, [0, 1, 4, 5, 6, 7]), (12, [0, 1, 4, 5, 6]), (11, [0, 1, 4, 5, 6, 7]), (10, [0, 1, 4, 5, 7]), (9, [0, 1, 4, 5, 6, 7]), (21, [0, 1, 4, 5]), (20, [0, 1, 4, 5, 6, 7]), (19, [0, 1, 4, 5, 6]), (18, [0, 1, 4, 5, 6, 7]), (17, [0, 1, 4, 5, 7]), (16, [0, 1, 4, 5, 6, 7]), (15, [0, 1, 4, 5, 6, 7]), (8, [0, 1, 4, 5, 6, 7]), (5, [0, 1, 4, 5, 6, 7]), (3, [0, 1, 4, 5, 6, 7]), (2, [0, 1, 4, 5]), (1, [0, 1, 4]), (0, [0, 1])]),
  (45, [(3, [0]), (2, [0]), (1, [0]), (0, [0])]),
  (42, [(4, [4]), (3, []), (2, [0, 4, 5]), (1, [0]), (0, [0])]),
  (29, [(7, [3]), (6, [0, 3, 4, 5]), (5, [0, 3, 4, 5]), (4, [0, 3, 4]), (3, [0, 3, 4]), (2, [0, 3]), (1, [0]), (0, [0])]),
  (72, [(1, [0]), (0, [0])]),
  (43, [(18, [7]), (17, []), (16, [0, 7]), (15, [0, 5]), (14, [0, 4, 5, 7]), (13, [0, 4, 5]), (9, [0, 4, 5, 6]), (12, [0, 4, 5, 6]), (11, []), (10, [0, 4, 5, 6]), (8, [0, 4, 5, 6]), (7, [0, 4, 5]), (6, [0, 4]), (5, []), (4, [0, 4]), (3, [0]), (2, [0, 4]), (1, [0]), (0, [0])]),
  (59, [(11, [4, 6]), (6, [1, 4, 5, 6, 7]), (10, [1, 4, 5, 6, 7]), (9, [1, 4, 5, 6, 7]), (8, [1, 4, 5, 6, 7]), (7, [1, 4, 5, 6, 7]), (5, [1, 4, 5, 6, 7]), (4, [1, 4, 5, 6]), (3, [1, 4, 5]), (2, [0, 1, 4]), (1, [0, 1, 4]), (0, [0, 1])]),
  (41, [(9, []), (6, [3, 4]), (8, []), (7, [3, 4]), (5, [3, 4]), (4, [3]), (3, []), (2, [3]), (1, [0]), (0, [0])]),
  (40, [(10, []), (9, []), (8, [3]), (7, []), (6, [3, 5, 7]), (5, [3, 5, 7]), (4, [3, 7, 8]), (3, [3, 7]), (2, [0, 3]), (1, [0]), (0, [0])]),
  (83, [(11, [0, 1, 3, 8]), (10, [0, 1, 3, 8]), (9, [0, 1, 3, 5, 8]), (8, [0, 1, 3, 5, 8]), (7, [0, 1, 3, 5, 8]), (6, [0, 1, 3, 8]), (5, [0, 1, 3, 4, 5, 8]), (4, [0, 1, 3, 4, 5, 8]), (3, [0, 1, 3, 8, 9]), (2, [0, 1, 3, 8]), (1, [0, 1, 3]), (0, [0, 1])]),
  (56, [(11, [4, 5]), (10, [3, 4, 5]), (9, [5, 6]), (8, [5, 6, 7]), (7, [5, 6, 7]), (6, [3, 4, 5, 6, 7]), (5, [3, 4, 5, 6, 17]), (4, [3, 4, 5, 16, 17]), (3, [0, 3, 4, 5]), (2, [0, 3, 4]), (1, [0, 3, 4]), (0, [0, 1])]),
  (66, [(1, [0]), (0, [0])]),
  (90, [(1, []), (0, [])]),
  (112, [(1, []), (0, [])]),
  (109, [(1, [0]), (0, [0])]),
  (63, [(2, [4, 5]), (1, [0, 1, 4]), (0, [0, 1])]),
  (93, [(3, [0, 1, 4]), (2, [4]), (1, [0, 1, 4]), (0, [0, 1])]),
  (87, [(3, []), (2, [0, 1]), (1, [0, 1]), (0, [0, 1])]),
  (88, [(3, [0, 2]), (2, [0, 2]), (1, [0, 2]), (0, [0])]),
  (92, [(1, [0, 1, 2]), (0, [0, 1, 2])]),
  (60, [(3, [0]), (6, [0]), (5, [0]), (4, [0, 2]), (2, [0, 2]), (1, [0]), (0, [0])]),
  (89, [(4, [0, 3]), (3, [0, 3]), (2, [0, 3]), (1, [0]), (0, [0])]),
  (62, [(6, [0]), (5, [0]), (4, [0, 2]), (3, [0]), (2, [0, 2]), (1, [0]), (0, [0])]),
  (94, [(10, [6]), (9, [0, 5, 6]), (7, [0, 5, 6, 7]), (8, [0, 5, 6, 7]), (6, [0, 5, 6, 7]), (5, [0, 1, 5, 6]), (4, [0, 1, 5]), (3, [0, 1, 5]), (2, [0, 1, 5]), (1, [0, 1]), (0, [0, 1])]),
  (95, [(1, [0, 1]), (0, [0, 1])]),
  (96, [(9, []), (5, [0, 3, 4, 5]), (8, [4, 5]), (7, [0, 3, 4, 5, 6]), (6, [0, 3, 4, 5]), (4, [0, 3, 4, 5]), (3, [0, 3, 4]), (2, [0, 3]), (1, [0]), (0, [0])]),
  (61, [(26, [2, 4]), (25, [0, 2, 4, 88, 89, 90]), (24, [2, 4]), (23, [2, 4, 9]), (22, [0, 2, 4, 9]), (21, [0, 2, 4, 9, 88, 89, 90]), (20, [0, 2, 4, 88, 89, 90]), (19, [0, 2, 4, 88, 89, 90]), (18, [0, 2, 4]), (4, [2, 4]), (7, [2, 4]), (6, [0, 2, 4]), (11, [2, 4, 7]), (10, [2, 4, 6, 7]), (9, [0, 2, 4]), (17, [2, 4]), (16, [2, 4]), (15, [2, 4]), (14, [0, 2, 4]), (13, [0, 2, 4]), (12, [0, 2, 4, 5]), (8, [0, 2, 4, 5]), (5, [0, 2, 4, 5]), (3, [0, 2, 4, 5]), (2, [0, 2, 4]), (1, [0, 2]), (0, [0])]),
  (64, [(20, [2, 8]), (19, [0, 2, 8]), (18, [2]), (17, [0, 2, 8]), (16, [0, 2]), (15, [2]), (14, [0, 2, 4]), (13, [0, 2]), (12, [2]), (11, [0, 2]), (10, [0, 2, 4]), (9, [2, 6]), (8, [2]), (7, [2, 6, 7]), (6, [2, 5]), (5, [0, 2]), (4, [0, 2, 4]), (3, [0, 2]), (2, [0, 2, 4]), (1, [0, 2]), (0, [0])]),
  (18, [(13, [3, 7]), (12, [3, 4, 7, 8]), (11, [3, 4, 7, 8]), (10, [3, 8, 9]), (9, [3, 4, 7, 8, 9]), (8, [3, 4, 7]), (7, [3, 4, 7]), (6, [3, 4]), (5, [4, 5, 6]), (4, [4, 5, 16]), (3, [4, 15, 16]), (2, [0, 3, 4]), (1, [0, 3]), (0, [0])]),
  (19, [(11, [0, 3, 4, 5, 7]), (10, [0, 3, 4, 5, 6, 7]), (9, [0, 3, 6, 8]), (8, [0, 3, 4, 5, 6, 7, 8]), (7, [0, 3, 4, 5, 6]), (6, [0, 3, 4, 5]), (5, [0, 3, 5]), (4, [0, 3, 4, 5]), (3, [0, 3, 4, 5]), (2, [0, 3, 4]), (1, [0, 3]), (0, [0])]),
  (19, [(11, [0, 3, 4, 5, 7]), (10, [0, 3, 4, 5, 6, 7]), (9, [0, 3, 6, 8]), (8, [0, 3, 4, 5, 6, 7, 8]), (7, [0, 3, 4, 5, 6]), (6, [0, 3, 4, 5]), (5, [0, 3, 5]), (4, [0, 3, 4, 5]), (3, [0, 3, 4, 5]), (2, [0, 3, 4]), (1, [0, 3]), (0, [0])]),
  (20, [(8, []), (5, [0, 1, 5]), (7, []), (6, [0, 1, 5]), (4, [0, 1, 5]), (3, [0, 1]), (2, []), (1, [0, 1]), (0, [0, 1])]),
  (22, [(18, [4]), (17, []), (16, [1, 4, 5, 7]), (15, [1, 4, 5, 7]), (14, [1, 4, 5]), (13, []), (12, [1, 4, 5, 6]), (11, [1, 4, 5, 6]), (10, [1, 4]), (5, [1]), (7, [1]), (9, [1]), (8, [1, 4, 9]), (6, [1, 4, 9]), (4, [1, 4, 9]), (3, [1, 4, 9]), (2, [1, 4]), (1, [1]), (0, [0])]),
  (23, [(17, [4]), (16, []), (15, [1, 4, 5]), (14, [1, 4, 5]), (13, []), (12, [1, 4, 5, 6]), (11, [1, 4]), (6, [1]), (8, [1]), (10, [1]), (9, [1, 4, 10]), (7, [1, 4, 10]), (5, [1, 4, 10]), (4, [1, 4, 10]), (3, [1, 4]), (2, [1]), (1, [1]), (0, [0])]),
  (26, [(8, [3]), (4, [0, 3, 4]), (7, [0, 3, 4, 5]), (6, [0, 3, 4, 5]), (5, [0, 3, 4]), (3, [0, 3, 4]), (2, [0, 3]), (1, [0]), (0, [0])]),
  (27, [(8, []), (3, []), (5, []), (7, []), (6, [3]), (4, [3]), (2, [3]), (1, [0]), (0, [0])]),
  (24, [(10, [4]), (9, [0, 4, 9, 10, 11]), (8, [0, 4, 7, 9, 10, 11]), (7, []), (6, [0, 4, 5, 6, 7, 8, 9, 10, 11]), (5, [0, 4, 5, 6, 9, 10, 11]), (4, [0, 4, 9, 10, 11]), (3, [0, 4, 9, 10, 11]), (2, [0, 4]), (1, [0]), (0, [0])]),
  (25, [(11, [4]), (4, [0, 4, 5]), (10, [0, 4, 5, 6]), (9, [0, 4, 5, 6]), (8, [0, 4, 5, 6]), (7, []), (6, [0, 4, 5, 6, 7]), (5, [0, 4, 5]), (3, [0, 4, 5]), (2, [0, 4]), (1, [0]), (0, [0])]),
  (21, [(4, [1, 2, 4, 5, 6]), (3, [1, 2, 4]), (2, [1, 2]), (1, []), (0, [])]),
  (4, [(5, [5, 6, 7, 8, 9, 10, 11, 12]), (4, [1, 5, 6, 7, 8, 9, 10]), (3, [1, 5, 6, 7, 8]), (2, [1, 2, 5, 6]), (1, [1, 2]), (0, [0, 1])]),
  (6, [(18, [13, 15, 16]), (17, [12, 13, 14, 15]), (16, [7, 12, 13]), (15, [5, 7]), (7, [0, 1, 5, 7, 8]), (14, [0, 1, 5, 7, 8, 9, 11]), (13, [0, 1, 5, 7, 8, 9]), (12, [0, 1, 5, 7, 8, 9, 11]), (11, [0, 1, 5, 7, 8, 9]), (10, []), (9, [0, 1, 5, 7, 8, 9, 10]), (8, [0, 1, 5, 7, 8]), (6, [0, 1, 5, 7, 8]), (5, [0, 1, 5, 7]), (4, [0, 1, 5]), (3, []), (2, [0, 1, 5, 6]), (1, [0, 1]), (0, [0, 1])]),
  (26, [(8, [3]), (4, [0, 3, 4]), (7, [0, 3, 4, 5]), (6, [0, 3, 4, 5]), (5, [0, 3, 4]), (3, [0, 3, 4]), (2, [0, 3]), (1, [0]), (0, [0])]),
  (5, [(9, [6, 8]), (8, [5, 6, 7]), (7, [5, 6, 7]), (6, [5, 6, 7]), (5, [0, 5, 6]), (4, [0, 3]), (3, []), (2, [0, 3, 4]), (1, [0]), (0, [0])])],
  [(75, []),
  (44, []),
  (84, []),
  (71, []),
  (98, []),
  (38, [(0, [2])]),
  (37, [(0, [2]), (1, [0, 2, 5, 6])]),
  (67, [(0, [1, 4])]),
  (45, []),
  (42, []),
  (29, [(0, [3]), (1, [0, 3, 4])]),
  (72, []),
  (43, [(0, [0, 2, 3, 4, 5]), (1, [0, 2, 3, 4, 5, 6])]),
  (59, [(0, [4, 6]), (1, [1, 4, 5, 6, 7])]),
  (41, [(0, [2]), (1, [2, 3, 4])]),
  (40, [(0, [2, 3]), (1, [2, 3, 7])]),
  (83, [(0, []), (1, [0, 1, 3, 8])]),
  (56, [(0, [3, 4, 5]), (1, [3, 4, 5])]),
  (66, []),
  (90, []),
  (112, []),
  (109, []),
  (63, []),
  (93, []),
  (87, []),
  (88, []),
  (92, []),
  (60, [(0, []), (1, [0]), (2, [0]), (3, [0]), (4, [0])]),
  (89, [(0, [0, 3]), (1, [0, 3])]),
  (62, [(0, []), (1, [0]), (2, [0]), (3, [0])]),
  (94, [(2, [0, 5, 6]), (3, [0, 5, 6, 7]), (0, [0, 1, 5]), (1, [0, 1, 5])]),
  (95, []),
  (96, [(0, [2]), (1, [0, 2, 3, 4, 5])]),
  (61, [(1, [2, 3, 4]), (2, [0, 2, 3, 4, 88, 89, 90]), (0, [0, 2, 3, 4])]),
  (64, []),
  (18, [(2, [2, 3]), (3, [2, 3, 4, 7]), (0, [3, 4]), (1, [])]),
  (19, [(0, [2, 3]), (1, [0, 2, 3, 4, 5])]),
  (19, [(0, [2, 3]), (1, [0, 2, 3, 4, 5])]),
  (20, [(0, [4]), (1, [0, 1, 4, 5])]),
  (22, [(0, [1, 4])]),
  (23, [(0, [1, 4])]),
  (26, [(0, [3]), (1, [0, 3, 4])]),
  (27, [(0, [2])]),
  (24, [(0, [2, 3, 4]), (1, [0, 2, 3, 4, 9, 10, 11])]),
  (25, [(0, [2, 3, 4]), (1, [0, 2, 3, 4, 5])]),
  (21, []),
  (4, []),
  (6, [(0, [4, 5, 7]), (1, [0, 1, 4, 5, 7, 8])]),
  (26, [(0, [3]), (1, [0, 3, 4])]),
  (5, [])],
  [(18, [(2, [(1, 1, false)])])],
  [(38, [(1, [3]), (2, [3]), (5, [3]), (6, [3]), (7, [3])]), (37, [(4, [5])]), (67, [(5, [3]), (8, [3]), (15, [3])]), (72, [(1, [11])]), (43, [(4, [5])]), (41, [(2, [4])]), (40, [(8, [3])]), (109, [(1, [11])]), (60, [(2, [3, 7, 11])]), (62, [(2, [3, 7, 11])]), (61, [(8, [3]), (15, [4])]), (64, [(4, [3])]), (22, [(12, [4])]), (23, [(12, [4])]), (21, [(4, [4, 36, 40])]), (4, [(5, [4, 9, 14])]), (6, [(2, [3]), (18, [9])]), (5, [(9, [4])])],
  [83, 87, 88, 92, 60, 89, 62, 94, 95, 96, 61, 64], [54, 53, 104, 124], gl, oddT, []⟩
theorem oddOk : OddSound Tryd.prog gl (tabs gl).odd := oddT_sound
noncomputable def tS0 : Tab := [(91, e91), (65, e65), (110, e110), (102, e102), (107, e107), (86, e86), (82, e82), (73, e73), (74, e74)]
theorem okS0 (hl : LibFits2 gl) : TabOk Tryd.prog gl tS0 := libAll2 hl
theorem mixed : Tryd.prog.follows .mixedOrders = true := Tryd.checked.mixed
def d75 (ds : List D) : Option (Int) := match ds with
  | [.val (.int .u64 a0)] => some a0
  | _ => none
def r75 (v : AV) : Option (ByteArray) := match toPR v with
  | some (.one (.val (.string a1))) => some a1
  | _ => none
def n75 : Nat → Int → Option (ByteArray)
  | 0, _ => none
  | k + 1, a0 => (bif (decide (a0 < 10)) then (ask (byteOk (wu8 (wu64 (48 + a0)))) (some (bcons (wu8 (wu64 (48 + a0))) ByteArray.empty))) else ((n75 k (wu64 ((a0 : Int).tdiv 10))).bind fun y2 => ((n75 k ((a0 : Int).tmod 10)).bind fun y3 => (ask (catOk y2 y3) (some (y2 ++ y3))))))
def e75 : PureE := mkE d75 (n75 64) (fun a1 => .one (.val (.string a1)))
def g75 {σ : Type} : Nat → Option (SegE σ)
  | _ => none
theorem N75 : ∀ k a, n75 (k + 1) a = bodyK (cfgOf Tryd.prog (tabs gl) (((75, mkE d75 (n75 k) (fun a1 => .one (.val (.string a1)))) :: tS0) : Tab)) (toldOf (((75, mkE d75 (n75 k) (fun a1 => .one (.val (.string a1)))) :: tS0) : Tab)) noY (inlN (cfgOf Tryd.prog (tabs gl) (((75, mkE d75 (n75 k) (fun a1 => .one (.val (.string a1)))) :: tS0) : Tab)) (toldOf (((75, mkE d75 (n75 k) (fun a1 => .one (.val (.string a1)))) :: tS0) : Tab)) noY) g75 75 Tryd.f75 (((fun a0 => [.val (.int .u64 a0)] : (Int) → List D) a).map .d) [] [] () (fun v _ _ _ => r75 v) := by
  intro k a0
  kernel_rfl
noncomputable def t75 : Tab := (75, e75) :: tS0
theorem ok75 (hl : LibFits2 gl) : TabOk Tryd.prog gl t75 :=
  told_rec (t := tabs gl) (okS0 hl) mixed oddOk Tryd.func75 (by kernel_rfl) (nat := n75) (seg := fun _ => g75) (by kernel_rfl) (fun k => segs_no (by kernel_rfl))
    (args := fun a0 => [.val (.int .u64 a0)]) (res := r75)
    (fun ds a h => by
      unfold d75 at h
      split at h
      · cases h; rfl
      · cases h)
    (fun v r h => by
      unfold r75 at h
      split at h
      · rename_i hv; cases h; exact hv
      · cases h)
    (fun _ => rfl) N75 64
def d44 (ds : List D) : Option (Int) := match ds with
  | [.val (.int .i64 a0)] => some a0
  | _ => none
def r44 (v : AV) : Option (ByteArray) := match toPR v with
  | some (.one (.val (.string a1))) => some a1
  | _ => none
def n44 : Int → Option (ByteArray) := fun a0 => ((n74 (a0, 10)).bind fun y2 => (some y2))
def e44 : PureE := mkE d44 n44 (fun a1 => .one (.val (.string a1)))
def g44 {σ : Type} : Nat → Option (SegE σ)
  | _ => none
theorem N44 : ∀ a, n44 a = bodyK (cfgOf Tryd.prog (tabs gl) tS0) (toldOf tS0) noY (inlN (cfgOf Tryd.prog (tabs gl) tS0) (toldOf tS0) noY) g44 44 Tryd.f44 (((fun a0 => [.val (.int .i64 a0)] : (Int) → List D) a).map .d) [] [] () (fun v _ _ _ => r44 v) := by
  intro a0
  kernel_rfl
noncomputable def t44 : Tab := (44, e44) :: tS0
theorem ok44 (hl : LibFits2 gl) : TabOk Tryd.prog gl t44 :=
  told_fn (okS0 hl) mixed oddOk Tryd.func44 (by kernel_rfl) (by kernel_rfl) (by kernel_rfl) (segs_no (by kernel_rfl))
    (args := fun a0 => [.val (.int .i64 a0)]) (res := r44)
    (fun ds a h => by
      unfold d44 at h
      split at h
      · cases h; rfl
      · cases h)
    (fun v r h => by
      unfold r44 at h
      split at h
      · rename_i hv; cases h; exact hv
      · cases h)
    N44
def d84 (ds : List D) : Option (ByteArray × Int) := match ds with
  | [.val (.string a0), .val (.int .i64 a1)] => some (a0, a1)
  | _ => none
def r84 (v : AV) : Option (Bool) := match toPR v with
  | some (.one (.val (.bool a2))) => some a2
  | _ => none
def n84 : ByteArray × Int → Option (Bool) := fun (a0, a1) => (ask (cutOk a1 (a0.size : Int) a0.size) ((n107 (a0.extract (Int.toNat a1) (Int.toNat (a0.size : Int)))).bind fun y3 => (some (y3.2 == 1))))
def e84 : PureE := mkE d84 n84 (fun a2 => .one (.val (.bool a2)))
def g84 {σ : Type} : Nat → Option (SegE σ)
  | _ => none
theorem N84 : ∀ a, n84 a = bodyK (cfgOf Tryd.prog (tabs gl) tS0) (toldOf tS0) noY (inlN (cfgOf Tryd.prog (tabs gl) tS0) (toldOf tS0) noY) g84 84 Tryd.f84 (((fun (a0, a1) => [.val (.string a0), .val (.int .i64 a1)] : (ByteArray × Int) → List D) a).map .d) [] [] () (fun v _ _ _ => r84 v) := by
  intro a
  obtain ⟨a0, a1⟩ := a
  kernel_rfl
noncomputable def t84 : Tab := (84, e84) :: tS0
theorem ok84 (hl : LibFits2 gl) : TabOk Tryd.prog gl t84 :=
  told_fn (okS0 hl) mixed oddOk Tryd.func84 (by kernel_rfl) (by kernel_rfl) (by kernel_rfl) (segs_no (by kernel_rfl))
    (args := fun (a0, a1) => [.val (.string a0), .val (.int .i64 a1)]) (res := r84)
    (fun ds a h => by
      unfold d84 at h
      split at h
      · cases h; rfl
      · cases h)
    (fun v r h => by
      unfold r84 at h
      split at h
      · rename_i hv; cases h; exact hv
      · cases h)
    N84
def d71 (ds : List D) : Option (Unit) := match ds with
  | [] => some ()
  | _ => none
def r71 (v : AV) : Option (Int × Int × Int × Int × Int × Int × Int × Int × Int × Int × Int × Int × Int × Int × Int × Int) := match toPR v with
  | some (.one (.agg [.val (.int .i32 a0), .val (.int .i32 a1), .val (.int .i32 a2), .val (.int .i32 a3), .val (.int .i32 a4), .val (.int .i32 a5), .val (.int .i32 a6), .val (.int .i32 a7), .val (.int .i32 a8), .val (.int .i32 a9), .val (.int .i32 a10), .val (.int .i32 a11), .val (.int .i32 a12), .val (.int .i32 a13), .val (.int .i32 a14), .val (.int .i32 a15)])) => some (a0, a1, a2, a3, a4, a5, a6, a7, a8, a9, a10, a11, a12, a13, a14, a15)
  | _ => none
def n71 : Unit → Option (Int × Int × Int × Int × Int × Int × Int × Int × Int × Int × Int × Int × Int × Int × Int × Int) := fun () => (some (97, 122, 65, 90, 95, 95, 192, 214, 216, 246, 248, 591, 913, 929, 931, 969))
def e71 : PureE := mkE d71 n71 (fun (a0, a1, a2, a3, a4, a5, a6, a7, a8, a9, a10, a11, a12, a13, a14, a15) => .one (.agg [.val (.int .i32 a0), .val (.int .i32 a1), .val (.int .i32 a2), .val (.int .i32 a3), .val (.int .i32 a4), .val (.int .i32 a5), .val (.int .i32 a6), .val (.int .i32 a7), .val (.int .i32 a8), .val (.int .i32 a9), .val (.int .i32 a10), .val (.int .i32 a11), .val (.int .i32 a12), .val (.int .i32 a13), .val (.int .i32 a14), .val (.int .i32 a15)]))
def g71 {σ : Type} : Nat → Option (SegE σ)
  | _ => none
theorem N71 : ∀ a, n71 a = bodyK (cfgOf Tryd.prog (tabs gl) tS0) (toldOf tS0) noY (inlN (cfgOf Tryd.prog (tabs gl) tS0) (toldOf tS0) noY) g71 71 Tryd.f71 (((fun () => [] : (Unit) → List D) a).map .d) [] [] () (fun v _ _ _ => r71 v) := by
  intro a
  kernel_rfl
noncomputable def t71 : Tab := (71, e71) :: tS0
theorem ok71 (hl : LibFits2 gl) : TabOk Tryd.prog gl t71 :=
  told_fn (okS0 hl) mixed oddOk Tryd.func71 (by kernel_rfl) (by kernel_rfl) (by kernel_rfl) (segs_no (by kernel_rfl))
    (args := fun () => []) (res := r71)
    (fun ds a h => by
      unfold d71 at h
      split at h
      · cases h; rfl
      · cases h)
    (fun v r h => by
      unfold r71 at h
      split at h
      · rename_i hv; cases h; exact hv
      · cases h)
    N71
def d98 (ds : List D) : Option (ByteArray × Int × Int × Int) := match ds with
  | [.val (.string a0), .val (.int .i64 a1), .val (.int .u8 a2), .val (.int .u8 a3)] => some (a0, a1, a2, a3)
  | _ => none
def r98 (v : AV) : Option (Bool) := match toPR v with
  | some (.one (.val (.bool a4))) => some a4
  | _ => none
def n98 : ByteArray × Int × Int × Int → Option (Bool) := fun (a0, a1, a2, a3) => (bif (decide (a1 < (a0.size : Int))) then ((sidx a0 a1).bind fun c5 => (bif (decide ((c5.toNat : Int) ≥ a2)) then ((sidx a0 a1).bind fun c6 => (some (decide ((c6.toNat : Int) ≤ a3)))) else (some false))) else (some false))
def e98 : PureE := mkE d98 n98 (fun a4 => .one (.val (.bool a4)))
def g98 {σ : Type} : Nat → Option (SegE σ)
  | _ => none
theorem N98 : ∀ a, n98 a = bodyK (cfgOf Tryd.prog (tabs gl) tS0) (toldOf tS0) noY (inlN (cfgOf Tryd.prog (tabs gl) tS0) (toldOf tS0) noY) g98 98 Tryd.f98 (((fun (a0, a1, a2, a3) => [.val (.string a0), .val (.int .i64 a1), .val (.int .u8 a2), .val (.int .u8 a3)] : (ByteArray × Int × Int × Int) → List D) a).map .d) [] [] () (fun v _ _ _ => r98 v) := by
  intro a
  obtain ⟨a0, a1, a2, a3⟩ := a
  kernel_rfl
noncomputable def t98 : Tab := (98, e98) :: tS0
theorem ok98 (hl : LibFits2 gl) : TabOk Tryd.prog gl t98 :=
  told_fn (okS0 hl) mixed oddOk Tryd.func98 (by kernel_rfl) (by kernel_rfl) (by kernel_rfl) (segs_no (by kernel_rfl))
    (args := fun (a0, a1, a2, a3) => [.val (.string a0), .val (.int .i64 a1), .val (.int .u8 a2), .val (.int .u8 a3)]) (res := r98)
    (fun ds a h => by
      unfold d98 at h
      split at h
      · cases h; rfl
      · cases h)
    (fun v r h => by
      unfold r98 at h
      split at h
      · rename_i hv; cases h; exact hv
      · cases h)
    N98
def d38 (ds : List D) : Option (Int) := match ds with
  | [.val (.int .i64 a0)] => some a0
  | _ => none
def r38 (v : AV) : Option (Bool) := match toPR v with
  | some (.one (.val (.bool a1))) => some a1
  | _ => none
def n38 : Int → Option (Bool) := fun a0 => (bif (bif (decide (a0 ≥ 97)) then (decide (a0 ≤ 122)) else false) then (some true) else (bif (bif (decide (a0 ≥ 65)) then (decide (a0 ≤ 90)) else false) then (some true) else (bif (a0 == 95) then (some true) else (bif (bif (decide (a0 ≥ 192)) then (decide (a0 ≤ 591)) else false) then (some (bif (a0 != 215) then (a0 != 247) else false)) else (bif (bif (decide (a0 ≥ 913)) then (decide (a0 ≤ 969)) else false) then (some (a0 != 930)) else (some false))))))
def e38 : PureE := mkE d38 n38 (fun a1 => .one (.val (.bool a1)))
def g38 {σ : Type} : Nat → Option (SegE σ)
  | _ => none
theorem N38 : ∀ a, n38 a = bodyK (cfgOf Tryd.prog (tabs gl) tS0) (toldOf tS0) noY (inlN (cfgOf Tryd.prog (tabs gl) tS0) (toldOf tS0) noY) g38 38 Tryd.f38 (((fun a0 => [.val (.int .i64 a0)] : (Int) → List D) a).map .d) [] [] () (fun v _ _ _ => r38 v) := by
  intro a0
  kernel_rfl
noncomputable def t38 : Tab := (38, e38) :: tS0
theorem ok38 (hl : LibFits2 gl) : TabOk Tryd.prog gl t38 :=
  told_fn (okS0 hl) mixed oddOk Tryd.func38 (by kernel_rfl) (by kernel_rfl) (by kernel_rfl) (segs_no (by kernel_rfl))
    (args := fun a0 => [.val (.int .i64 a0)]) (res := r38)
    (fun ds a h => by
      unfold d38 at h
      split at h
      · cases h; rfl
      · cases h)
    (fun v r h => by
      unfold r38 at h
      split at h
      · rename_i hv; cases h; exact hv
      · cases h)
    N38
noncomputable def tS1 : Tab := (75, e75) :: (44, e44) :: (84, e84) :: (71, e71) :: (98, e98) :: (38, e38) :: tS0
theorem okS1 (hl : LibFits2 gl) : TabOk Tryd.prog gl tS1 :=
  TabOk.cons (TabOk.cons (TabOk.cons (TabOk.cons (TabOk.cons (TabOk.cons (okS0 hl) ((ok38 hl).fair (38, e38) (List.mem_cons_self (l := tS0))) ((ok38 hl).spec (38, e38) (List.mem_cons_self (l := tS0)))) ((ok98 hl).fair (98, e98) (List.mem_cons_self (l := tS0))) ((ok98 hl).spec (98, e98) (List.mem_cons_self (l := tS0)))) ((ok71 hl).fair (71, e71) (List.mem_cons_self (l := tS0))) ((ok71 hl).spec (71, e71) (List.mem_cons_self (l := tS0)))) ((ok84 hl).fair (84, e84) (List.mem_cons_self (l := tS0))) ((ok84 hl).spec (84, e84) (List.mem_cons_self (l := tS0)))) ((ok44 hl).fair (44, e44) (List.mem_cons_self (l := tS0))) ((ok44 hl).spec (44, e44) (List.mem_cons_self (l := tS0)))) ((ok75 hl).fair (75, e75) (List.mem_cons_self (l := tS0))) ((ok75 hl).spec (75, e75) (List.mem_cons_self (l := tS0)))
def d37 (ds : List D) : Option (Int) := match ds with
  | [.val (.int .i32 a0)] => some a0
  | _ => none
def r37 (v : AV) : Option (Bool) := match toPR v with
  | some (.one (.val (.bool a1))) => some a1
  | _ => none
def n37 : Int → Option (Bool) := fun a0 => ((n71 ()).bind fun y2 => (bif (bif (decide (a0 ≥ y2.1)) then (decide (a0 ≤ y2.2.1)) else false) then (some true) else (bif (bif (decide (a0 ≥ y2.2.2.1)) then (decide (a0 ≤ y2.2.2.2.1)) else false) then (some true) else (bif (bif (decide (a0 ≥ y2.2.2.2.2.1)) then (decide (a0 ≤ y2.2.2.2.2.2.1)) else false) then (some true) else (bif (bif (decide (a0 ≥ y2.2.2.2.2.2.2.1)) then (decide (a0 ≤ y2.2.2.2.2.2.2.2.1)) else false) then (some true) else (bif (bif (decide (a0 ≥ y2.2.2.2.2.2.2.2.2.1)) then (decide (a0 ≤ y2.2.2.2.2.2.2.2.2.2.1)) else false) then (some true) else (bif (bif (decide (a0 ≥ y2.2.2.2.2.2.2.2.2.2.2.1)) then (decide (a0 ≤ y2.2.2.2.2.2.2.2.2.2.2.2.1)) else false) then (some true) else (bif (bif (decide (a0 ≥ y2.2.2.2.2.2.2.2.2.2.2.2.2.1)) then (decide (a0 ≤ y2.2.2.2.2.2.2.2.2.2.2.2.2.2.1)) else false) then (some true) else (bif (bif (decide (a0 ≥ y2.2.2.2.2.2.2.2.2.2.2.2.2.2.2.1)) then (decide (a0 ≤ y2.2.2.2.2.2.2.2.2.2.2.2.2.2.2.2)) else false) then (some true) else (some false))))))))))
def e37 : PureE := mkE d37 n37 (fun a1 => .one (.val (.bool a1)))
def g37 {σ : Type} : Nat → Option (SegE σ)
  | _ => none
theorem N37 : ∀ a, n37 a = bodyK (cfgOf Tryd.prog (tabs gl) tS1) (toldOf tS1) noY (inlN (cfgOf Tryd.prog (tabs gl) tS1) (toldOf tS1) noY) g37 37 Tryd.f37 (((fun a0 => [.val (.int .i32 a0)] : (Int) → List D) a).map .d) [] [] () (fun v _ _ _ => r37 v) := by
  intro a0
  kernel_rfl
noncomputable def t37 : Tab := (37, e37) :: tS1
theorem ok37 (hl : LibFits2 gl) : TabOk Tryd.prog gl t37 :=
  told_fn (okS1 hl) mixed oddOk Tryd.func37 (by kernel_rfl) (by kernel_rfl) (by kernel_rfl) (segs_no (by kernel_rfl))
    (args := fun a0 => [.val (.int .i32 a0)]) (res := r37)
    (fun ds a h => by
      unfold d37 at h
      split at h
      · cases h; rfl
      · cases h)
    (fun v r h => by
      unfold r37 at h
      split at h
      · rename_i hv; cases h; exact hv
      · cases h)
    N37
def d67 (ds : List D) : Option (ByteArray × Int) := match ds with
  | [.val (.string a0), .val (.int .i64 a1)] => some (a0, a1)
  | _ => none
def r67 (v : AV) : Option (Int × Int × Int) := match toPR v with
  | some (.one (.agg [.val (.int .i64 a2), .val (.int .i64 a3), .val (.int .i64 a4)])) => some (a2, a3, a4)
  | _ => none
def n67 : ByteArray × Int → Option (Int × Int × Int) := fun (a0, a1) => ((sidx a0 a1).bind fun c5 => (bif (decide ((c5.toNat : Int) < 128)) then (some ((w64 (c5.toNat : Int)), a1, 1)) else (bif (bif (decide ((c5.toNat : Int) ≥ 194)) then (decide ((c5.toNat : Int) ≤ 223)) else false) then ((n98 (a0, (w64 (a1 + 1)), 128, 191)).bind fun y6 => (bif y6 then ((sidx a0 (w64 (a1 + 1))).bind fun c7 => (some ((bOr .i64 (w64 ((w64 (bAnd .u8 (c5.toNat : Int) 31)) * 2 ^ (min (Int.toNat 6) 64))) (w64 (bAnd .u8 (c7.toNat : Int) 63))), a1, 2))) else (some ((-1), a1, 1)))) else (bif (bif (decide ((c5.toNat : Int) ≥ 224)) then (decide ((c5.toNat : Int) ≤ 239)) else false) then (bif ((c5.toNat : Int) == 224) then (bif ((c5.toNat : Int) == 237) then ((n98 (a0, (w64 (a1 + 1)), 160, 159)).bind fun y8 => (bif y8 then ((n98 (a0, (w64 (a1 + 2)), 128, 191)).bind fun y9 => (bif y9 then ((sidx a0 (w64 (a1 + 1))).bind fun c10 => ((sidx a0 (w64 (a1 + 2))).bind fun c11 => (some ((bOr .i64 (bOr .i64 (w64 ((w64 (bAnd .u8 (c5.toNat : Int) 15)) * 2 ^ (min (Int.toNat 12) 64))) (w64 ((w64 (bAnd .u8 (c10.toNat : Int) 63)) * 2 ^ (min (Int.toNat 6) 64)))) (w64 (bAnd .u8 (c11.toNat : Int) 63))), a1, 3)))) else (some ((-1), a1, 1)))) else (some ((-1), a1, 1)))) else ((n98 (a0, (w64 (a1 + 1)), 160, 191)).bind fun y12 => (bif y12 then ((n98 (a0, (w64 (a1 + 2)), 128, 191)).bind fun y13 => (bif y13 then ((sidx a0 (w64 (a1 + 1))).bind fun c14 => ((sidx a0 (w64 (a1 + 2))).bind fun c15 => (some ((bOr .i64 (bOr .i64 (w64 ((w64 (bAnd .u8 (c5.toNat : Int) 15)) * 2 ^ (min (Int.toNat 12) 64))) (w64 ((w64 (bAnd .u8 (c14.toNat : Int) 63)) * 2 ^ (min (Int.toNat 6) 64)))) (w64 (bAnd .u8 (c15.toNat : Int) 63))), a1, 3)))) else (some ((-1), a1, 1)))) else (some ((-1), a1, 1))))) else (bif ((c5.toNat : Int) == 237) then ((n98 (a0, (w64 (a1 + 1)), 128, 159)).bind fun y16 => (bif y16 then ((n98 (a0, (w64 (a1 + 2)), 128, 191)).bind fun y17 => (bif y17 then ((sidx a0 (w64 (a1 + 1))).bind fun c18 => ((sidx a0 (w64 (a1 + 2))).bind fun c19 => (some ((bOr .i64 (bOr .i64 (w64 ((w64 (bAnd .u8 (c5.toNat : Int) 15)) * 2 ^ (min (Int.toNat 12) 64))) (w64 ((w64 (bAnd .u8 (c18.toNat : Int) 63)) * 2 ^ (min (Int.toNat 6) 64)))) (w64 (bAnd .u8 (c19.toNat : Int) 63))), a1, 3)))) else (some ((-1), a1, 1)))) else (some ((-1), a1, 1)))) else ((n98 (a0, (w64 (a1 + 1)), 128, 191)).bind fun y20 => (bif y20 then ((n98 (a0, (w64 (a1 + 2)), 128, 191)).bind fun y21 => (bif y21 then ((sidx a0 (w64 (a1 + 1))).bind fun c22 => ((sidx a0 (w64 (a1 + 2))).bind fun c23 => (some ((bOr .i64 (bOr .i64 (w64 ((w64 (bAnd .u8 (c5.toNat : Int) 15)) * 2 ^ (min (Int.toNat 12) 64))) (w64 ((w64 (bAnd .u8 (c22.toNat : Int) 63)) * 2 ^ (min (Int.toNat 6) 64)))) (w64 (bAnd .u8 (c23.toNat : Int) 63))), a1, 3)))) else (some ((-1), a1, 1)))) else (some ((-1), a1, 1)))))) else (bif (bif (decide ((c5.toNat : Int) ≥ 240)) then (decide ((c5.toNat : Int) ≤ 244)) else false) then (bif ((c5.toNat : Int) == 240) then (bif ((c5.toNat : Int) == 244) then ((n98 (a0, (w64 (a1 + 1)), 144, 143)).bind fun y24 => (bif y24 then ((n98 (a0, (w64 (a1 + 2)), 128, 191)).bind fun y25 => (bif y25 then ((n98 (a0, (w64 (a1 + 3)), 128, 191)).bind fun y26 => (bif y26 then ((sidx a0 (w64 (a1 + 1))).bind fun c27 => ((sidx a0 (w64 (a1 + 2))).bind fun c28 => ((sidx a0 (w64 (a1 + 3))).bind fun c29 => (some ((bOr .i64 (bOr .i64 (bOr .i64 (w64 ((w64 (bAnd .u8 (c5.toNat : Int) 7)) * 2 ^ (min (Int.toNat 18) 64))) (w64 ((w64 (bAnd .u8 (c27.toNat : Int) 63)) * 2 ^ (min (Int.toNat 12) 64)))) (w64 ((w64 (bAnd .u8 (c28.toNat : Int) 63)) * 2 ^ (min (Int.toNat 6) 64)))) (w64 (bAnd .u8 (c29.toNat : Int) 63))), a1, 4))))) else (some ((-1), a1, 1)))) else (some ((-1), a1, 1)))) else (some ((-1), a1, 1)))) else ((n98 (a0, (w64 (a1 + 1)), 144, 191)).bind fun y30 => (bif y30 then ((n98 (a0, (w64 (a1 + 2)), 128, 191)).bind fun y31 => (bif y31 then ((n98 (a0, (w64 (a1 + 3)), 128, 191)).bind fun y32 => (bif y32 then ((sidx a0 (w64 (a1 + 1))).bind fun c33 => ((sidx a0 (w64 (a1 + 2))).bind fun c34 => ((sidx a0 (w64 (a1 + 3))).bind fun c35 => (some ((bOr .i64 (bOr .i64 (bOr .i64 (w64 ((w64 (bAnd .u8 (c5.toNat : Int) 7)) * 2 ^ (min (Int.toNat 18) 64))) (w64 ((w64 (bAnd .u8 (c33.toNat : Int) 63)) * 2 ^ (min (Int.toNat 12) 64)))) (w64 ((w64 (bAnd .u8 (c34.toNat : Int) 63)) * 2 ^ (min (Int.toNat 6) 64)))) (w64 (bAnd .u8 (c35.toNat : Int) 63))), a1, 4))))) else (some ((-1), a1, 1)))) else (some ((-1), a1, 1)))) else (some ((-1), a1, 1))))) else (bif ((c5.toNat : Int) == 244) then ((n98 (a0, (w64 (a1 + 1)), 128, 143)).bind fun y36 => (bif y36 then ((n98 (a0, (w64 (a1 + 2)), 128, 191)).bind fun y37 => (bif y37 then ((n98 (a0, (w64 (a1 + 3)), 128, 191)).bind fun y38 => (bif y38 then ((sidx a0 (w64 (a1 + 1))).bind fun c39 => ((sidx a0 (w64 (a1 + 2))).bind fun c40 => ((sidx a0 (w64 (a1 + 3))).bind fun c41 => (some ((bOr .i64 (bOr .i64 (bOr .i64 (w64 ((w64 (bAnd .u8 (c5.toNat : Int) 7)) * 2 ^ (min (Int.toNat 18) 64))) (w64 ((w64 (bAnd .u8 (c39.toNat : Int) 63)) * 2 ^ (min (Int.toNat 12) 64)))) (w64 ((w64 (bAnd .u8 (c40.toNat : Int) 63)) * 2 ^ (min (Int.toNat 6) 64)))) (w64 (bAnd .u8 (c41.toNat : Int) 63))), a1, 4))))) else (some ((-1), a1, 1)))) else (some ((-1), a1, 1)))) else (some ((-1), a1, 1)))) else ((n98 (a0, (w64 (a1 + 1)), 128, 191)).bind fun y42 => (bif y42 then ((n98 (a0, (w64 (a1 + 2)), 128, 191)).bind fun y43 => (bif y43 then ((n98 (a0, (w64 (a1 + 3)), 128, 191)).bind fun y44 => (bif y44 then ((sidx a0 (w64 (a1 + 1))).bind fun c45 => ((sidx a0 (w64 (a1 + 2))).bind fun c46 => ((sidx a0 (w64 (a1 + 3))).bind fun c47 => (some ((bOr .i64 (bOr .i64 (bOr .i64 (w64 ((w64 (bAnd .u8 (c5.toNat : Int) 7)) * 2 ^ (min (Int.toNat 18) 64))) (w64 ((w64 (bAnd .u8 (c45.toNat : Int) 63)) * 2 ^ (min (Int.toNat 12) 64)))) (w64 ((w64 (bAnd .u8 (c46.toNat : Int) 63)) * 2 ^ (min (Int.toNat 6) 64)))) (w64 (bAnd .u8 (c47.toNat : Int) 63))), a1, 4))))) else (some ((-1), a1, 1)))) else (some ((-1), a1, 1)))) else (some ((-1), a1, 1)))))) else (some ((-1), a1, 1)))))))
def e67 : PureE := mkE d67 n67 (fun (a2, a3, a4) => .one (.agg [.val (.int .i64 a2), .val (.int .i64 a3), .val (.int .i64 a4)]))
def g67 {σ : Type} : Nat → Option (SegE σ)
  | _ => none
theorem N67 : ∀ a, n67 a = bodyK (cfgOf Tryd.prog (tabs gl) tS1) (toldOf tS1) noY (inlN (cfgOf Tryd.prog (tabs gl) tS1) (toldOf tS1) noY) g67 67 Tryd.f67 (((fun (a0, a1) => [.val (.string a0), .val (.int .i64 a1)] : (ByteArray × Int) → List D) a).map .d) [] [] () (fun v _ _ _ => r67 v) := by
  intro a
  obtain ⟨a0, a1⟩ := a
  kernel_rfl
noncomputable def t67 : Tab := (67, e67) :: tS1
theorem ok67 (hl : LibFits2 gl) : TabOk Tryd.prog gl t67 :=
  told_fn (okS1 hl) mixed oddOk Tryd.func67 (by kernel_rfl) (by kernel_rfl) (by kernel_rfl) (segs_no (by kernel_rfl))
    (args := fun (a0, a1) => [.val (.string a0), .val (.int .i64 a1)]) (res := r67)
    (fun ds a h => by
      unfold d67 at h
      split at h
      · cases h; rfl
      · cases h)
    (fun v r h => by
      unfold r67 at h
      split at h
      · rename_i hv; cases h; exact hv
      · cases h)
    N67
def d45 (ds : List D) : Option (Int) := match ds with
  | [.val (.int .i64 a0)] => some a0
  | _ => none
def r45 (v : AV) : Option (ByteArray) := match toPR v with
  | some (.one (.val (.string a1))) => some a1
  | _ => none
def n45 : Int → Option (ByteArray) := fun a0 => (bif (decide (a0 < 0)) then ((n75 64 (wu64 ((wu64 (w64 (0 - (w64 (a0 + 1))))) + 1))).bind fun y2 => (ask (catOk (⟨#[45]⟩ : ByteArray) y2) (some ((⟨#[45]⟩ : ByteArray) ++ y2)))) else ((n75 64 (wu64 a0)).bind fun y3 => (some y3)))
def e45 : PureE := mkE d45 n45 (fun a1 => .one (.val (.string a1)))
def g45 {σ : Type} : Nat → Option (SegE σ)
  | _ => none
theorem N45 : ∀ a, n45 a = bodyK (cfgOf Tryd.prog (tabs gl) tS1) (toldOf tS1) noY (inlN (cfgOf Tryd.prog (tabs gl) tS1) (toldOf tS1) noY) g45 45 Tryd.f45 (((fun a0 => [.val (.int .i64 a0)] : (Int) → List D) a).map .d) [] [] () (fun v _ _ _ => r45 v) := by
  intro a0
  kernel_rfl
noncomputable def t45 : Tab := (45, e45) :: tS1
theorem ok45 (hl : LibFits2 gl) : TabOk Tryd.prog gl t45 :=
  told_fn (okS1 hl) mixed oddOk Tryd.func45 (by kernel_rfl) (by kernel_rfl) (by kernel_rfl) (segs_no (by kernel_rfl))
    (args := fun a0 => [.val (.int .i64 a0)]) (res := r45)
    (fun ds a h => by
      unfold d45 at h
      split at h
      · cases h; rfl
      · cases h)
    (fun v r h => by
      unfold r45 at h
      split at h
      · rename_i hv; cases h; exact hv
      · cases h)
    N45
def d42 (ds : List D) : Option (ByteArray) := match ds with
  | [.val (.string a0)] => some a0
  | _ => none
def r42 (v : AV) : Option (Int × Int) := match toPR v with
  | some (.many [.val (.int .i64 a1), .val (.int .i64 a2)]) => some (a1, a2)
  | _ => none
def n42 : ByteArray → Option (Int × Int) := fun a0 => ((n73 (a0, 10, 64)).bind fun y3 => (bif y3.2 then (some (0, 22)) else ((n44 y3.1).bind fun y4 => (bif (!(sEq y4 a0)) then (some (0, 22)) else (some (y3.1, 0))))))
def e42 : PureE := mkE d42 n42 (fun (a1, a2) => .many [.val (.int .i64 a1), .val (.int .i64 a2)])
def g42 {σ : Type} : Nat → Option (SegE σ)
  | _ => none
theorem N42 : ∀ a, n42 a = bodyK (cfgOf Tryd.prog (tabs gl) tS1) (toldOf tS1) noY (inlN (cfgOf Tryd.prog (tabs gl) tS1) (toldOf tS1) noY) g42 42 Tryd.f42 (((fun a0 => [.val (.string a0)] : (ByteArray) → List D) a).map .d) [] [] () (fun v _ _ _ => r42 v) := by
  intro a0
  kernel_rfl
noncomputable def t42 : Tab := (42, e42) :: tS1
theorem ok42 (hl : LibFits2 gl) : TabOk Tryd.prog gl t42 :=
  told_fn (okS1 hl) mixed oddOk Tryd.func42 (by kernel_rfl) (by kernel_rfl) (by kernel_rfl) (segs_no (by kernel_rfl))
    (args := fun a0 => [.val (.string a0)]) (res := r42)
    (fun ds a h => by
      unfold d42 at h
      split at h
      · cases h; rfl
      · cases h)
    (fun v r h => by
      unfold r42 at h
      split at h
      · rename_i hv; cases h; exact hv
      · cases h)
    N42
noncomputable def tS2 : Tab := (37, e37) :: (67, e67) :: (45, e45) :: (42, e42) :: tS1
theorem okS2 (hl : LibFits2 gl) : TabOk Tryd.prog gl tS2 :=
  TabOk.cons (TabOk.cons (TabOk.cons (TabOk.cons (okS1 hl) ((ok42 hl).fair (42, e42) (List.mem_cons_self (l := tS1))) ((ok42 hl).spec (42, e42) (List.mem_cons_self (l := tS1)))) ((ok45 hl).fair (45, e45) (List.mem_cons_self (l := tS1))) ((ok45 hl).spec (45, e45) (List.mem_cons_self (l := tS1)))) ((ok67 hl).fair (67, e67) (List.mem_cons_self (l := tS1))) ((ok67 hl).spec (67, e67) (List.mem_cons_self (l := tS1)))) ((ok37 hl).fair (37, e37) (List.mem_cons_self (l := tS1))) ((ok37 hl).spec (37, e37) (List.mem_cons_self (l := tS1)))
abbrev A29_0 := ByteArray × List D × Int × Nat
inductive O29_0 where
  | x0 (o7 : List D) (q8 : Nat)
def l29_0 : LoopS A29_0 O29_0 where
  n := 22
  ks := [0, 3, 4]
  kso := [3]
  m := 0
  mt := 2
  decV := fun vs bs ts => match vs, bs, ts with
    | [.d (.val (.string v2)), .osl 1 v3, .d (.val (.int .i64 v4))], [], [k5, _] => some (v2, v3, v4, k5)
    | _, _, _ => none
  encV := fun (v2, v3, v4, k5) => [.d (.val (.string v2)), .osl 1 v3, .d (.val (.int .i64 v4))]
  encB := fun (v2, v3, v4, k5) => []
  tk := fun (v2, v3, v4, k5) => [k5, v3.length]
  decO := fun ex vs bs ts => match ex, vs, bs, ts with
    | .normal, [.osl 1 o7], [], [q8, _] => some (.x0 o7 q8)
    | _, _, _, _ => none
  exO := fun x => match x with
    | .x0 o7 q8 => .normal
  outV := fun x => match x with
    | .x0 o7 q8 => [.osl 1 o7]
  outB := fun x => match x with
    | .x0 o7 q8 => []
  tkO := fun x => match x with
    | .x0 o7 q8 => [q8, o7.length]
  elim := fun x k => match x with
    | .x0 o7 q8 => k .normal [.osl 1 o7] [] [q8, o7.length]
theorem k29_0 : l29_0.Ok where
  ok1 := by kernel_rfl
  ok2 := by kernel_rfl
  dec := by
    intro vs bs ts a h
    simp only [l29_0] at h ⊢
    split at h
    · cases h; exact ⟨rfl, rfl⟩
    · cases h
  out := by
    intro ex vs bs ts o h
    simp only [l29_0] at h ⊢
    split at h
    · cases h; exact ⟨rfl, rfl, rfl⟩
    · cases h
  len := fun _ => ⟨rfl, rfl⟩
  elim := fun β o k => by cases o <;> rfl
def L29_0 {σ : Type} : Nat → A29_0 → σ → Option (O29_0 × σ)
  | 0, _, _ => none
  | n+1, (v2, v3, v4, k5), s => (bif (decide (v4 < (v2.size : Int))) then ((n67 (v2, v4)).bind fun y6 => (ask (addOk v3.length v3 ([.agg [.val (.int .i64 y6.1), .val (.int .i64 y6.2.1), .val (.int .i64 y6.2.2)]] : List D) 3 24) (ask (([k5, (v3.length + ([.agg [.val (.int .i64 y6.1), .val (.int .i64 y6.2.1), .val (.int .i64 y6.2.2)]] : List D).length)] : List Nat) = [k5, (v3 ++ ([.agg [.val (.int .i64 y6.1), .val (.int .i64 y6.2.1), .val (.int .i64 y6.2.2)]] : List D)).length]) (L29_0 n (v2, (v3 ++ ([.agg [.val (.int .i64 y6.1), .val (.int .i64 y6.2.1), .val (.int .i64 y6.2.2)]] : List D)), (w64 (v4 + y6.2.2)), k5) s)))) else (ask (([k5, v3.length] : List Nat) = [k5, v3.length]) (some (O29_0.x0 v3 k5, s))))
def d29 (ds : List D) : Option (ByteArray) := match ds with
  | [.val (.string a0)] => some a0
  | _ => none
def r29 (v : AV) : Option (List D) := match toPR v with
  | some (.one (.slice a1)) => some a1
  | _ => none
def n29 : ByteArray → Option (List D) := fun a0 => (ask (([0, 0] : List Nat) = [0, ([] : List D).length]) ((L29_0 1000000000000 (a0, ([] : List D), 0, 0) ()).bind fun p9 => match p9.1 with | .x0 z10 z11 => (some z10)))
def e29 : PureE := mkE d29 n29 (fun a1 => .one (.slice a1))
def g29 {σ : Type} : Nat → Option (SegE σ)
  | 0 => some (l29_0.seg σ (L29_0 1000000000000))
  | _ => none
theorem E29_0 {σ : Type} (Y : Yd σ) : ∀ n a (s : σ), L29_0 (n + 1) a s = evK (cfgOf Tryd.prog (tabs gl) tS2) (toldOf tS2) Y (inlN (cfgOf Tryd.prog (tabs gl) tS2) (toldOf tS2) Y) g29 29 (loopAt Tryd.f29 0) ((l29_0.toT σ).enc a s) (fun ex st' => l29_0.next (cfgOf Tryd.prog (tabs gl) tS2) 29 0 (L29_0 n) ex st') := by
  intro n ⟨v2, v3, v4, k5⟩ s
  kernel_rfl
theorem Q29_0 {σ : Type} (hl : LibFits2 gl) (Y : Yd σ) (rnd : Bool) : SegOk (cfgOf Tryd.prog (tabs gl) tS2) (evFn (cfgOf Tryd.prog (tabs gl) tS2) 9) 29 rnd Y (l29_0.seg σ (L29_0 1000000000000)) (.block 0 (.loop (loopAt Tryd.f29 0))) :=
  told_loop (okS2 hl) k29_0 (by kernel_rfl) (by kernel_rfl) (fun _ _ => rfl) (segs_no (by kernel_rfl)) (E29_0 Y)
theorem N29 : ∀ a, n29 a = bodyK (cfgOf Tryd.prog (tabs gl) tS2) (toldOf tS2) noY (inlN (cfgOf Tryd.prog (tabs gl) tS2) (toldOf tS2) noY) g29 29 Tryd.f29 (((fun a0 => [.val (.string a0)] : (ByteArray) → List D) a).map .d) [] [] () (fun v _ _ _ => r29 v) := by
  intro a0
  kernel_rfl
noncomputable def t29 : Tab := (29, e29) :: tS2
theorem ok29 (hl : LibFits2 gl) : TabOk Tryd.prog gl t29 :=
  told_fn (okS2 hl) mixed oddOk Tryd.func29 (by kernel_rfl) (by kernel_rfl) (by kernel_rfl) (fun p hp e he => by
    have hq : segsOf (σ := Unit) (g29 (σ := Unit)) (bodyOf Tryd.f29) = [(0, .loop (loopAt Tryd.f29 0))] := by kernel_rfl
    rw [hq] at hp
    simp only [List.mem_cons, List.not_mem_nil, or_false] at hp
    subst hp
    cases he
    exact Q29_0 hl _ _)
    (args := fun a0 => [.val (.string a0)]) (res := r29)
    (fun ds a h => by
      unfold d29 at h
      split at h
      · cases h; rfl
      · cases h)
    (fun v r h => by
      unfold r29 at h
      split at h
      · rename_i hv; cases h; exact hv
      · cases h)
    N29
def d72 (ds : List D) : Option (Int) := match ds with
  | [.val (.int .i64 a0)] => some a0
  | _ => none
def r72 (v : AV) : Option (Bool) := match toPR v with
  | some (.one (.val (.bool a1))) => some a1
  | _ => none
def n72 : Int → Option (Bool) := fun a0 => ((n38 a0).bind fun y2 => (bif y2 then (some true) else (bif (decide (a0 ≥ 48)) then (some (bif (decide (a0 ≤ 57)) then true else (a0 == 39))) else (some (a0 == 39)))))
def e72 : PureE := mkE d72 n72 (fun a1 => .one (.val (.bool a1)))
def g72 {σ : Type} : Nat → Option (SegE σ)
  | _ => none
theorem N72 : ∀ a, n72 a = bodyK (cfgOf Tryd.prog (tabs gl) tS2) (toldOf tS2) noY (inlN (cfgOf Tryd.prog (tabs gl) tS2) (toldOf tS2) noY) g72 72 Tryd.f72 (((fun a0 => [.val (.int .i64 a0)] : (Int) → List D) a).map .d) [] [] () (fun v _ _ _ => r72 v) := by
  intro a0
  kernel_rfl
noncomputable def t72 : Tab := (72, e72) :: tS2
theorem ok72 (hl : LibFits2 gl) : TabOk Tryd.prog gl t72 :=
  told_fn (okS2 hl) mixed oddOk Tryd.func72 (by kernel_rfl) (by kernel_rfl) (by kernel_rfl) (segs_no (by kernel_rfl))
    (args := fun a0 => [.val (.int .i64 a0)]) (res := r72)
    (fun ds a h => by
      unfold d72 at h
      split at h
      · cases h; rfl
      · cases h)
    (fun v r h => by
      unfold r72 at h
      split at h
      · rename_i hv; cases h; exact hv
      · cases h)
    N72
abbrev A43_0 := ByteArray × Int × Int × Int
inductive O43_0 where
  | x0 (o9 : Int) (o10 : Int)
  | x1 (o13 : ByteArray) (o14 : Int) (o15 : Int)
def l43_0 : LoopS A43_0 O43_0 where
  n := 64
  ks := [0, 4, 5, 6]
  kso := [0, 2, 3, 4, 5]
  m := 0
  mt := 0
  decV := fun vs bs ts => match vs, bs, ts with
    | [.d (.val (.string v4)), .d (.val (.int .i64 v5)), .d (.val (.int .u64 v6)), .d (.val (.int .i64 v7))], [], [] => some (v4, v5, v6, v7)
    | _, _, _ => none
  encV := fun (v4, v5, v6, v7) => [.d (.val (.string v4)), .d (.val (.int .i64 v5)), .d (.val (.int .u64 v6)), .d (.val (.int .i64 v7))]
  encB := fun (v4, v5, v6, v7) => []
  tk := fun _ => []
  decO := fun ex vs bs ts => match ex, vs, bs, ts with
    | .ret, [.undef, .d (.val (.int .i64 o9)), .d (.val (.int .i64 o10)), .undef, .undef], [], [] => some (.x0 o9 o10)
    | .normal, [.d (.val (.string o13)), .undef, .undef, .d (.val (.int .i64 o14)), .d (.val (.int .u64 o15))], [], [] => some (.x1 o13 o14 o15)
    | _, _, _, _ => none
  exO := fun x => match x with
    | .x0 o9 o10 => .ret
    | .x1 o13 o14 o15 => .normal
  outV := fun x => match x with
    | .x0 o9 o10 => [.undef, .d (.val (.int .i64 o9)), .d (.val (.int .i64 o10)), .undef, .undef]
    | .x1 o13 o14 o15 => [.d (.val (.string o13)), .undef, .undef, .d (.val (.int .i64 o14)), .d (.val (.int .u64 o15))]
  outB := fun x => match x with
    | .x0 o9 o10 => []
    | .x1 o13 o14 o15 => []
  tkO := fun x => match x with
    | .x0 o9 o10 => []
    | .x1 o13 o14 o15 => []
  elim := fun x k => match x with
    | .x0 o9 o10 => k .ret [.undef, .d (.val (.int .i64 o9)), .d (.val (.int .i64 o10)), .undef, .undef] [] []
    | .x1 o13 o14 o15 => k .normal [.d (.val (.string o13)), .undef, .undef, .d (.val (.int .i64 o14)), .d (.val (.int .u64 o15))] [] []
theorem k43_0 : l43_0.Ok where
  ok1 := by kernel_rfl
  ok2 := by kernel_rfl
  dec := by
    intro vs bs ts a h
    simp only [l43_0] at h ⊢
    split at h
    · cases h; exact ⟨rfl, rfl⟩
    · cases h
  out := by
    intro ex vs bs ts o h
    simp only [l43_0] at h ⊢
    split at h
    · cases h; exact ⟨rfl, rfl, rfl⟩
    · cases h; exact ⟨rfl, rfl, rfl⟩
    · cases h
  len := fun _ => ⟨rfl, rfl⟩
  elim := fun β o k => by cases o <;> rfl
def L43_0 {σ : Type} : Nat → A43_0 → σ → Option (O43_0 × σ)
  | 0, _, _ => none
  | n+1, (v4, v5, v6, v7), s => (bif (decide (v7 < (v4.size : Int))) then ((sidx v4 v7).bind fun c8 => (bif (decide ((c8.toNat : Int) < 48)) then (some (O43_0.x0 0 22, s)) else ((sidx v4 v7).bind fun c11 => (bif (decide ((c11.toNat : Int) > 57)) then (some (O43_0.x0 0 22, s)) else ((sidx v4 v7).bind fun c12 => (L43_0 n (v4, v5, (wu64 ((wu64 (10 * v6)) + (wu64 (wu8 ((c12.toNat : Int) - 48))))), (w64 (v7 + 1))) s)))))) else (some (O43_0.x1 v4 v5 v6, s)))
def d43 (ds : List D) : Option (ByteArray) := match ds with
  | [.val (.string a0)] => some a0
  | _ => none
def r43 (v : AV) : Option (Int × Int) := match toPR v with
  | some (.many [.val (.int .i64 a1), .val (.int .i64 a2)]) => some (a1, a2)
  | _ => none
def n43 : ByteArray → Option (Int × Int) := fun a0 => (bif (decide ((a0.size : Int) > 0)) then ((sidx a0 0).bind fun c3 => (bif ((c3.toNat : Int) == 45) then (bif (bif ((a0.size : Int) == 1) then true else (decide ((a0.size : Int) > 20))) then (some (0, 22)) else ((L43_0 1000000000000 (a0, 1, 0, 1) ()).bind fun p16 => match p16.1 with | .x0 z17 z18 => (some (z17, z18)) | .x1 z19 z20 z21 => (bif (z20 == 1) then ((n45 (w64 (0 - (w64 z21)))).bind fun y22 => (bif (!(sEq y22 z19)) then (some (0, 22)) else (some ((w64 (0 - (w64 z21))), 0)))) else ((n45 (w64 z21)).bind fun y23 => (bif (!(sEq y23 z19)) then (some (0, 22)) else (some ((w64 z21), 0))))))) else (bif (bif ((a0.size : Int) == 0) then true else (decide ((a0.size : Int) > 19))) then (some (0, 22)) else ((L43_0 1000000000000 (a0, 0, 0, 0) ()).bind fun p36 => match p36.1 with | .x0 z37 z38 => (some (z37, z38)) | .x1 z39 z40 z41 => (bif (z40 == 1) then ((n45 (w64 (0 - (w64 z41)))).bind fun y42 => (bif (!(sEq y42 z39)) then (some (0, 22)) else (some ((w64 (0 - (w64 z41))), 0)))) else ((n45 (w64 z41)).bind fun y43 => (bif (!(sEq y43 z39)) then (some (0, 22)) else (some ((w64 z41), 0))))))))) else (bif (bif ((a0.size : Int) == 0) then true else (decide ((a0.size : Int) > 19))) then (some (0, 22)) else ((L43_0 1000000000000 (a0, 0, 0, 0) ()).bind fun p56 => match p56.1 with | .x0 z57 z58 => (some (z57, z58)) | .x1 z59 z60 z61 => (bif (z60 == 1) then ((n45 (w64 (0 - (w64 z61)))).bind fun y62 => (bif (!(sEq y62 z59)) then (some (0, 22)) else (some ((w64 (0 - (w64 z61))), 0)))) else ((n45 (w64 z61)).bind fun y63 => (bif (!(sEq y63 z59)) then (some (0, 22)) else (some ((w64 z61), 0))))))))
def e43 : PureE := mkE d43 n43 (fun (a1, a2) => .many [.val (.int .i64 a1), .val (.int .i64 a2)])
def g43 {σ : Type} : Nat → Option (SegE σ)
  | 0 => some (l43_0.seg σ (L43_0 1000000000000))
  | _ => none
theorem E43_0 {σ : Type} (Y : Yd σ) : ∀ n a (s : σ), L43_0 (n + 1) a s = evK (cfgOf Tryd.prog (tabs gl) tS2) (toldOf tS2) Y (inlN (cfgOf Tryd.prog (tabs gl) tS2) (toldOf tS2) Y) g43 43 (loopAt Tryd.f43 0) ((l43_0.toT σ).enc a s) (fun ex st' => l43_0.next (cfgOf Tryd.prog (tabs gl) tS2) 43 0 (L43_0 n) ex st') := by
  intro n ⟨v4, v5, v6, v7⟩ s
  kernel_rfl
theorem Q43_0 {σ : Type} (hl : LibFits2 gl) (Y : Yd σ) (rnd : Bool) : SegOk (cfgOf Tryd.prog (tabs gl) tS2) (evFn (cfgOf Tryd.prog (tabs gl) tS2) 9) 43 rnd Y (l43_0.seg σ (L43_0 1000000000000)) (.block 0 (.loop (loopAt Tryd.f43 0))) :=
  told_loop (okS2 hl) k43_0 (by kernel_rfl) (by kernel_rfl) (fun _ _ => rfl) (segs_no (by kernel_rfl)) (E43_0 Y)
theorem N43 : ∀ a, n43 a = bodyK (cfgOf Tryd.prog (tabs gl) tS2) (toldOf tS2) noY (inlN (cfgOf Tryd.prog (tabs gl) tS2) (toldOf tS2) noY) g43 43 Tryd.f43 (((fun a0 => [.val (.string a0)] : (ByteArray) → List D) a).map .d) [] [] () (fun v _ _ _ => r43 v) := by
  intro a0
  kernel_rfl
noncomputable def t43 : Tab := (43, e43) :: tS2
theorem ok43 (hl : LibFits2 gl) : TabOk Tryd.prog gl t43 :=
  told_fn (okS2 hl) mixed oddOk Tryd.func43 (by kernel_rfl) (by kernel_rfl) (by kernel_rfl) (fun p hp e he => by
    have hq : segsOf (σ := Unit) (g43 (σ := Unit)) (bodyOf Tryd.f43) = [(0, .loop (loopAt Tryd.f43 0))] := by kernel_rfl
    rw [hq] at hp
    simp only [List.mem_cons, List.not_mem_nil, or_false] at hp
    subst hp
    cases he
    exact Q43_0 hl _ _)
    (args := fun a0 => [.val (.string a0)]) (res := r43)
    (fun ds a h => by
      unfold d43 at h
      split at h
      · cases h; rfl
      · cases h)
    (fun v r h => by
      unfold r43 at h
      split at h
      · rename_i hv; cases h; exact hv
      · cases h)
    N43
noncomputable def tS3 : Tab := (29, e29) :: (72, e72) :: (43, e43) :: tS2
theorem okS3 (hl : LibFits2 gl) : TabOk Tryd.prog gl tS3 :=
  TabOk.cons (TabOk.cons (TabOk.cons (okS2 hl) ((ok43 hl).fair (43, e43) (List.mem_cons_self (l := tS2))) ((ok43 hl).spec (43, e43) (List.mem_cons_self (l := tS2)))) ((ok72 hl).fair (72, e72) (List.mem_cons_self (l := tS2))) ((ok72 hl).spec (72, e72) (List.mem_cons_self (l := tS2)))) ((ok29 hl).fair (29, e29) (List.mem_cons_self (l := tS2))) ((ok29 hl).spec (29, e29) (List.mem_cons_self (l := tS2)))
abbrev A59_0 := Int × List D × Int × Int × Int × Int × Int × Int × Int
inductive O59_0 where
  | x0 (o21 : Int) (o22 : Int) (o23 : Int) (o24 : Int) (o25 : Int) (o26 : Int)
def l59_0 : LoopS A59_0 O59_0 where
  n := 48
  ks := [1, 4, 5, 6, 7]
  kso := [4, 6]
  m := 2
  mt := 0
  decV := fun vs bs ts => match vs, bs, ts with
    | [.d (.val (.int .i64 v6)), .ptr 0 0, .d (.slice v7), .ptr 1 0, .d (.val (.int .i64 v8))], [.cells (some 59) [.d (.val (.int .i64 v9)), .d (.val (.int .i64 v10)), .d (.val (.int .i64 v11))], .cells (some 59) [.d (.val (.int .i64 v12)), .d (.val (.int .i64 v13)), .d (.val (.int .i64 v14))]], [] => some (v6, v7, v8, v9, v10, v11, v12, v13, v14)
    | _, _, _ => none
  encV := fun (v6, v7, v8, v9, v10, v11, v12, v13, v14) => [.d (.val (.int .i64 v6)), .ptr 0 0, .d (.slice v7), .ptr 1 0, .d (.val (.int .i64 v8))]
  encB := fun (v6, v7, v8, v9, v10, v11, v12, v13, v14) => [.cells (some 59) [.d (.val (.int .i64 v9)), .d (.val (.int .i64 v10)), .d (.val (.int .i64 v11))], .cells (some 59) [.d (.val (.int .i64 v12)), .d (.val (.int .i64 v13)), .d (.val (.int .i64 v14))]]
  tk := fun _ => []
  decO := fun ex vs bs ts => match ex, vs, bs, ts with
    | .normal, [.ptr 0 0, .ptr 1 0], [.cells (some 59) [.d (.val (.int .i64 o21)), .d (.val (.int .i64 o22)), .d (.val (.int .i64 o23))], .cells (some 59) [.d (.val (.int .i64 o24)), .d (.val (.int .i64 o25)), .d (.val (.int .i64 o26))]], [] => some (.x0 o21 o22 o23 o24 o25 o26)
    | _, _, _, _ => none
  exO := fun x => match x with
    | .x0 o21 o22 o23 o24 o25 o26 => .normal
  outV := fun x => match x with
    | .x0 o21 o22 o23 o24 o25 o26 => [.ptr 0 0, .ptr 1 0]
  outB := fun x => match x with
    | .x0 o21 o22 o23 o24 o25 o26 => [.cells (some 59) [.d (.val (.int .i64 o21)), .d (.val (.int .i64 o22)), .d (.val (.int .i64 o23))], .cells (some 59) [.d (.val (.int .i64 o24)), .d (.val (.int .i64 o25)), .d (.val (.int .i64 o26))]]
  tkO := fun x => match x with
    | .x0 o21 o22 o23 o24 o25 o26 => []
  elim := fun x k => match x with
    | .x0 o21 o22 o23 o24 o25 o26 => k .normal [.ptr 0 0, .ptr 1 0] [.cells (some 59) [.d (.val (.int .i64 o21)), .d (.val (.int .i64 o22)), .d (.val (.int .i64 o23))], .cells (some 59) [.d (.val (.int .i64 o24)), .d (.val (.int .i64 o25)), .d (.val (.int .i64 o26))]] []
theorem k59_0 : l59_0.Ok where
  ok1 := by kernel_rfl
  ok2 := by kernel_rfl
  dec := by
    intro vs bs ts a h
    simp only [l59_0] at h ⊢
    split at h
    · cases h; exact ⟨rfl, rfl⟩
    · cases h
  out := by
    intro ex vs bs ts o h
    simp only [l59_0] at h ⊢
    split at h
    · cases h; exact ⟨rfl, rfl, rfl⟩
    · cases h
  len := fun _ => ⟨rfl, rfl⟩
  elim := fun β o k => by cases o <;> rfl
def L59_0 {σ : Type} : Nat → A59_0 → σ → Option (O59_0 × σ)
  | 0, _, _ => none
  | n+1, (v6, v7, v8, v9, v10, v11, v12, v13, v14), s => (bif (decide (v8 < ((v7.length : Nat) : Int))) then ((lidx v7 v8).bind fun d15 => ask (d15.cells.length = 3) ((cellAt 1 d15).bind fun x16 => (asInt .i64 x16).bind fun x17 => (bif (decide (x17 < v6)) then ((lidx v7 v8).bind fun d18 => ask (d18.cells.length = 3) ((cellAt 0 d18).bind fun x19 => (asInt .i64 x19).bind fun x20 => (bif (x20 == 10) then (L59_0 n (v6, v7, (w64 (v8 + 1)), v9, v10, v11, v12, (w64 (v13 + 1)), 1) s) else (L59_0 n (v6, v7, (w64 (v8 + 1)), v9, v10, v11, v12, v13, (w64 (v14 + 1))) s)))) else (some (O59_0.x0 v9 v10 v11 v12 v13 v14, s))))) else (some (O59_0.x0 v9 v10 v11 v12 v13 v14, s)))
def d59 (ds : List D) : Option (ByteArray × Int) := match ds with
  | [.val (.string a0), .val (.int .i64 a1)] => some (a0, a1)
  | _ => none
def r59 (v : AV) : Option (Int × Int × Int) := match toPR v with
  | some (.one (.agg [.val (.int .i64 a2), .val (.int .i64 a3), .val (.int .i64 a4)])) => some (a2, a3, a4)
  | _ => none
def n59 : ByteArray × Int → Option (Int × Int × Int) := fun (a0, a1) => ((n29 a0).bind fun y5 => ((L59_0 1000000000000 ((if (a0.size : Int) < (if 0 > a1 then 0 else a1) then (a0.size : Int) else (if 0 > a1 then 0 else a1)), y5, 0, 0, 0, 0, (if (a0.size : Int) < (if 0 > a1 then 0 else a1) then (a0.size : Int) else (if 0 > a1 then 0 else a1)), 1, 1) ()).bind fun p27 => match p27.1 with | .x0 z28 z29 z30 z31 z32 z33 => (some (z31, z32, z33))))
def e59 : PureE := mkE d59 n59 (fun (a2, a3, a4) => .one (.agg [.val (.int .i64 a2), .val (.int .i64 a3), .val (.int .i64 a4)]))
def g59 {σ : Type} : Nat → Option (SegE σ)
  | 0 => some (l59_0.seg σ (L59_0 1000000000000))
  | _ => none
theorem E59_0 {σ : Type} (Y : Yd σ) : ∀ n a (s : σ), L59_0 (n + 1) a s = evK (cfgOf Tryd.prog (tabs gl) tS3) (toldOf tS3) Y (inlN (cfgOf Tryd.prog (tabs gl) tS3) (toldOf tS3) Y) g59 59 (loopAt Tryd.f59 0) ((l59_0.toT σ).enc a s) (fun ex st' => l59_0.next (cfgOf Tryd.prog (tabs gl) tS3) 59 0 (L59_0 n) ex st') := by
  intro n ⟨v6, v7, v8, v9, v10, v11, v12, v13, v14⟩ s
  kernel_rfl
theorem Q59_0 {σ : Type} (hl : LibFits2 gl) (Y : Yd σ) (rnd : Bool) : SegOk (cfgOf Tryd.prog (tabs gl) tS3) (evFn (cfgOf Tryd.prog (tabs gl) tS3) 9) 59 rnd Y (l59_0.seg σ (L59_0 1000000000000)) (.block 0 (.loop (loopAt Tryd.f59 0))) :=
  told_loop (okS3 hl) k59_0 (by kernel_rfl) (by kernel_rfl) (fun _ _ => rfl) (segs_no (by kernel_rfl)) (E59_0 Y)
theorem N59 : ∀ a, n59 a = bodyK (cfgOf Tryd.prog (tabs gl) tS3) (toldOf tS3) noY (inlN (cfgOf Tryd.prog (tabs gl) tS3) (toldOf tS3) noY) g59 59 Tryd.f59 (((fun (a0, a1) => [.val (.string a0), .val (.int .i64 a1)] : (ByteArray × Int) → List D) a).map .d) [] [] () (fun v _ _ _ => r59 v) := by
  intro a
  obtain ⟨a0, a1⟩ := a
  kernel_rfl
noncomputable def t59 : Tab := (59, e59) :: tS3
theorem ok59 (hl : LibFits2 gl) : TabOk Tryd.prog gl t59 :=
  told_fn (okS3 hl) mixed oddOk Tryd.func59 (by kernel_rfl) (by kernel_rfl) (by kernel_rfl) (fun p hp e he => by
    have hq : segsOf (σ := Unit) (g59 (σ := Unit)) (bodyOf Tryd.f59) = [(0, .loop (loopAt Tryd.f59 0))] := by kernel_rfl
    rw [hq] at hp
    simp only [List.mem_cons, List.not_mem_nil, or_false] at hp
    subst hp
    cases he
    exact Q59_0 hl _ _)
    (args := fun (a0, a1) => [.val (.string a0), .val (.int .i64 a1)]) (res := r59)
    (fun ds a h => by
      unfold d59 at h
      split at h
      · cases h; rfl
      · cases h)
    (fun v r h => by
      unfold r59 at h
      split at h
      · rename_i hv; cases h; exact hv
      · cases h)
    N59
abbrev A41_0 := List D × Int
inductive O41_0 where
  | x0 (o13 : Bool)
  | x1 
def l41_0 : LoopS A41_0 O41_0 where
  n := 36
  ks := [3, 4]
  kso := [2]
  m := 0
  mt := 0
  decV := fun vs bs ts => match vs, bs, ts with
    | [.d (.slice v7), .d (.val (.int .i64 v8))], [], [] => some (v7, v8)
    | _, _, _ => none
  encV := fun (v7, v8) => [.d (.slice v7), .d (.val (.int .i64 v8))]
  encB := fun (v7, v8) => []
  tk := fun _ => []
  decO := fun ex vs bs ts => match ex, vs, bs, ts with
    | .ret, [.d (.val (.bool o13))], [], [] => some (.x0 o13)
    | .normal, [.undef], [], [] => some (.x1 )
    | _, _, _, _ => none
  exO := fun x => match x with
    | .x0 o13 => .ret
    | .x1  => .normal
  outV := fun x => match x with
    | .x0 o13 => [.d (.val (.bool o13))]
    | .x1  => [.undef]
  outB := fun x => match x with
    | .x0 o13 => []
    | .x1  => []
  tkO := fun x => match x with
    | .x0 o13 => []
    | .x1  => []
  elim := fun x k => match x with
    | .x0 o13 => k .ret [.d (.val (.bool o13))] [] []
    | .x1  => k .normal [.undef] [] []
theorem k41_0 : l41_0.Ok where
  ok1 := by kernel_rfl
  ok2 := by kernel_rfl
  dec := by
    intro vs bs ts a h
    simp only [l41_0] at h ⊢
    split at h
    · cases h; exact ⟨rfl, rfl⟩
    · cases h
  out := by
    intro ex vs bs ts o h
    simp only [l41_0] at h ⊢
    split at h
    · cases h; exact ⟨rfl, rfl, rfl⟩
    · cases h; exact ⟨rfl, rfl, rfl⟩
    · cases h
  len := fun _ => ⟨rfl, rfl⟩
  elim := fun β o k => by cases o <;> rfl
def L41_0 {σ : Type} : Nat → A41_0 → σ → Option (O41_0 × σ)
  | 0, _, _ => none
  | n+1, (v7, v8), s => (bif (decide (v8 < ((v7.length : Nat) : Int))) then ((lidx v7 v8).bind fun d9 => ask (d9.cells.length = 3) ((cellAt 0 d9).bind fun x10 => (asInt .i64 x10).bind fun x11 => ((n72 x11).bind fun y12 => (bif (!y12) then (some (O41_0.x0 false, s)) else (L41_0 n (v7, (w64 (v8 + 1))) s))))) else (some (O41_0.x1 , s)))
def d41 (ds : List D) : Option (ByteArray) := match ds with
  | [.val (.string a0)] => some a0
  | _ => none
def r41 (v : AV) : Option (Bool) := match toPR v with
  | some (.one (.val (.bool a1))) => some a1
  | _ => none
def n41 : ByteArray → Option (Bool) := fun a0 => ((n29 a0).bind fun y2 => (bif (bif (decide (((y2.length : Nat) : Int) < 1)) then true else (decide (((y2.length : Nat) : Int) > 32))) then (some false) else ((lidx y2 0).bind fun d3 => ask (d3.cells.length = 3) ((cellAt 0 d3).bind fun x4 => (asInt .i64 x4).bind fun x5 => ((n38 x5).bind fun y6 => (bif (!y6) then (some false) else ((L41_0 1000000000000 (y2, 1) ()).bind fun p14 => match p14.1 with | .x0 z15 => (some z15) | .x1  => (some true))))))))
def e41 : PureE := mkE d41 n41 (fun a1 => .one (.val (.bool a1)))
def g41 {σ : Type} : Nat → Option (SegE σ)
  | 0 => some (l41_0.seg σ (L41_0 1000000000000))
  | _ => none
theorem E41_0 {σ : Type} (Y : Yd σ) : ∀ n a (s : σ), L41_0 (n + 1) a s = evK (cfgOf Tryd.prog (tabs gl) tS3) (toldOf tS3) Y (inlN (cfgOf Tryd.prog (tabs gl) tS3) (toldOf tS3) Y) g41 41 (loopAt Tryd.f41 0) ((l41_0.toT σ).enc a s) (fun ex st' => l41_0.next (cfgOf Tryd.prog (tabs gl) tS3) 41 0 (L41_0 n) ex st') := by
  intro n ⟨v7, v8⟩ s
  kernel_rfl
theorem Q41_0 {σ : Type} (hl : LibFits2 gl) (Y : Yd σ) (rnd : Bool) : SegOk (cfgOf Tryd.prog (tabs gl) tS3) (evFn (cfgOf Tryd.prog (tabs gl) tS3) 9) 41 rnd Y (l41_0.seg σ (L41_0 1000000000000)) (.block 0 (.loop (loopAt Tryd.f41 0))) :=
  told_loop (okS3 hl) k41_0 (by kernel_rfl) (by kernel_rfl) (fun _ _ => rfl) (segs_no (by kernel_rfl)) (E41_0 Y)
theorem N41 : ∀ a, n41 a = bodyK (cfgOf Tryd.prog (tabs gl) tS3) (toldOf tS3) noY (inlN (cfgOf Tryd.prog (tabs gl) tS3) (toldOf tS3) noY) g41 41 Tryd.f41 (((fun a0 => [.val (.string a0)] : (ByteArray) → List D) a).map .d) [] [] () (fun v _ _ _ => r41 v) := by
  intro a0
  kernel_rfl
noncomputable def t41 : Tab := (41, e41) :: tS3
theorem ok41 (hl : LibFits2 gl) : TabOk Tryd.prog gl t41 :=
  told_fn (okS3 hl) mixed oddOk Tryd.func41 (by kernel_rfl) (by kernel_rfl) (by kernel_rfl) (fun p hp e he => by
    have hq : segsOf (σ := Unit) (g41 (σ := Unit)) (bodyOf Tryd.f41) = [(0, .loop (loopAt Tryd.f41 0))] := by kernel_rfl
    rw [hq] at hp
    simp only [List.mem_cons, List.not_mem_nil, or_false] at hp
    subst hp
    cases he
    exact Q41_0 hl _ _)
    (args := fun a0 => [.val (.string a0)]) (res := r41)
    (fun ds a h => by
      unfold d41 at h
      split at h
      · cases h; rfl
      · cases h)
    (fun v r h => by
      unfold r41 at h
      split at h
      · rename_i hv; cases h; exact hv
      · cases h)
    N41
abbrev A40_0 := Int × ByteArray × Nat
inductive O40_0 where
  | x0 (o6 : Int) (o7 : ByteArray) (o8 : Nat)
  | x1 (o9 : Int) (o10 : ByteArray) (o11 : Nat)
def l40_0 : LoopS A40_0 O40_0 where
  n := 38
  ks := [3, 7]
  kso := [2, 3]
  m := 1
  mt := 0
  decV := fun vs bs ts => match vs, bs, ts with
    | [.d (.val (.int .i64 v2)), .iter 0], [.iter v3 v4], [] => some (v2, v3, v4)
    | _, _, _ => none
  encV := fun (v2, v3, v4) => [.d (.val (.int .i64 v2)), .iter 0]
  encB := fun (v2, v3, v4) => [.iter v3 v4]
  tk := fun _ => []
  decO := fun ex vs bs ts => match ex, vs, bs, ts with
    | .ret, [.d (.val (.int .i64 o6)), .undef], [.iter o7 o8], [] => some (.x0 o6 o7 o8)
    | .normal, [.undef, .d (.val (.int .i64 o9))], [.iter o10 o11], [] => some (.x1 o9 o10 o11)
    | _, _, _, _ => none
  exO := fun x => match x with
    | .x0 o6 o7 o8 => .ret
    | .x1 o9 o10 o11 => .normal
  outV := fun x => match x with
    | .x0 o6 o7 o8 => [.d (.val (.int .i64 o6)), .undef]
    | .x1 o9 o10 o11 => [.undef, .d (.val (.int .i64 o9))]
  outB := fun x => match x with
    | .x0 o6 o7 o8 => [.iter o7 o8]
    | .x1 o9 o10 o11 => [.iter o10 o11]
  tkO := fun x => match x with
    | .x0 o6 o7 o8 => []
    | .x1 o9 o10 o11 => []
  elim := fun x k => match x with
    | .x0 o6 o7 o8 => k .ret [.d (.val (.int .i64 o6)), .undef] [.iter o7 o8] []
    | .x1 o9 o10 o11 => k .normal [.undef, .d (.val (.int .i64 o9))] [.iter o10 o11] []
theorem k40_0 : l40_0.Ok where
  ok1 := by kernel_rfl
  ok2 := by kernel_rfl
  dec := by
    intro vs bs ts a h
    simp only [l40_0] at h ⊢
    split at h
    · cases h; exact ⟨rfl, rfl⟩
    · cases h
  out := by
    intro ex vs bs ts o h
    simp only [l40_0] at h ⊢
    split at h
    · cases h; exact ⟨rfl, rfl, rfl⟩
    · cases h; exact ⟨rfl, rfl, rfl⟩
    · cases h
  len := fun _ => ⟨rfl, rfl⟩
  elim := fun β o k => by cases o <;> rfl
def L40_0 {σ : Type} : Nat → A40_0 → σ → Option (O40_0 × σ)
  | 0, _, _ => none
  | n+1, (v2, v3, v4), s => (bif decide (v4 < v3.size) then ((n37 ((Utf8.decode v3 v4).1 : Int)).bind fun y5 => (bif (!y5) then (bif ((w64 (v2 + 1)) == 1) then (some (O40_0.x0 21 v3 (v4 + (Utf8.decode v3 v4).2), s)) else (bif (((Utf8.decode v3 v4).1 : Int) != 39) then (bif (decide (((Utf8.decode v3 v4).1 : Int) < 48)) then (some (O40_0.x0 21 v3 (v4 + (Utf8.decode v3 v4).2), s)) else (bif (decide (((Utf8.decode v3 v4).1 : Int) > 57)) then (some (O40_0.x0 21 v3 (v4 + (Utf8.decode v3 v4).2), s)) else (L40_0 n ((w64 (v2 + 1)), v3, (v4 + (Utf8.decode v3 v4).2)) s))) else (L40_0 n ((w64 (v2 + 1)), v3, (v4 + (Utf8.decode v3 v4).2)) s))) else (L40_0 n ((w64 (v2 + 1)), v3, (v4 + (Utf8.decode v3 v4).2)) s))) else (some (O40_0.x1 v2 v3 v4, s)))
def d40 (ds : List D) : Option (ByteArray) := match ds with
  | [.val (.string a0)] => some a0
  | _ => none
def r40 (v : AV) : Option (Int) := match toPR v with
  | some (.one (.val (.int .i64 a1))) => some a1
  | _ => none
def n40 : ByteArray → Option (Int) := fun a0 => ((L40_0 1000000000000 (0, a0, 0) ()).bind fun p12 => match p12.1 with | .x0 z13 z14 z15 => (some z13) | .x1 z16 z17 z18 => (bif (bif (z16 == 0) then true else (decide (z16 > 32))) then (some 21) else (some 0)))
def e40 : PureE := mkE d40 n40 (fun a1 => .one (.val (.int .i64 a1)))
def g40 {σ : Type} : Nat → Option (SegE σ)
  | 0 => some (l40_0.seg σ (L40_0 1000000000000))
  | _ => none
theorem E40_0 {σ : Type} (Y : Yd σ) : ∀ n a (s : σ), L40_0 (n + 1) a s = evK (cfgOf Tryd.prog (tabs gl) tS3) (toldOf tS3) Y (inlN (cfgOf Tryd.prog (tabs gl) tS3) (toldOf tS3) Y) g40 40 (loopAt Tryd.f40 0) ((l40_0.toT σ).enc a s) (fun ex st' => l40_0.next (cfgOf Tryd.prog (tabs gl) tS3) 40 0 (L40_0 n) ex st') := by
  intro n ⟨v2, v3, v4⟩ s
  kernel_rfl
theorem Q40_0 {σ : Type} (hl : LibFits2 gl) (Y : Yd σ) (rnd : Bool) : SegOk (cfgOf Tryd.prog (tabs gl) tS3) (evFn (cfgOf Tryd.prog (tabs gl) tS3) 9) 40 rnd Y (l40_0.seg σ (L40_0 1000000000000)) (.block 0 (.loop (loopAt Tryd.f40 0))) :=
  told_loop (okS3 hl) k40_0 (by kernel_rfl) (by kernel_rfl) (fun _ _ => rfl) (segs_no (by kernel_rfl)) (E40_0 Y)
theorem N40 : ∀ a, n40 a = bodyK (cfgOf Tryd.prog (tabs gl) tS3) (toldOf tS3) noY (inlN (cfgOf Tryd.prog (tabs gl) tS3) (toldOf tS3) noY) g40 40 Tryd.f40 (((fun a0 => [.val (.string a0)] : (ByteArray) → List D) a).map .d) [] [] () (fun v _ _ _ => r40 v) := by
  intro a0
  kernel_rfl
noncomputable def t40 : Tab := (40, e40) :: tS3
theorem ok40 (hl : LibFits2 gl) : TabOk Tryd.prog gl t40 :=
  told_fn (okS3 hl) mixed oddOk Tryd.func40 (by kernel_rfl) (by kernel_rfl) (by kernel_rfl) (fun p hp e he => by
    have hq : segsOf (σ := Unit) (g40 (σ := Unit)) (bodyOf Tryd.f40) = [(0, .loop (loopAt Tryd.f40 0))] := by kernel_rfl
    rw [hq] at hp
    simp only [List.mem_cons, List.not_mem_nil, or_false] at hp
    subst hp
    cases he
    exact Q40_0 hl _ _)
    (args := fun a0 => [.val (.string a0)]) (res := r40)
    (fun ds a h => by
      unfold d40 at h
      split at h
      · cases h; rfl
      · cases h)
    (fun v r h => by
      unfold r40 at h
      split at h
      · rename_i hv; cases h; exact hv
      · cases h)
    N40
abbrev A83_0 := ByteArray × Int × Int × Int × ByteArray × Nat
inductive O83_0 where
  | x0 (o9 : ByteArray) (o10 : Int) (o11 : Int) (o12 : Int) (o13 : ByteArray) (o14 : Nat)
  | x1 (o17 : ByteArray) (o18 : Int) (o19 : Int) (o20 : Int) (o21 : ByteArray) (o22 : Nat)
def l83_0 : LoopS A83_0 O83_0 where
  n := 38
  ks := [0, 1, 3, 8]
  kso := []
  m := 3
  mt := 0
  decV := fun vs bs ts => match vs, bs, ts with
    | [.yld, .ptr 0 0, .ptr 1 0, .iter 2], [.cells none [.d (.val (.string v1))], .cells (some 25) [.d (.val (.int .i64 v2)), .d (.val (.int .i64 v3)), .d (.val (.int .i64 v4))], .iter v5 v6], [] => some (v1, v2, v3, v4, v5, v6)
    | _, _, _ => none
  encV := fun (v1, v2, v3, v4, v5, v6) => [.yld, .ptr 0 0, .ptr 1 0, .iter 2]
  encB := fun (v1, v2, v3, v4, v5, v6) => [.cells none [.d (.val (.string v1))], .cells (some 25) [.d (.val (.int .i64 v2)), .d (.val (.int .i64 v3)), .d (.val (.int .i64 v4))], .iter v5 v6]
  tk := fun _ => []
  decO := fun ex vs bs ts => match ex, vs, bs, ts with
    | .ret, [], [.cells none [.d (.val (.string o9))], .cells (some 25) [.d (.val (.int .i64 o10)), .d (.val (.int .i64 o11)), .d (.val (.int .i64 o12))], .iter o13 o14], [] => some (.x0 o9 o10 o11 o12 o13 o14)
    | .normal, [], [.cells none [.d (.val (.string o17))], .cells (some 25) [.d (.val (.int .i64 o18)), .d (.val (.int .i64 o19)), .d (.val (.int .i64 o20))], .iter o21 o22], [] => some (.x1 o17 o18 o19 o20 o21 o22)
    | _, _, _, _ => none
  exO := fun x => match x with
    | .x0 o9 o10 o11 o12 o13 o14 => .ret
    | .x1 o17 o18 o19 o20 o21 o22 => .normal
  outV := fun x => match x with
    | .x0 o9 o10 o11 o12 o13 o14 => []
    | .x1 o17 o18 o19 o20 o21 o22 => []
  outB := fun x => match x with
    | .x0 o9 o10 o11 o12 o13 o14 => [.cells none [.d (.val (.string o9))], .cells (some 25) [.d (.val (.int .i64 o10)), .d (.val (.int .i64 o11)), .d (.val (.int .i64 o12))], .iter o13 o14]
    | .x1 o17 o18 o19 o20 o21 o22 => [.cells none [.d (.val (.string o17))], .cells (some 25) [.d (.val (.int .i64 o18)), .d (.val (.int .i64 o19)), .d (.val (.int .i64 o20))], .iter o21 o22]
  tkO := fun x => match x with
    | .x0 o9 o10 o11 o12 o13 o14 => []
    | .x1 o17 o18 o19 o20 o21 o22 => []
  elim := fun x k => match x with
    | .x0 o9 o10 o11 o12 o13 o14 => k .ret [] [.cells none [.d (.val (.string o9))], .cells (some 25) [.d (.val (.int .i64 o10)), .d (.val (.int .i64 o11)), .d (.val (.int .i64 o12))], .iter o13 o14] []
    | .x1 o17 o18 o19 o20 o21 o22 => k .normal [] [.cells none [.d (.val (.string o17))], .cells (some 25) [.d (.val (.int .i64 o18)), .d (.val (.int .i64 o19)), .d (.val (.int .i64 o20))], .iter o21 o22] []
theorem k83_0 : l83_0.Ok where
  ok1 := by kernel_rfl
  ok2 := by kernel_rfl
  dec := by
    intro vs bs ts a h
    simp only [l83_0] at h ⊢
    split at h
    · cases h; exact ⟨rfl, rfl⟩
    · cases h
  out := by
    intro ex vs bs ts o h
    simp only [l83_0] at h ⊢
    split at h
    · cases h; exact ⟨rfl, rfl, rfl⟩
    · cases h; exact ⟨rfl, rfl, rfl⟩
    · cases h
  len := fun _ => ⟨rfl, rfl⟩
  elim := fun β o k => by cases o <;> rfl
def L83_0 {σ : Type} (Y : Yd σ) : Nat → A83_0 → σ → Option (O83_0 × σ)
  | 0, _, _ => none
  | n+1, (v1, v2, v3, v4, v5, v6), s => (bif decide (v6 < v5.size) then (bif (((Utf8.decode v5 v6).1 : Int) == 65533) then ((n84 (v1, (v6 : Int))).bind fun y7 => (bif y7 then ((Y [.agg [.val (.int .i64 (v6 : Int)), .val (.int .i64 v3), .val (.int .i64 v4)], .val (.int .i32 (-1))] s).bind fun q8 => (bif (!q8.1) then (some (O83_0.x0 v1 (v6 : Int) v3 v4 v5 (v6 + (Utf8.decode v5 v6).2), q8.2)) else (L83_0 Y n (v1, (v6 : Int), v3, (w64 (v4 + 1)), v5, (v6 + (Utf8.decode v5 v6).2)) q8.2))) else ((Y [.agg [.val (.int .i64 (v6 : Int)), .val (.int .i64 v3), .val (.int .i64 v4)], .val (.int .i32 ((Utf8.decode v5 v6).1 : Int))] s).bind fun q15 => (bif (!q15.1) then (some (O83_0.x0 v1 (v6 : Int) v3 v4 v5 (v6 + (Utf8.decode v5 v6).2), q15.2)) else (bif (((Utf8.decode v5 v6).1 : Int) == 10) then (L83_0 Y n (v1, (v6 : Int), (w64 (v3 + 1)), 1, v5, (v6 + (Utf8.decode v5 v6).2)) q15.2) else (L83_0 Y n (v1, (v6 : Int), v3, (w64 (v4 + 1)), v5, (v6 + (Utf8.decode v5 v6).2)) q15.2)))))) else ((Y [.agg [.val (.int .i64 (v6 : Int)), .val (.int .i64 v3), .val (.int .i64 v4)], .val (.int .i32 ((Utf8.decode v5 v6).1 : Int))] s).bind fun q16 => (bif (!q16.1) then (some (O83_0.x0 v1 (v6 : Int) v3 v4 v5 (v6 + (Utf8.decode v5 v6).2), q16.2)) else (bif (((Utf8.decode v5 v6).1 : Int) == 10) then (L83_0 Y n (v1, (v6 : Int), (w64 (v3 + 1)), 1, v5, (v6 + (Utf8.decode v5 v6).2)) q16.2) else (L83_0 Y n (v1, (v6 : Int), v3, (w64 (v4 + 1)), v5, (v6 + (Utf8.decode v5 v6).2)) q16.2))))) else (some (O83_0.x1 v1 v2 v3 v4 v5 v6, s)))
def encL83 : (ByteArray) → List Box := fun a0 => [.cells none [.d (.val (.string a0))]]
def decL83 (bs : List Box) : Option (ByteArray) := match bs with
  | [.cells none [.d (.val (.string a0))]] => some a0
  | _ => none
def itDec83 (caps : List AV) (lent : List Box) : Option (ByteArray) := match caps, lent with
  | [.ptr 0 0], [.cells none [.d (.val (.string a0))]] => some a0
  | _, _ => none
def n83 {σ : Type} (Y : Yd σ) : (ByteArray) → σ → Option ((ByteArray) × σ) := fun a0 s => ((L83_0 Y 1000000000000 (a0, 0, 1, 1, a0, 0) s).bind fun p23 => match p23.1 with | .x0 z24 z25 z26 z27 z28 z29 => (some (z24, p23.2)) | .x1 z30 z31 z32 z33 z34 z35 => (some (z30, p23.2)))
def g83 {σ : Type} (Y : Yd σ) : Nat → Option (SegE σ)
  | 0 => some (l83_0.seg σ (L83_0 Y 1000000000000))
  | _ => none
theorem E83_0 {σ : Type} (Y : Yd σ) : ∀ n a (s : σ), L83_0 Y (n + 1) a s = evK (cfgOf Tryd.prog (tabs gl) tS3) (toldOf tS3) Y (inlI (cfgOf Tryd.prog (tabs gl) tS3) (toldOf tS3) Y) (g83 Y) 83 (loopAt Tryd.f83 0) ((l83_0.toT σ).enc a s) (fun ex st' => l83_0.next (cfgOf Tryd.prog (tabs gl) tS3) 83 0 (L83_0 Y n) ex st') := by
  intro n ⟨v1, v2, v3, v4, v5, v6⟩ s
  kernel_rfl
theorem Q83_0 {σ : Type} (hl : LibFits2 gl) (Y : Yd σ) (rnd : Bool) : SegOk (cfgOf Tryd.prog (tabs gl) tS3) (evFn (cfgOf Tryd.prog (tabs gl) tS3) 8) 83 rnd Y (l83_0.seg σ (L83_0 Y 1000000000000)) (.block 0 (.loop (loopAt Tryd.f83 0))) :=
  told_loopI (okS3 hl) k83_0 (by kernel_rfl) (by kernel_rfl) (fun _ _ => rfl) (segs_no (by kernel_rfl)) (E83_0 Y)
theorem N83 : ∀ (σ : Type) (Y : Yd σ) (i : ByteArray) (s : σ), n83 Y i s = bodyK (cfgOf Tryd.prog (tabs gl) tS3) (toldOf tS3) Y (inlI (cfgOf Tryd.prog (tabs gl) tS3) (toldOf tS3) Y) (g83 Y) 83 Tryd.f83 (.yld :: (fun (_ : ByteArray) => ([.ptr 0 0] : List AV)) i) (encL83 i) [] s (fun _ b _ s => (decL83 b).bind fun i => some (i, s)) := by
  intro σ Y a0 s
  kernel_rfl
theorem J83 (hl : LibFits2 gl) : ∀ caps lent i, itDec83 caps lent = some i → IterOk (evFn (cfgOf Tryd.prog (tabs gl) tS3) 9) 83 caps lent encL83 (fun σ Y => n83 Y i) := by
  intro caps lent i h
  unfold itDec83 at h
  split at h
  · cases h
    exact told_iter (okS3 hl) Tryd.func83 (by kernel_rfl) (by kernel_rfl) (capsOf := fun (_ : ByteArray) => [.ptr 0 0]) (encL := encL83) (decL := decL83) (fun b i h => by
      unfold decL83 at h
      split at h
      · cases h; rfl
      · cases h) (n := fun {σ} Y i s => n83 Y i s) (seg := fun {σ} Y => g83 Y) (by kernel_rfl) (fun σ Y => (fun p hp e he => by
    have hq : segsOf (σ := σ) (g83 Y) (bodyOf Tryd.f83) = [(0, .loop (loopAt Tryd.f83 0))] := by kernel_rfl
    rw [hq] at hp
    simp only [List.mem_cons, List.not_mem_nil, or_false] at hp
    subst hp
    cases he
    exact Q83_0 hl _ _)) N83 _
  · cases h
theorem Z83_0 {σ τ : Type} {Y : Yd σ} {W : Yd τ} {enc : τ → σ} (h : ∀ xs a, SimO enc (W xs a) (Y xs (enc a))) : ∀ n a s, SimO enc (L83_0 W n a s) (L83_0 Y n a (enc s)) := by
  intro n
  induction n with
  | zero => intro a s; exact sim_none
  | succ n ih =>
    intro a s
    simp only [L83_0]
    repeat (first
      | exact sim_none
      | exact sim_some _ _
      | exact ih _ _
      | exact ih _ _
      | (refine sim_bif ?_ ?_)
      | (refine sim_ask ?_)
      | (refine sim_bind (h _ _) ?_; intro b s; dsimp only)
      | (refine sim_pure ?_; intro v)
      | (split))
theorem S83 : ∀ i, IterSim (fun σ Y => n83 (σ := σ) Y i) := by
  intro i σ τ Y W enc h0 a i' a' e
  have h : ∀ xs a, SimO enc (W xs a) (Y xs (enc a)) := fun xs a o s e => h0 xs a o s e
  revert e
  refine (?_ : SimO enc _ _) i' a'
  simp only [n83]
  repeat (first
      | exact sim_none
      | exact sim_some _ _
      | (refine sim_bind (Z83_0 h _ _ _) ?_; intro v s; dsimp only)
      | (refine sim_bif ?_ ?_)
      | (refine sim_ask ?_)
      | (refine sim_bind (h _ _) ?_; intro b s; dsimp only)
      | (refine sim_pure ?_; intro v)
      | (split))
abbrev P56_0 := Unit
abbrev X56_0 := Int × Int × Int × Int
abbrev A56_0 := Int × Int × Int × Int × Int × Int × Int
inductive O56_0 where
  | x0 (o16 : Int) (o17 : Int) (o18 : Int) (o19 : Int) (o20 : Int) (o21 : Int) (o22 : Int)
def l56_0 : RangeS P56_0 X56_0 A56_0 O56_0 where
  n := 39
  ks := [3, 4, 5, 16, 17]
  ps := [16, 17]
  ks0 := [3, 4, 5]
  m := 4
  mt := 0
  decE := fun vs => match vs with
    | [.ptr 0 0, .ptr 1 0, .ptr 2 0] => some ()
    | _ => none
  encE := fun () => [.ptr 0 0, .ptr 1 0, .ptr 2 0]
  decX := fun xs => match xs with
    | [.agg [.val (.int .i64 e5), .val (.int .i64 e6), .val (.int .i64 e7)], .val (.int .i32 e8)] => some (e5, e6, e7, e8)
    | _ => none
  encX := fun (e5, e6, e7, e8) => [.agg [.val (.int .i64 e5), .val (.int .i64 e6), .val (.int .i64 e7)], .val (.int .i32 e8)]
  decB := fun bs ts => match bs, ts with
    | [.cells none [.d (.val (.int .i64 v9))], .cells (some 25) [.d (.val (.int .i64 v10)), .d (.val (.int .i64 v11)), .d (.val (.int .i64 v12))], .cells (some 25) [.d (.val (.int .i64 v13)), .d (.val (.int .i64 v14)), .d (.val (.int .i64 v15))], .gone], [] => some (v9, v10, v11, v12, v13, v14, v15)
    | _, _ => none
  encB := fun (v9, v10, v11, v12, v13, v14, v15) => [.cells none [.d (.val (.int .i64 v9))], .cells (some 25) [.d (.val (.int .i64 v10)), .d (.val (.int .i64 v11)), .d (.val (.int .i64 v12))], .cells (some 25) [.d (.val (.int .i64 v13)), .d (.val (.int .i64 v14)), .d (.val (.int .i64 v15))], .gone]
  tk := fun (v9, v10, v11, v12, v13, v14, v15) => []
  decO := fun ex bs ts => match ex, bs, ts with
    | (.exit 0), [.cells none [.d (.val (.int .i64 o16))], .cells (some 25) [.d (.val (.int .i64 o17)), .d (.val (.int .i64 o18)), .d (.val (.int .i64 o19))], .cells (some 25) [.d (.val (.int .i64 o20)), .d (.val (.int .i64 o21)), .d (.val (.int .i64 o22))], .gone], [] => some (.x0 o16 o17 o18 o19 o20 o21 o22)
    | _, _, _ => none
  exO := fun x => match x with
    | .x0 o16 o17 o18 o19 o20 o21 o22 => (.exit 0)
  outB := fun x => match x with
    | .x0 o16 o17 o18 o19 o20 o21 o22 => [.cells none [.d (.val (.int .i64 o16))], .cells (some 25) [.d (.val (.int .i64 o17)), .d (.val (.int .i64 o18)), .d (.val (.int .i64 o19))], .cells (some 25) [.d (.val (.int .i64 o20)), .d (.val (.int .i64 o21)), .d (.val (.int .i64 o22))], .gone]
  tkO := fun x => match x with
    | .x0 o16 o17 o18 o19 o20 o21 o22 => []
  elim := fun x k => match x with
    | .x0 o16 o17 o18 o19 o20 o21 o22 => k (.exit 0) [.cells none [.d (.val (.int .i64 o16))], .cells (some 25) [.d (.val (.int .i64 o17)), .d (.val (.int .i64 o18)), .d (.val (.int .i64 o19))], .cells (some 25) [.d (.val (.int .i64 o20)), .d (.val (.int .i64 o21)), .d (.val (.int .i64 o22))], .gone] []
theorem k56_0 : l56_0.Ok where
  ok1 := by kernel_rfl
  ok2 := by kernel_rfl
  ok3 := by kernel_rfl
  decE := by
    intro vs p h
    simp only [l56_0] at h ⊢
    split at h
    · cases h; rfl
    · cases h
  decX := by
    intro xs x h
    simp only [l56_0] at h ⊢
    split at h
    · cases h; rfl
    · cases h
  lenX := fun _ => rfl
  decB := by
    intro bs ts a h
    simp only [l56_0] at h ⊢
    split at h
    · cases h; rfl
    · cases h
  lenB := fun _ => ⟨rfl, rfl⟩
  decO := by
    intro ex bs ts o h
    simp only [l56_0] at h ⊢
    split at h
    · cases h; exact ⟨rfl, rfl⟩
    · cases h
  exO := fun o => by cases o <;> exact ⟨fun h => (by cases h), rfl⟩
  elim := fun β o k => by cases o <;> rfl
def W56_0 {σ : Type} (p : P56_0) : Yd ((A56_0 ⊕ O56_0) × σ) := fun xs q => match p, xs, q with
  | (), [.agg [.val (.int .i64 e5), .val (.int .i64 e6), .val (.int .i64 e7)], .val (.int .i32 e8)], (.inl (v9, v10, v11, v12, v13, v14, v15), s) => (bif (decide (e5 ≥ v9)) then (some (false, (Sum.inr (O56_0.x0 v9 v10 v11 v12 v13 v14 v15), s))) else (bif (e8 == 10) then (some (true, (Sum.inl (v9, v10, v11, v12, v13, (w64 (e6 + 1)), 1), s))) else (some (true, (Sum.inl (v9, v10, v11, v12, v13, e6, (w64 (e7 + 1))), s)))))
  | _, _, _ => none
def d56 (ds : List D) : Option (ByteArray × Int) := match ds with
  | [.val (.string a0), .val (.int .i64 a1)] => some (a0, a1)
  | _ => none
def r56 (v : AV) : Option (Int × Int × Int) := match toPR v with
  | some (.one (.agg [.val (.int .i64 a2), .val (.int .i64 a3), .val (.int .i64 a4)])) => some (a2, a3, a4)
  | _ => none
def n56 : ByteArray × Int → Option (Int × Int × Int) := fun (a0, a1) => ((n83 (W56_0 ()) a0 (Sum.inl ((if (a0.size : Int) < (if 0 > a1 then 0 else a1) then (a0.size : Int) else (if 0 > a1 then 0 else a1)), 0, 0, 0, 0, 1, 1), ())).bind fun p23 => match p23.2.1 with | .inl z24 => (some ((z24.1), (z24.2.2.2.2.2.1), (z24.2.2.2.2.2.2))) | .inr o32 => (match o32 with | .x0 z25 z26 z27 z28 z29 z30 z31 => (some (z25, z30, z31))))
def e56 : PureE := mkE d56 n56 (fun (a2, a3, a4) => .one (.agg [.val (.int .i64 a2), .val (.int .i64 a3), .val (.int .i64 a4)]))
noncomputable def g56 (gl : Nat → Option (List D)) {σ : Type} : Nat → Option (SegE σ)
  | 0 => some (l56_0.seg (cfgOf Tryd.prog (tabs gl) tS3) 56 0 (rangeG Tryd.f56 0) 83 itDec83 encL83 (fun i σ Y => n83 Y i) σ W56_0)
  | _ => none
theorem E56_0 {σ : Type} (Y : Yd σ) : ∀ p x a (s : σ), W56_0 p (l56_0.encX x) (.inl a, s) = evK (cfgOf Tryd.prog (tabs gl) tS3) (toldOf tS3) Y (inlN (cfgOf Tryd.prog (tabs gl) tS3) (toldOf tS3) Y) (g56 gl) 56 (.seq (rangeA Tryd.f56 0) (rangeB Tryd.f56 0)) (l56_0.encS p x a s) (fun ex st' => l56_0.next ex st') := by
  intro p x a s
  obtain ⟨e5, e6, e7, e8⟩ := x
  obtain ⟨v9, v10, v11, v12, v13, v14, v15⟩ := a
  kernel_rfl
theorem D56_0 {σ : Type} : ∀ p xs q r, W56_0 (σ := σ) p xs q = some r → ∃ x a s, xs = l56_0.encX x ∧ q = (.inl a, s) := by
  intro p xs q r h
  unfold W56_0 at h
  split at h
  · rename_i e5 e6 e7 e8 v9 v10 v11 v12 v13 v14 v15 s
    exact ⟨(e5, e6, e7, e8), (v9, v10, v11, v12, v13, v14, v15), _, rfl, rfl⟩
  · cases h
theorem Q56_0 {σ : Type} (hl : LibFits2 gl) (Y : Yd σ) (_ : Bool) : SegOk (cfgOf Tryd.prog (tabs gl) tS3) (evFn (cfgOf Tryd.prog (tabs gl) tS3) 9) 56 false Y (l56_0.seg (cfgOf Tryd.prog (tabs gl) tS3) 56 0 (rangeG Tryd.f56 0) 83 itDec83 encL83 (fun i σ Y => n83 Y i) σ W56_0) (.block 0 (.rangeFunc (rangeG Tryd.f56 0) (rangeP Tryd.f56 0) (rangeA Tryd.f56 0) (rangeB Tryd.f56 0))) :=
  told_range (okS3 hl) k56_0 (by kernel_rfl) (by kernel_rfl) (by kernel_rfl) (segs_no (by kernel_rfl)) D56_0 (E56_0 Y) (J83 hl) S83
theorem N56 : ∀ a, n56 a = bodyK (cfgOf Tryd.prog (tabs gl) tS3) (toldOf tS3) noY (inlN (cfgOf Tryd.prog (tabs gl) tS3) (toldOf tS3) noY) (g56 gl) 56 Tryd.f56 (((fun (a0, a1) => [.val (.string a0), .val (.int .i64 a1)] : (ByteArray × Int) → List D) a).map .d) [] [] () (fun v _ _ _ => r56 v) := by
  intro a
  obtain ⟨a0, a1⟩ := a
  kernel_rfl
noncomputable def t56 : Tab := (56, e56) :: tS3
theorem ok56 (hl : LibFits2 gl) : TabOk Tryd.prog gl t56 :=
  told_fn (okS3 hl) mixed oddOk Tryd.func56 (by kernel_rfl) (by kernel_rfl) (by kernel_rfl) (fun p hp e he => by
    have hq : segsOf (σ := Unit) (g56 gl (σ := Unit)) (bodyOf Tryd.f56) = [(0, .rangeFunc (rangeG Tryd.f56 0) (rangeP Tryd.f56 0) (rangeA Tryd.f56 0) (rangeB Tryd.f56 0))] := by kernel_rfl
    rw [hq] at hp
    simp only [List.mem_cons, List.not_mem_nil, or_false] at hp
    subst hp
    cases he
    exact Q56_0 hl _ true)
    (args := fun (a0, a1) => [.val (.string a0), .val (.int .i64 a1)]) (res := r56)
    (fun ds a h => by
      unfold d56 at h
      split at h
      · cases h; rfl
      · cases h)
    (fun v r h => by
      unfold r56 at h
      split at h
      · rename_i hv; cases h; exact hv
      · cases h)
    N56
noncomputable def tS4 : Tab := (59, e59) :: (41, e41) :: (40, e40) :: (56, e56) :: tS3
theorem okS4 (hl : LibFits2 gl) : TabOk Tryd.prog gl tS4 :=
  TabOk.cons (TabOk.cons (TabOk.cons (TabOk.cons (okS3 hl) ((ok56 hl).fair (56, e56) (List.mem_cons_self (l := tS3))) ((ok56 hl).spec (56, e56) (List.mem_cons_self (l := tS3)))) ((ok40 hl).fair (40, e40) (List.mem_cons_self (l := tS3))) ((ok40 hl).spec (40, e40) (List.mem_cons_self (l := tS3)))) ((ok41 hl).fair (41, e41) (List.mem_cons_self (l := tS3))) ((ok41 hl).spec (41, e41) (List.mem_cons_self (l := tS3)))) ((ok59 hl).fair (59, e59) (List.mem_cons_self (l := tS3))) ((ok59 hl).spec (59, e59) (List.mem_cons_self (l := tS3)))
def d66 (ds : List D) : Option (List D) := match ds with
  | [.slice a0] => some a0
  | _ => none
def r66 (v : AV) : Option (List D) := match toPR v with
  | some (.one (.slice a1)) => some a1
  | _ => none
def n66 : List D → Option (List D) := fun a0 => (ask (cutRowOk (0 : Int) ((a0.length : Nat) : Int) ((a0.length : Nat) : Int) (a0.length) (hasSize 1 a0)) (some ((a0.take (Int.toNat ((a0.length : Nat) : Int))).drop (Int.toNat 0))))
def e66 : PureE := mkE d66 n66 (fun a1 => .one (.slice a1))
def g66 {σ : Type} : Nat → Option (SegE σ)
  | _ => none
theorem N66 : ∀ a, n66 a = bodyK (cfgOf Tryd.prog (tabs gl) tS4) (toldOf tS4) noY (inlN (cfgOf Tryd.prog (tabs gl) tS4) (toldOf tS4) noY) g66 66 Tryd.f66 (((fun a0 => [.slice a0] : (List D) → List D) a).map .d) [] [] () (fun v _ _ _ => r66 v) := by
  intro a0
  kernel_rfl
noncomputable def t66 : Tab := (66, e66) :: tS4
theorem ok66 (hl : LibFits2 gl) : TabOk Tryd.prog gl t66 :=
  told_fn (okS4 hl) mixed oddOk Tryd.func66 (by kernel_rfl) (by kernel_rfl) (by kernel_rfl) (segs_no (by kernel_rfl))
    (args := fun a0 => [.slice a0]) (res := r66)
    (fun ds a h => by
      unfold d66 at h
      split at h
      · cases h; rfl
      · cases h)
    (fun v r h => by
      unfold r66 at h
      split at h
      · rename_i hv; cases h; exact hv
      · cases h)
    N66
def d90 (ds : List D) : Option (Unit) := match ds with
  | [] => some ()
  | _ => none
def r90 (v : AV) : Option (List D) := match toPR v with
  | some (.one (.slice a0)) => some a0
  | _ => none
def n90 : Unit → Option (List D) := fun () => ((n110 (⟨#[40, 32, 41, 32, 91, 32, 93, 32, 123, 32, 125, 32, 44, 32, 59, 32, 46, 32, 43, 32, 45, 32, 42, 32, 47, 32, 37, 32, 124, 32, 38, 32, 92, 32, 61, 61, 32, 33, 61, 32, 60, 61, 32, 62, 61, 32, 60, 32, 62, 32, 61]⟩ : ByteArray)).bind fun y1 => (some y1))
def e90 : PureE := mkE d90 n90 (fun a0 => .one (.slice a0))
def g90 {σ : Type} : Nat → Option (SegE σ)
  | _ => none
theorem N90 : ∀ a, n90 a = bodyK (cfgOf Tryd.prog (tabs gl) tS4) (toldOf tS4) noY (inlN (cfgOf Tryd.prog (tabs gl) tS4) (toldOf tS4) noY) g90 90 Tryd.f90 (((fun () => [] : (Unit) → List D) a).map .d) [] [] () (fun v _ _ _ => r90 v) := by
  intro a
  kernel_rfl
noncomputable def t90 : Tab := (90, e90) :: tS4
theorem ok90 (hl : LibFits2 gl) : TabOk Tryd.prog gl t90 :=
  told_fn (okS4 hl) mixed oddOk Tryd.func90 (by kernel_rfl) (by kernel_rfl) (by kernel_rfl) (segs_no (by kernel_rfl))
    (args := fun () => []) (res := r90)
    (fun ds a h => by
      unfold d90 at h
      split at h
      · cases h; rfl
      · cases h)
    (fun v r h => by
      unfold r90 at h
      split at h
      · rename_i hv; cases h; exact hv
      · cases h)
    N90
def d112 (ds : List D) : Option (Unit) := match ds with
  | [] => some ()
  | _ => none
def r112 (v : AV) : Option (List D) := match toPR v with
  | some (.one (.slice a0)) => some a0
  | _ => none
def n112 : Unit → Option (List D) := fun () => (some ([.val (.string (⟨#[61, 61]⟩ : ByteArray)), .val (.string (⟨#[33, 61]⟩ : ByteArray)), .val (.string (⟨#[60, 61]⟩ : ByteArray)), .val (.string (⟨#[62, 61]⟩ : ByteArray)), .val (.string (⟨#[40]⟩ : ByteArray)), .val (.string (⟨#[41]⟩ : ByteArray)), .val (.string (⟨#[91]⟩ : ByteArray)), .val (.string (⟨#[93]⟩ : ByteArray)), .val (.string (⟨#[123]⟩ : ByteArray)), .val (.string (⟨#[125]⟩ : ByteArray)), .val (.string (⟨#[44]⟩ : ByteArray)), .val (.string (⟨#[59]⟩ : ByteArray)), .val (.string (⟨#[46]⟩ : ByteArray)), .val (.string (⟨#[43]⟩ : ByteArray)), .val (.string (⟨#[45]⟩ : ByteArray)), .val (.string (⟨#[42]⟩ : ByteArray)), .val (.string (⟨#[47]⟩ : ByteArray)), .val (.string (⟨#[37]⟩ : ByteArray)), .val (.string (⟨#[124]⟩ : ByteArray)), .val (.string (⟨#[38]⟩ : ByteArray)), .val (.string (⟨#[92]⟩ : ByteArray)), .val (.string (⟨#[60]⟩ : ByteArray)), .val (.string (⟨#[62]⟩ : ByteArray)), .val (.string (⟨#[61]⟩ : ByteArray))] : List D))
def e112 : PureE := mkE d112 n112 (fun a0 => .one (.slice a0))
def g112 {σ : Type} : Nat → Option (SegE σ)
  | _ => none
theorem N112 : ∀ a, n112 a = bodyK (cfgOf Tryd.prog (tabs gl) tS4) (toldOf tS4) noY (inlN (cfgOf Tryd.prog (tabs gl) tS4) (toldOf tS4) noY) g112 112 Tryd.f112 (((fun () => [] : (Unit) → List D) a).map .d) [] [] () (fun v _ _ _ => r112 v) := by
  intro a
  kernel_rfl
noncomputable def t112 : Tab := (112, e112) :: tS4
theorem ok112 (hl : LibFits2 gl) : TabOk Tryd.prog gl t112 :=
  told_fn (okS4 hl) mixed oddOk Tryd.func112 (by kernel_rfl) (by kernel_rfl) (by kernel_rfl) (segs_no (by kernel_rfl))
    (args := fun () => []) (res := r112)
    (fun ds a h => by
      unfold d112 at h
      split at h
      · cases h; rfl
      · cases h)
    (fun v r h => by
      unfold r112 at h
      split at h
      · rename_i hv; cases h; exact hv
      · cases h)
    N112
noncomputable def tS5 : Tab := (66, e66) :: (90, e90) :: (112, e112) :: tS4
theorem okS5 (hl : LibFits2 gl) : TabOk Tryd.prog gl tS5 :=
  TabOk.cons (TabOk.cons (TabOk.cons (okS4 hl) ((ok112 hl).fair (112, e112) (List.mem_cons_self (l := tS4))) ((ok112 hl).spec (112, e112) (List.mem_cons_self (l := tS4)))) ((ok90 hl).fair (90, e90) (List.mem_cons_self (l := tS4))) ((ok90 hl).spec (90, e90) (List.mem_cons_self (l := tS4)))) ((ok66 hl).fair (66, e66) (List.mem_cons_self (l := tS4))) ((ok66 hl).spec (66, e66) (List.mem_cons_self (l := tS4)))
def d109 (ds : List D) : Option (Int) := match ds with
  | [.val (.int .i32 a0)] => some a0
  | _ => none
def r109 (v : AV) : Option (Bool) := match toPR v with
  | some (.one (.val (.bool a1))) => some a1
  | _ => none
def n109 : Int → Option (Bool) := fun a0 => ((n37 a0).bind fun y2 => (bif y2 then (some true) else (bif (decide (a0 ≥ 48)) then (some (bif (decide (a0 ≤ 57)) then true else (a0 == 39))) else (some (a0 == 39)))))
def e109 : PureE := mkE d109 n109 (fun a1 => .one (.val (.bool a1)))
def g109 {σ : Type} : Nat → Option (SegE σ)
  | _ => none
theorem N109 : ∀ a, n109 a = bodyK (cfgOf Tryd.prog (tabs gl) tS5) (toldOf tS5) noY (inlN (cfgOf Tryd.prog (tabs gl) tS5) (toldOf tS5) noY) g109 109 Tryd.f109 (((fun a0 => [.val (.int .i32 a0)] : (Int) → List D) a).map .d) [] [] () (fun v _ _ _ => r109 v) := by
  intro a0
  kernel_rfl
noncomputable def t109 : Tab := (109, e109) :: tS5
theorem ok109 (hl : LibFits2 gl) : TabOk Tryd.prog gl t109 :=
  told_fn (okS5 hl) mixed oddOk Tryd.func109 (by kernel_rfl) (by kernel_rfl) (by kernel_rfl) (segs_no (by kernel_rfl))
    (args := fun a0 => [.val (.int .i32 a0)]) (res := r109)
    (fun ds a h => by
      unfold d109 at h
      split at h
      · cases h; rfl
      · cases h)
    (fun v r h => by
      unfold r109 at h
      split at h
      · rename_i hv; cases h; exact hv
      · cases h)
    N109
noncomputable def tS6 : Tab := (109, e109) :: tS5
theorem okS6 (hl : LibFits2 gl) : TabOk Tryd.prog gl tS6 :=
  TabOk.cons (okS5 hl) ((ok109 hl).fair (109, e109) (List.mem_cons_self (l := tS5))) ((ok109 hl).spec (109, e109) (List.mem_cons_self (l := tS5)))
def d63 (ds : List D) : Option (ByteArray × Int) := match ds with
  | [.val (.string a0), .val (.int .i64 a1)] => some (a0, a1)
  | _ => none
def r63 (v : AV) : Option (Int × Int × Int) := match toPR v with
  | some (.one (.agg [.val (.int .i64 a2), .val (.int .i64 a3), .val (.int .i64 a4)])) => some (a2, a3, a4)
  | _ => none
def n63 : ByteArray × Int → Option (Int × Int × Int) := fun (a0, a1) => ((n59 (a0, a1)).bind fun y5 => (some (y5.1, y5.2.1, y5.2.2)))
def e63 : PureE := mkE d63 n63 (fun (a2, a3, a4) => .one (.agg [.val (.int .i64 a2), .val (.int .i64 a3), .val (.int .i64 a4)]))
def g63 {σ : Type} : Nat → Option (SegE σ)
  | _ => none
theorem N63 : ∀ a, n63 a = bodyK (cfgOf Tryd.prog (tabs gl) tS6) (toldOf tS6) noY (inlN (cfgOf Tryd.prog (tabs gl) tS6) (toldOf tS6) noY) g63 63 Tryd.f63 (((fun (a0, a1) => [.val (.string a0), .val (.int .i64 a1)] : (ByteArray × Int) → List D) a).map .d) [] [] () (fun v _ _ _ => r63 v) := by
  intro a
  obtain ⟨a0, a1⟩ := a
  kernel_rfl
noncomputable def t63 : Tab := (63, e63) :: tS6
theorem ok63 (hl : LibFits2 gl) : TabOk Tryd.prog gl t63 :=
  told_fn (okS6 hl) mixed oddOk Tryd.func63 (by kernel_rfl) (by kernel_rfl) (by kernel_rfl) (segs_no (by kernel_rfl))
    (args := fun (a0, a1) => [.val (.string a0), .val (.int .i64 a1)]) (res := r63)
    (fun ds a h => by
      unfold d63 at h
      split at h
      · cases h; rfl
      · cases h)
    (fun v r h => by
      unfold r63 at h
      split at h
      · rename_i hv; cases h; exact hv
      · cases h)
    N63
def d93 (ds : List D) : Option (Int × ByteArray) := match ds with
  | [.val (.int .i64 a0), .val (.string a1)] => some (a0, a1)
  | _ => none
def r93 (v : AV) : Option (Int × Int × Int × Int × ByteArray × Int × Int) := match toPR v with
  | some (.many [.agg [.val (.int .i64 a2), .val (.int .i64 a3), .val (.int .i64 a4), .val (.int .i64 a5), .val (.string a6), .val (.int .i64 a7)], .val (.int .i64 a8)]) => some (a2, a3, a4, a5, a6, a7, a8)
  | _ => none
def n93 : Int × ByteArray → Option (Int × Int × Int × Int × ByteArray × Int × Int) := fun (a0, a1) => ((n41 a1).bind fun y9 => (bif (!y9) then (some (0, 0, 0, 0, (⟨#[]⟩ : ByteArray), 0, 21)) else (bif (a0 == 3) then (bif (sEq a1 (⟨#[116, 114, 117, 101]⟩ : ByteArray)) then (some (0, 0, 0, 0, (⟨#[]⟩ : ByteArray), 0, 21)) else (bif (sEq a1 (⟨#[102, 97, 108, 115, 101]⟩ : ByteArray)) then (some (0, 0, 0, 0, (⟨#[]⟩ : ByteArray), 0, 21)) else (some (a0, 0, 0, 0, a1, 0, 0)))) else (some (a0, 0, 0, 0, a1, 0, 0)))))
def e93 : PureE := mkE d93 n93 (fun (a2, a3, a4, a5, a6, a7, a8) => .many [.agg [.val (.int .i64 a2), .val (.int .i64 a3), .val (.int .i64 a4), .val (.int .i64 a5), .val (.string a6), .val (.int .i64 a7)], .val (.int .i64 a8)])
def g93 {σ : Type} : Nat → Option (SegE σ)
  | _ => none
theorem N93 : ∀ a, n93 a = bodyK (cfgOf Tryd.prog (tabs gl) tS6) (toldOf tS6) noY (inlN (cfgOf Tryd.prog (tabs gl) tS6) (toldOf tS6) noY) g93 93 Tryd.f93 (((fun (a0, a1) => [.val (.int .i64 a0), .val (.string a1)] : (Int × ByteArray) → List D) a).map .d) [] [] () (fun v _ _ _ => r93 v) := by
  intro a
  obtain ⟨a0, a1⟩ := a
  kernel_rfl
noncomputable def t93 : Tab := (93, e93) :: tS6
theorem ok93 (hl : LibFits2 gl) : TabOk Tryd.prog gl t93 :=
  told_fn (okS6 hl) mixed oddOk Tryd.func93 (by kernel_rfl) (by kernel_rfl) (by kernel_rfl) (segs_no (by kernel_rfl))
    (args := fun (a0, a1) => [.val (.int .i64 a0), .val (.string a1)]) (res := r93)
    (fun ds a h => by
      unfold d93 at h
      split at h
      · cases h; rfl
      · cases h)
    (fun v r h => by
      unfold r93 at h
      split at h
      · rename_i hv; cases h; exact hv
      · cases h)
    N93
def dM87 (av : List AV) (bs : List Box) (ts : List Nat) : Option (ByteArray × List D × Int × Int × Nat) := match av, bs, ts with
  | [.ptr 0 0, .d (.val (.int .i64 a4))], [.cells none [.d (.val (.string a0)), .osl 0 a1, .d (.val (.int .i64 a3))]], [k2] => some (a0, a1, a3, a4, k2)
  | _, _, _ => none
def aM87 : (ByteArray × List D × Int × Int × Nat) → List AV := fun (a0, a1, a3, a4, k2) => [.ptr 0 0, .d (.val (.int .i64 a4))]
def bM87 : (ByteArray × List D × Int × Int × Nat) → List Box := fun (a0, a1, a3, a4, k2) => [.cells none [.d (.val (.string a0)), .osl 0 a1, .d (.val (.int .i64 a3))]]
def tM87 : (ByteArray × List D × Int × Int × Nat) → List Nat := fun (a0, a1, a3, a4, k2) => [k2]
def vM87 : (Int × ByteArray × List D × Int × Nat) → AV := fun (o8, p9, p10, p11, q12) => .d (.val (.int .i32 o8))
def cM87 : (Int × ByteArray × List D × Int × Nat) → List Box := fun (o8, p9, p10, p11, q12) => [.cells none [.d (.val (.string p9)), .osl 0 p10, .d (.val (.int .i64 p11))]]
def kM87 : (Int × ByteArray × List D × Int × Nat) → List Nat := fun (o8, p9, p10, p11, q12) => [q12]
def rM87 (v : AV) (bs : List Box) (ts : List Nat) : Option (Int × ByteArray × List D × Int × Nat) := match v, bs, ts with
  | .d (.val (.int .i32 o8)), [.cells none [.d (.val (.string p9)), .osl 0 p10, .d (.val (.int .i64 p11))]], [q12] => some (o8, p9, p10, p11, q12)
  | _, _, _ => none
def n87 : ByteArray × List D × Int × Int × Nat → Option (Int × ByteArray × List D × Int × Nat) := fun (a0, a1, a3, a4, k2) => (bif (decide ((w64 (a3 + a4)) < ((a1.length : Nat) : Int))) then ((lidx a1 (w64 (a3 + a4))).bind fun d5 => ask (d5.cells.length = 4) ((cellAt 0 d5).bind fun x6 => (asInt .i32 x6).bind fun x7 => (some (x7, a0, a1, a3, k2)))) else (some (0, a0, a1, a3, k2)))
theorem hM87 : ∀ a o, n87 a = some o → cM87 o = bM87 a ∧ kM87 o = tM87 a := by
  intro a
  obtain ⟨a0, a1, a3, a4, k2⟩ := a
  refine (?_ : Qt (n87 _) _)
  unfold n87
  dsimp only
  repeat' (first | exact qt_some ⟨rfl, rfl⟩ | exact qt_none | refine qt_bif ?_ ?_ | refine qt_ask ?_ | (refine qt_bind ?_; intro v; try dsimp only) | split)
def g87 {σ : Type} : Nat → Option (SegE σ)
  | _ => none
theorem N87 : ∀ a, n87 a = bodyK (cfgOf Tryd.prog (tabs gl) tS6) (toldOf tS6) noY (inlN (cfgOf Tryd.prog (tabs gl) tS6) (toldOf tS6) noY) g87 87 Tryd.f87 (aM87 a) (bM87 a) (tM87 a) () (fun v b tk _ => rM87 v b tk) := by
  intro a
  obtain ⟨a0, a1, a3, a4, k2⟩ := a
  kernel_rfl
theorem om87 (hl : LibFits2 gl) : OddSound Tryd.prog gl (fun g => bif Nat.beq g 87 then some (methR 87 dM87 n87 vM87 cM87 kM87) else (tabs gl).odd g) :=
  told_methR (t := tabs gl) (okS6 hl) mixed oddOk Tryd.func87 (by kernel_rfl) (by kernel_rfl) (argsOf := aM87) (boxOf := bM87) (tokOf := tM87) (res := rM87) hM87 (by kernel_rfl) (segs_no (by kernel_rfl))
    (fun av bs ts a h => by
      unfold dM87 at h
      split at h
      · cases h; exact ⟨rfl, rfl, rfl⟩
      · cases h)
    (fun v b tk o h => by
      unfold rM87 at h
      split at h
      · cases h; exact ⟨rfl, rfl, rfl⟩
      · cases h)
    N87
def dM88 (av : List AV) (bs : List Box) (ts : List Nat) : Option (ByteArray × List D × Int × Nat) := match av, bs, ts with
  | [.ptr 0 0], [.cells none [.d (.val (.string a0)), .osl 0 a1, .d (.val (.int .i64 a3))]], [k2] => some (a0, a1, a3, k2)
  | _, _, _ => none
def aM88 : (ByteArray × List D × Int × Nat) → List AV := fun (a0, a1, a3, k2) => [.ptr 0 0]
def bM88 : (ByteArray × List D × Int × Nat) → List Box := fun (a0, a1, a3, k2) => [.cells none [.d (.val (.string a0)), .osl 0 a1, .d (.val (.int .i64 a3))]]
def tM88 : (ByteArray × List D × Int × Nat) → List Nat := fun (a0, a1, a3, k2) => [k2]
def vM88 : (Int × Int × Int × ByteArray × List D × Int × Nat) → AV := fun (o11, o12, o13, p14, p15, p16, q17) => .d (.agg [.val (.int .i64 o11), .val (.int .i64 o12), .val (.int .i64 o13)])
def cM88 : (Int × Int × Int × ByteArray × List D × Int × Nat) → List Box := fun (o11, o12, o13, p14, p15, p16, q17) => [.cells none [.d (.val (.string p14)), .osl 0 p15, .d (.val (.int .i64 p16))]]
def kM88 : (Int × Int × Int × ByteArray × List D × Int × Nat) → List Nat := fun (o11, o12, o13, p14, p15, p16, q17) => [q17]
def rM88 (v : AV) (bs : List Box) (ts : List Nat) : Option (Int × Int × Int × ByteArray × List D × Int × Nat) := match v, bs, ts with
  | .d (.agg [.val (.int .i64 o11), .val (.int .i64 o12), .val (.int .i64 o13)]), [.cells none [.d (.val (.string p14)), .osl 0 p15, .d (.val (.int .i64 p16))]], [q17] => some (o11, o12, o13, p14, p15, p16, q17)
  | _, _, _ => none
def n88 : ByteArray × List D × Int × Nat → Option (Int × Int × Int × ByteArray × List D × Int × Nat) := fun (a0, a1, a3, k2) => (bif (decide (a3 < ((a1.length : Nat) : Int))) then ((lidx a1 a3).bind fun d4 => ask (d4.cells.length = 4) ((cellAt 1 d4).bind fun x5 => (asInt .i64 x5).bind fun x6 => ((cellAt 2 d4).bind fun x7 => (asInt .i64 x7).bind fun x8 => ((cellAt 3 d4).bind fun x9 => (asInt .i64 x9).bind fun x10 => (some (x6, x8, x10, a0, a1, a3, k2)))))) else ((n56 (a0, (a0.size : Int))).bind fun y18 => (some (y18.1, y18.2.1, y18.2.2, a0, a1, a3, k2))))
theorem hM88 : ∀ a o, n88 a = some o → cM88 o = bM88 a ∧ kM88 o = tM88 a := by
  intro a
  obtain ⟨a0, a1, a3, k2⟩ := a
  refine (?_ : Qt (n88 _) _)
  unfold n88
  dsimp only
  repeat' (first | exact qt_some ⟨rfl, rfl⟩ | exact qt_none | refine qt_bif ?_ ?_ | refine qt_ask ?_ | (refine qt_bind ?_; intro v; try dsimp only) | split)
def g88 {σ : Type} : Nat → Option (SegE σ)
  | _ => none
theorem N88 : ∀ a, n88 a = bodyK (cfgOf Tryd.prog (tabs gl) tS6) (toldOf tS6) noY (inlN (cfgOf Tryd.prog (tabs gl) tS6) (toldOf tS6) noY) g88 88 Tryd.f88 (aM88 a) (bM88 a) (tM88 a) () (fun v b tk _ => rM88 v b tk) := by
  intro a
  obtain ⟨a0, a1, a3, k2⟩ := a
  kernel_rfl
theorem om88 (hl : LibFits2 gl) : OddSound Tryd.prog gl (fun g => bif Nat.beq g 88 then some (methR 88 dM88 n88 vM88 cM88 kM88) else (tabs gl).odd g) :=
  told_methR (t := tabs gl) (okS6 hl) mixed oddOk Tryd.func88 (by kernel_rfl) (by kernel_rfl) (argsOf := aM88) (boxOf := bM88) (tokOf := tM88) (res := rM88) hM88 (by kernel_rfl) (segs_no (by kernel_rfl))
    (fun av bs ts a h => by
      unfold dM88 at h
      split at h
      · cases h; exact ⟨rfl, rfl, rfl⟩
      · cases h)
    (fun v b tk o h => by
      unfold rM88 at h
      split at h
      · cases h; exact ⟨rfl, rfl, rfl⟩
      · cases h)
    N88
def dM92 (av : List AV) (bs : List Box) (ts : List Nat) : Option (ByteArray × List D × Int × Int × Int) := match av, bs, ts with
  | [.ptr 0 0, .d (.val (.int .i64 a3)), .d (.val (.int .i64 a4))], [.cells none [.d (.val (.string a0)), .d (.slice a1), .d (.val (.int .i64 a2))]], [] => some (a0, a1, a2, a3, a4)
  | _, _, _ => none
def aM92 : (ByteArray × List D × Int × Int × Int) → List AV := fun (a0, a1, a2, a3, a4) => [.ptr 0 0, .d (.val (.int .i64 a3)), .d (.val (.int .i64 a4))]
def bM92 : (ByteArray × List D × Int × Int × Int) → List Box := fun (a0, a1, a2, a3, a4) => [.cells none [.d (.val (.string a0)), .d (.slice a1), .d (.val (.int .i64 a2))]]
def tM92 : (ByteArray × List D × Int × Int × Int) → List Nat := fun (a0, a1, a2, a3, a4) => []
def vM92 : (Bool × ByteArray × List D × Int) → AV := fun (o8, p9, p10, p11) => .d (.val (.bool o8))
def cM92 : (Bool × ByteArray × List D × Int) → List Box := fun (o8, p9, p10, p11) => [.cells none [.d (.val (.string p9)), .d (.slice p10), .d (.val (.int .i64 p11))]]
def kM92 : (Bool × ByteArray × List D × Int) → List Nat := fun (o8, p9, p10, p11) => []
def rM92 (v : AV) (bs : List Box) (ts : List Nat) : Option (Bool × ByteArray × List D × Int) := match v, bs, ts with
  | .d (.val (.bool o8)), [.cells none [.d (.val (.string p9)), .d (.slice p10), .d (.val (.int .i64 p11))]], [] => some (o8, p9, p10, p11)
  | _, _, _ => none
def n92 : ByteArray × List D × Int × Int × Int → Option (Bool × ByteArray × List D × Int) := fun (a0, a1, a2, a3, a4) => (bif (decide ((w64 (a2 + a3)) < ((a1.length : Nat) : Int))) then ((lidx a1 (w64 (a2 + a3))).bind fun d5 => ask (d5.cells.length = 3) ((cellAt 0 d5).bind fun x6 => (asInt .i64 x6).bind fun x7 => (some ((x7 == a4), a0, a1, a2)))) else (some (false, a0, a1, a2)))
theorem hM92 : ∀ a o, n92 a = some o → cM92 o = bM92 a ∧ kM92 o = tM92 a := by
  intro a
  obtain ⟨a0, a1, a2, a3, a4⟩ := a
  refine (?_ : Qt (n92 _) _)
  unfold n92
  dsimp only
  repeat' (first | exact qt_some ⟨rfl, rfl⟩ | exact qt_none | refine qt_bif ?_ ?_ | refine qt_ask ?_ | (refine qt_bind ?_; intro v; try dsimp only) | split)
def g92 {σ : Type} : Nat → Option (SegE σ)
  | _ => none
theorem N92 : ∀ a, n92 a = bodyK (cfgOf Tryd.prog (tabs gl) tS6) (toldOf tS6) noY (inlN (cfgOf Tryd.prog (tabs gl) tS6) (toldOf tS6) noY) g92 92 Tryd.f92 (aM92 a) (bM92 a) (tM92 a) () (fun v b tk _ => rM92 v b tk) := by
  intro a
  obtain ⟨a0, a1, a2, a3, a4⟩ := a
  kernel_rfl
theorem om92 (hl : LibFits2 gl) : OddSound Tryd.prog gl (fun g => bif Nat.beq g 92 then some (methR 92 dM92 n92 vM92 cM92 kM92) else (tabs gl).odd g) :=
  told_methR (t := tabs gl) (okS6 hl) mixed oddOk Tryd.func92 (by kernel_rfl) (by kernel_rfl) (argsOf := aM92) (boxOf := bM92) (tokOf := tM92) (res := rM92) hM92 (by kernel_rfl) (segs_no (by kernel_rfl))
    (fun av bs ts a h => by
      unfold dM92 at h
      split at h
      · cases h; exact ⟨rfl, rfl, rfl⟩
      · cases h)
    (fun v b tk o h => by
      unfold rM92 at h
      split at h
      · cases h; exact ⟨rfl, rfl, rfl⟩
      · cases h)
    N92
noncomputable def tabsS7 (gl : Nat → Option (List D)) : Tabs := { tabs gl with odd := fun g => bif Nat.beq g 87 then some (methR 87 dM87 n87 vM87 cM87 kM87) else (bif Nat.beq g 88 then some (methR 88 dM88 n88 vM88 cM88 kM88) else (bif Nat.beq g 92 then some (methR 92 dM92 n92 vM92 cM92 kM92) else ((tabs gl).odd g))) }
theorem oddOkS7 (hl : LibFits2 gl) : OddSound Tryd.prog gl (tabsS7 gl).odd := OddSound.join (om87 hl) (OddSound.join (om88 hl) (OddSound.join (om92 hl) (oddOk)))
noncomputable def tS7 : Tab := (63, e63) :: (93, e93) :: tS6
theorem okS7 (hl : LibFits2 gl) : TabOk Tryd.prog gl tS7 :=
  TabOk.cons (TabOk.cons (okS6 hl) ((ok93 hl).fair (93, e93) (List.mem_cons_self (l := tS6))) ((ok93 hl).spec (93, e93) (List.mem_cons_self (l := tS6)))) ((ok63 hl).fair (63, e63) (List.mem_cons_self (l := tS6))) ((ok63 hl).spec (63, e63) (List.mem_cons_self (l := tS6)))
abbrev A60_3 := ByteArray × List D × Int
inductive O60_3 where
  | x0 (o13 : ByteArray) (o14 : List D) (o15 : Int)
def l60_3 : LoopS A60_3 O60_3 where
  n := 67
  ks := [0]
  kso := [0]
  m := 1
  mt := 1
  decV := fun vs bs ts => match vs, bs, ts with
    | [.ptr 0 0], [.cells none [.d (.val (.string v9)), .osl 0 v10, .d (.val (.int .i64 v11))]], [_] => some (v9, v10, v11)
    | _, _, _ => none
  encV := fun (v9, v10, v11) => [.ptr 0 0]
  encB := fun (v9, v10, v11) => [.cells none [.d (.val (.string v9)), .osl 0 v10, .d (.val (.int .i64 v11))]]
  tk := fun (v9, v10, v11) => [v10.length]
  decO := fun ex vs bs ts => match ex, vs, bs, ts with
    | .normal, [.ptr 0 0], [.cells none [.d (.val (.string o13)), .osl 0 o14, .d (.val (.int .i64 o15))]], [_] => some (.x0 o13 o14 o15)
    | _, _, _, _ => none
  exO := fun x => match x with
    | .x0 o13 o14 o15 => .normal
  outV := fun x => match x with
    | .x0 o13 o14 o15 => [.ptr 0 0]
  outB := fun x => match x with
    | .x0 o13 o14 o15 => [.cells none [.d (.val (.string o13)), .osl 0 o14, .d (.val (.int .i64 o15))]]
  tkO := fun x => match x with
    | .x0 o13 o14 o15 => [o14.length]
  elim := fun x k => match x with
    | .x0 o13 o14 o15 => k .normal [.ptr 0 0] [.cells none [.d (.val (.string o13)), .osl 0 o14, .d (.val (.int .i64 o15))]] [o14.length]
theorem k60_3 : l60_3.Ok where
  ok1 := by kernel_rfl
  ok2 := by kernel_rfl
  dec := by
    intro vs bs ts a h
    simp only [l60_3] at h ⊢
    split at h
    · cases h; exact ⟨rfl, rfl⟩
    · cases h
  out := by
    intro ex vs bs ts o h
    simp only [l60_3] at h ⊢
    split at h
    · cases h; exact ⟨rfl, rfl, rfl⟩
    · cases h
  len := fun _ => ⟨rfl, rfl⟩
  elim := fun β o k => by cases o <;> rfl
def L60_3 {σ : Type} : Nat → A60_3 → σ → Option (O60_3 × σ)
  | 0, _, _ => none
  | n+1, (v9, v10, v11), s => (bif (decide (v11 < ((v10.length : Nat) : Int))) then ((n87 (v9, v10, v11, 0, v10.length)).bind fun y12 => (bif (y12.1 != 10) then (ask (([v10.length] : List Nat) = [v10.length]) (L60_3 n (v9, v10, (w64 (v11 + 1))) s)) else (ask (([v10.length] : List Nat) = [v10.length]) (some (O60_3.x0 v9 v10 v11, s))))) else (ask (([v10.length] : List Nat) = [v10.length]) (some (O60_3.x0 v9 v10 v11, s))))
abbrev A60_0 := ByteArray × List D × Int
inductive O60_0 where
  | x0 (o20 : ByteArray) (o21 : List D) (o22 : Int)
  | x1 (o23 : ByteArray) (o24 : List D) (o25 : Int)
def l60_0 : LoopS A60_0 O60_0 where
  n := 67
  ks := [0]
  kso := []
  m := 1
  mt := 1
  decV := fun vs bs ts => match vs, bs, ts with
    | [.ptr 0 0], [.cells none [.d (.val (.string v4)), .osl 0 v5, .d (.val (.int .i64 v6))]], [_] => some (v4, v5, v6)
    | _, _, _ => none
  encV := fun (v4, v5, v6) => [.ptr 0 0]
  encB := fun (v4, v5, v6) => [.cells none [.d (.val (.string v4)), .osl 0 v5, .d (.val (.int .i64 v6))]]
  tk := fun (v4, v5, v6) => [v5.length]
  decO := fun ex vs bs ts => match ex, vs, bs, ts with
    | .ret, [], [.cells none [.d (.val (.string o20)), .osl 0 o21, .d (.val (.int .i64 o22))]], [_] => some (.x0 o20 o21 o22)
    | .normal, [], [.cells none [.d (.val (.string o23)), .osl 0 o24, .d (.val (.int .i64 o25))]], [_] => some (.x1 o23 o24 o25)
    | _, _, _, _ => none
  exO := fun x => match x with
    | .x0 o20 o21 o22 => .ret
    | .x1 o23 o24 o25 => .normal
  outV := fun x => match x with
    | .x0 o20 o21 o22 => []
    | .x1 o23 o24 o25 => []
  outB := fun x => match x with
    | .x0 o20 o21 o22 => [.cells none [.d (.val (.string o20)), .osl 0 o21, .d (.val (.int .i64 o22))]]
    | .x1 o23 o24 o25 => [.cells none [.d (.val (.string o23)), .osl 0 o24, .d (.val (.int .i64 o25))]]
  tkO := fun x => match x with
    | .x0 o20 o21 o22 => [o21.length]
    | .x1 o23 o24 o25 => [o24.length]
  elim := fun x k => match x with
    | .x0 o20 o21 o22 => k .ret [] [.cells none [.d (.val (.string o20)), .osl 0 o21, .d (.val (.int .i64 o22))]] [o21.length]
    | .x1 o23 o24 o25 => k .normal [] [.cells none [.d (.val (.string o23)), .osl 0 o24, .d (.val (.int .i64 o25))]] [o24.length]
theorem k60_0 : l60_0.Ok where
  ok1 := by kernel_rfl
  ok2 := by kernel_rfl
  dec := by
    intro vs bs ts a h
    simp only [l60_0] at h ⊢
    split at h
    · cases h; exact ⟨rfl, rfl⟩
    · cases h
  out := by
    intro ex vs bs ts o h
    simp only [l60_0] at h ⊢
    split at h
    · cases h; exact ⟨rfl, rfl, rfl⟩
    · cases h; exact ⟨rfl, rfl, rfl⟩
    · cases h
  len := fun _ => ⟨rfl, rfl⟩
  elim := fun β o k => by cases o <;> rfl
def L60_0 {σ : Type} : Nat → A60_0 → σ → Option (O60_0 × σ)
  | 0, _, _ => none
  | n+1, (v4, v5, v6), s => (bif (decide (v6 < ((v5.length : Nat) : Int))) then ((n87 (v4, v5, v6, 0, v5.length)).bind fun y7 => (bif (bif (bif (bif (y7.1 == 32) then true else (y7.1 == 9)) then true else (y7.1 == 10)) then true else (y7.1 == 13)) then (ask (([v5.length] : List Nat) = [v5.length]) (L60_0 n (v4, v5, (w64 (v6 + 1))) s)) else (bif (y7.1 == 47) then ((n87 (v4, v5, v6, 1, v5.length)).bind fun y8 => (bif (y8.1 == 47) then (ask (([v5.length] : List Nat) = [v5.length]) ((L60_3 1000000000000 (v4, v5, v6) s).bind fun p16 => match p16.1 with | .x0 z17 z18 z19 => (ask (([z18.length] : List Nat) = [z18.length]) (L60_0 n (z17, z18, z19) p16.2)))) else (ask (([v5.length] : List Nat) = [v5.length]) (some (O60_0.x0 v4 v5 v6, s))))) else (ask (([v5.length] : List Nat) = [v5.length]) (some (O60_0.x0 v4 v5 v6, s)))))) else (ask (([v5.length] : List Nat) = [v5.length]) (some (O60_0.x1 v4 v5 v6, s))))
def dM60 (av : List AV) (bs : List Box) (ts : List Nat) : Option (ByteArray × List D × Int × Nat) := match av, bs, ts with
  | [.ptr 0 0], [.cells none [.d (.val (.string a0)), .osl 0 a1, .d (.val (.int .i64 a3))]], [k2] => some (a0, a1, a3, k2)
  | _, _, _ => none
def aM60 : (ByteArray × List D × Int × Nat) → List AV := fun (a0, a1, a3, k2) => [.ptr 0 0]
def bM60 : (ByteArray × List D × Int × Nat) → List Box := fun (a0, a1, a3, k2) => [.cells none [.d (.val (.string a0)), .osl 0 a1, .d (.val (.int .i64 a3))]]
def tM60 : (ByteArray × List D × Int × Nat) → List Nat := fun (a0, a1, a3, k2) => [k2]
def vM60 : (ByteArray × List D × Int × Nat) → AV := fun (p30, p31, p32, q33) => .tup []
def cM60 : (ByteArray × List D × Int × Nat) → List Box := fun (p30, p31, p32, q33) => [.cells none [.d (.val (.string p30)), .osl 0 p31, .d (.val (.int .i64 p32))]]
def kM60 : (ByteArray × List D × Int × Nat) → List Nat := fun (p30, p31, p32, q33) => [q33]
def rM60 (v : AV) (bs : List Box) (ts : List Nat) : Option (ByteArray × List D × Int × Nat) := match v, bs, ts with
  | .tup [], [.cells none [.d (.val (.string p30)), .osl 0 p31, .d (.val (.int .i64 p32))]], [q33] => some (p30, p31, p32, q33)
  | _, _, _ => none
def n60 : ByteArray × List D × Int × Nat → Option (ByteArray × List D × Int × Nat) := fun (a0, a1, a3, k2) => (ask (([k2] : List Nat) = [a1.length]) ((L60_0 1000000000000 (a0, a1, a3) ()).bind fun p26 => match p26.1 with | .x0 z27 z28 z29 => (some (z27, z28, z29, z28.length)) | .x1 z34 z35 z36 => (some (z34, z35, z36, z35.length))))
def g60 {σ : Type} : Nat → Option (SegE σ)
  | 3 => some (l60_3.seg σ (L60_3 1000000000000))
  | 0 => some (l60_0.seg σ (L60_0 1000000000000))
  | _ => none
theorem E60_3 {σ : Type} (Y : Yd σ) : ∀ n a (s : σ), L60_3 (n + 1) a s = evK (cfgOf Tryd.prog (tabsS7 gl) tS7) (toldOf tS7) Y (inlN (cfgOf Tryd.prog (tabsS7 gl) tS7) (toldOf tS7) Y) g60 60 (loopAt Tryd.f60 3) ((l60_3.toT σ).enc a s) (fun ex st' => l60_3.next (cfgOf Tryd.prog (tabsS7 gl) tS7) 60 3 (L60_3 n) ex st') := by
  intro n ⟨v9, v10, v11⟩ s
  kernel_rfl
theorem Q60_3 {σ : Type} (hl : LibFits2 gl) (Y : Yd σ) (rnd : Bool) : SegOk (cfgOf Tryd.prog (tabsS7 gl) tS7) (evFn (cfgOf Tryd.prog (tabsS7 gl) tS7) 9) 60 rnd Y (l60_3.seg σ (L60_3 1000000000000)) (.block 3 (.loop (loopAt Tryd.f60 3))) :=
  told_loop (okS7 hl) k60_3 (by kernel_rfl) (by kernel_rfl) (fun _ _ => rfl) (segs_no (by kernel_rfl)) (E60_3 Y)
theorem E60_0 {σ : Type} (Y : Yd σ) : ∀ n a (s : σ), L60_0 (n + 1) a s = evK (cfgOf Tryd.prog (tabsS7 gl) tS7) (toldOf tS7) Y (inlN (cfgOf Tryd.prog (tabsS7 gl) tS7) (toldOf tS7) Y) g60 60 (loopAt Tryd.f60 0) ((l60_0.toT σ).enc a s) (fun ex st' => l60_0.next (cfgOf Tryd.prog (tabsS7 gl) tS7) 60 0 (L60_0 n) ex st') := by
  intro n ⟨v4, v5, v6⟩ s
  kernel_rfl
theorem Q60_0 {σ : Type} (hl : LibFits2 gl) (Y : Yd σ) (rnd : Bool) : SegOk (cfgOf Tryd.prog (tabsS7 gl) tS7) (evFn (cfgOf Tryd.prog (tabsS7 gl) tS7) 9) 60 rnd Y (l60_0.seg σ (L60_0 1000000000000)) (.block 0 (.loop (loopAt Tryd.f60 0))) :=
  told_loop (okS7 hl) k60_0 (by kernel_rfl) (by kernel_rfl) (fun _ _ => rfl) (fun p hp e he => by
    have hq : segsOf (σ := σ) (g60 (σ := σ)) (loopAt Tryd.f60 0) = [(3, .loop (loopAt Tryd.f60 3))] := by kernel_rfl
    rw [hq] at hp
    simp only [List.mem_cons, List.not_mem_nil, or_false] at hp
    subst hp
    cases he
    exact Q60_3 hl _ _) (E60_0 Y)
theorem N60 : ∀ a, n60 a = bodyK (cfgOf Tryd.prog (tabsS7 gl) tS7) (toldOf tS7) noY (inlN (cfgOf Tryd.prog (tabsS7 gl) tS7) (toldOf tS7) noY) g60 60 Tryd.f60 (aM60 a) (bM60 a) (tM60 a) () (fun v b tk _ => rM60 v b tk) := by
  intro a
  obtain ⟨a0, a1, a3, k2⟩ := a
  kernel_rfl
theorem om60 (hl : LibFits2 gl) : OddSound Tryd.prog gl (fun g => bif Nat.beq g 60 then some (methE 60 dM60 n60 vM60 (fun _ => cM60) (fun _ => kM60)) else (tabsS7 gl).odd g) :=
  told_meth (t := tabsS7 gl) (okS7 hl) mixed (oddOkS7 hl) Tryd.func60 (by kernel_rfl) (by kernel_rfl) (argsOf := aM60) (boxOf := bM60) (tokOf := tM60) (res := fun _ => rM60) (by kernel_rfl) (fun p hp e he => by
    have hq : segsOf (σ := Unit) (g60 (σ := Unit)) (bodyOf Tryd.f60) = [(0, .loop (loopAt Tryd.f60 0))] := by kernel_rfl
    rw [hq] at hp
    simp only [List.mem_cons, List.not_mem_nil, or_false] at hp
    subst hp
    cases he
    exact Q60_0 hl _ _)
    (fun av bs ts a h => by
      unfold dM60 at h
      split at h
      · cases h; exact ⟨rfl, rfl, rfl⟩
      · cases h)
    (fun a v b tk o h => by
      unfold rM60 at h
      split at h
      · cases h; exact ⟨rfl, rfl, rfl⟩
      · cases h)
    N60
abbrev A89_0 := Int × ByteArray × List D × Int
inductive O89_0 where
  | x0 (o11 : Int) (o12 : ByteArray) (o13 : List D) (o14 : Int)
def l89_0 : LoopS A89_0 O89_0 where
  n := 38
  ks := [0, 3]
  kso := [0, 3]
  m := 1
  mt := 1
  decV := fun vs bs ts => match vs, bs, ts with
    | [.ptr 0 0, .d (.val (.int .i64 v5))], [.cells none [.d (.val (.string v6)), .osl 0 v7, .d (.val (.int .i64 v8))]], [_] => some (v5, v6, v7, v8)
    | _, _, _ => none
  encV := fun (v5, v6, v7, v8) => [.ptr 0 0, .d (.val (.int .i64 v5))]
  encB := fun (v5, v6, v7, v8) => [.cells none [.d (.val (.string v6)), .osl 0 v7, .d (.val (.int .i64 v8))]]
  tk := fun (v5, v6, v7, v8) => [v7.length]
  decO := fun ex vs bs ts => match ex, vs, bs, ts with
    | .normal, [.ptr 0 0, .d (.val (.int .i64 o11))], [.cells none [.d (.val (.string o12)), .osl 0 o13, .d (.val (.int .i64 o14))]], [_] => some (.x0 o11 o12 o13 o14)
    | _, _, _, _ => none
  exO := fun x => match x with
    | .x0 o11 o12 o13 o14 => .normal
  outV := fun x => match x with
    | .x0 o11 o12 o13 o14 => [.ptr 0 0, .d (.val (.int .i64 o11))]
  outB := fun x => match x with
    | .x0 o11 o12 o13 o14 => [.cells none [.d (.val (.string o12)), .osl 0 o13, .d (.val (.int .i64 o14))]]
  tkO := fun x => match x with
    | .x0 o11 o12 o13 o14 => [o13.length]
  elim := fun x k => match x with
    | .x0 o11 o12 o13 o14 => k .normal [.ptr 0 0, .d (.val (.int .i64 o11))] [.cells none [.d (.val (.string o12)), .osl 0 o13, .d (.val (.int .i64 o14))]] [o13.length]
theorem k89_0 : l89_0.Ok where
  ok1 := by kernel_rfl
  ok2 := by kernel_rfl
  dec := by
    intro vs bs ts a h
    simp only [l89_0] at h ⊢
    split at h
    · cases h; exact ⟨rfl, rfl⟩
    · cases h
  out := by
    intro ex vs bs ts o h
    simp only [l89_0] at h ⊢
    split at h
    · cases h; exact ⟨rfl, rfl, rfl⟩
    · cases h
  len := fun _ => ⟨rfl, rfl⟩
  elim := fun β o k => by cases o <;> rfl
def L89_0 {σ : Type} : Nat → A89_0 → σ → Option (O89_0 × σ)
  | 0, _, _ => none
  | n+1, (v5, v6, v7, v8), s => (bif (decide (v8 < ((v7.length : Nat) : Int))) then ((n87 (v6, v7, v8, 0, v7.length)).bind fun y9 => ((n109 y9.1).bind fun y10 => (bif y10 then (ask (([v7.length] : List Nat) = [v7.length]) (L89_0 n (v5, v6, v7, (w64 (v8 + 1))) s)) else (ask (([v7.length] : List Nat) = [v7.length]) (some (O89_0.x0 v5 v6 v7 v8, s)))))) else (ask (([v7.length] : List Nat) = [v7.length]) (some (O89_0.x0 v5 v6 v7 v8, s))))
def dM89 (av : List AV) (bs : List Box) (ts : List Nat) : Option (ByteArray × List D × Int × Nat) := match av, bs, ts with
  | [.ptr 0 0], [.cells none [.d (.val (.string a0)), .osl 0 a1, .d (.val (.int .i64 a3))]], [k2] => some (a0, a1, a3, k2)
  | _, _, _ => none
def aM89 : (ByteArray × List D × Int × Nat) → List AV := fun (a0, a1, a3, k2) => [.ptr 0 0]
def bM89 : (ByteArray × List D × Int × Nat) → List Box := fun (a0, a1, a3, k2) => [.cells none [.d (.val (.string a0)), .osl 0 a1, .d (.val (.int .i64 a3))]]
def tM89 : (ByteArray × List D × Int × Nat) → List Nat := fun (a0, a1, a3, k2) => [k2]
def vM89 : (ByteArray × ByteArray × List D × Int × Nat) → AV := fun (o21, p22, p23, p24, q25) => .d (.val (.string o21))
def cM89 : (ByteArray × ByteArray × List D × Int × Nat) → List Box := fun (o21, p22, p23, p24, q25) => [.cells none [.d (.val (.string p22)), .osl 0 p23, .d (.val (.int .i64 p24))]]
def kM89 : (ByteArray × ByteArray × List D × Int × Nat) → List Nat := fun (o21, p22, p23, p24, q25) => [q25]
def rM89 (v : AV) (bs : List Box) (ts : List Nat) : Option (ByteArray × ByteArray × List D × Int × Nat) := match v, bs, ts with
  | .d (.val (.string o21)), [.cells none [.d (.val (.string p22)), .osl 0 p23, .d (.val (.int .i64 p24))]], [q25] => some (o21, p22, p23, p24, q25)
  | _, _, _ => none
def n89 : ByteArray × List D × Int × Nat → Option (ByteArray × ByteArray × List D × Int × Nat) := fun (a0, a1, a3, k2) => ((n88 (a0, a1, a3, k2)).bind fun y4 => (ask (([k2] : List Nat) = [a1.length]) ((L89_0 1000000000000 (y4.1, a0, a1, a3) ()).bind fun p15 => match p15.1 with | .x0 z16 z17 z18 z19 => ((n88 (z17, z18, z19, z18.length)).bind fun y20 => (ask (cutOk z16 y20.1 z17.size) (some ((z17.extract (Int.toNat z16) (Int.toNat y20.1)), z17, z18, z19, z18.length)))))))
def g89 {σ : Type} : Nat → Option (SegE σ)
  | 0 => some (l89_0.seg σ (L89_0 1000000000000))
  | _ => none
theorem E89_0 {σ : Type} (Y : Yd σ) : ∀ n a (s : σ), L89_0 (n + 1) a s = evK (cfgOf Tryd.prog (tabsS7 gl) tS7) (toldOf tS7) Y (inlN (cfgOf Tryd.prog (tabsS7 gl) tS7) (toldOf tS7) Y) g89 89 (loopAt Tryd.f89 0) ((l89_0.toT σ).enc a s) (fun ex st' => l89_0.next (cfgOf Tryd.prog (tabsS7 gl) tS7) 89 0 (L89_0 n) ex st') := by
  intro n ⟨v5, v6, v7, v8⟩ s
  kernel_rfl
theorem Q89_0 {σ : Type} (hl : LibFits2 gl) (Y : Yd σ) (rnd : Bool) : SegOk (cfgOf Tryd.prog (tabsS7 gl) tS7) (evFn (cfgOf Tryd.prog (tabsS7 gl) tS7) 9) 89 rnd Y (l89_0.seg σ (L89_0 1000000000000)) (.block 0 (.loop (loopAt Tryd.f89 0))) :=
  told_loop (okS7 hl) k89_0 (by kernel_rfl) (by kernel_rfl) (fun _ _ => rfl) (segs_no (by kernel_rfl)) (E89_0 Y)
theorem N89 : ∀ a, n89 a = bodyK (cfgOf Tryd.prog (tabsS7 gl) tS7) (toldOf tS7) noY (inlN (cfgOf Tryd.prog (tabsS7 gl) tS7) (toldOf tS7) noY) g89 89 Tryd.f89 (aM89 a) (bM89 a) (tM89 a) () (fun v b tk _ => rM89 v b tk) := by
  intro a
  obtain ⟨a0, a1, a3, k2⟩ := a
  kernel_rfl
theorem om89 (hl : LibFits2 gl) : OddSound Tryd.prog gl (fun g => bif Nat.beq g 89 then some (methE 89 dM89 n89 vM89 (fun _ => cM89) (fun _ => kM89)) else (tabsS7 gl).odd g) :=
  told_meth (t := tabsS7 gl) (okS7 hl) mixed (oddOkS7 hl) Tryd.func89 (by kernel_rfl) (by kernel_rfl) (argsOf := aM89) (boxOf := bM89) (tokOf := tM89) (res := fun _ => rM89) (by kernel_rfl) (fun p hp e he => by
    have hq : segsOf (σ := Unit) (g89 (σ := Unit)) (bodyOf Tryd.f89) = [(0, .loop (loopAt Tryd.f89 0))] := by kernel_rfl
    rw [hq] at hp
    simp only [List.mem_cons, List.not_mem_nil, or_false] at hp
    subst hp
    cases he
    exact Q89_0 hl _ _)
    (fun av bs ts a h => by
      unfold dM89 at h
      split at h
      · cases h; exact ⟨rfl, rfl, rfl⟩
      · cases h)
    (fun a v b tk o h => by
      unfold rM89 at h
      split at h
      · cases h; exact ⟨rfl, rfl, rfl⟩
      · cases h)
    N89
abbrev A62_2 := ByteArray × List D × Int
inductive O62_2 where
  | x0 (o19 : ByteArray) (o20 : List D) (o21 : Int)
def l62_2 : LoopS A62_2 O62_2 where
  n := 85
  ks := [0]
  kso := [0]
  m := 1
  mt := 0
  decV := fun vs bs ts => match vs, bs, ts with
    | [.ptr 0 0], [.cells none [.d (.val (.string v13)), .d (.slice v14), .d (.val (.int .i64 v15))]], [] => some (v13, v14, v15)
    | _, _, _ => none
  encV := fun (v13, v14, v15) => [.ptr 0 0]
  encB := fun (v13, v14, v15) => [.cells none [.d (.val (.string v13)), .d (.slice v14), .d (.val (.int .i64 v15))]]
  tk := fun _ => []
  decO := fun ex vs bs ts => match ex, vs, bs, ts with
    | .normal, [.ptr 0 0], [.cells none [.d (.val (.string o19)), .d (.slice o20), .d (.val (.int .i64 o21))]], [] => some (.x0 o19 o20 o21)
    | _, _, _, _ => none
  exO := fun x => match x with
    | .x0 o19 o20 o21 => .normal
  outV := fun x => match x with
    | .x0 o19 o20 o21 => [.ptr 0 0]
  outB := fun x => match x with
    | .x0 o19 o20 o21 => [.cells none [.d (.val (.string o19)), .d (.slice o20), .d (.val (.int .i64 o21))]]
  tkO := fun x => match x with
    | .x0 o19 o20 o21 => []
  elim := fun x k => match x with
    | .x0 o19 o20 o21 => k .normal [.ptr 0 0] [.cells none [.d (.val (.string o19)), .d (.slice o20), .d (.val (.int .i64 o21))]] []
theorem k62_2 : l62_2.Ok where
  ok1 := by kernel_rfl
  ok2 := by kernel_rfl
  dec := by
    intro vs bs ts a h
    simp only [l62_2] at h ⊢
    split at h
    · cases h; exact ⟨rfl, rfl⟩
    · cases h
  out := by
    intro ex vs bs ts o h
    simp only [l62_2] at h ⊢
    split at h
    · cases h; exact ⟨rfl, rfl, rfl⟩
    · cases h
  len := fun _ => ⟨rfl, rfl⟩
  elim := fun β o k => by cases o <;> rfl
def L62_2 {σ : Type} : Nat → A62_2 → σ → Option (O62_2 × σ)
  | 0, _, _ => none
  | n+1, (v13, v14, v15), s => (bif (decide (v15 < ((v14.length : Nat) : Int))) then ((lidx v14 v15).bind fun d16 => ask (d16.cells.length = 3) ((cellAt 0 d16).bind fun x17 => (asInt .i64 x17).bind fun x18 => (bif (x18 != 10) then (L62_2 n (v13, v14, (w64 (v15 + 1))) s) else (some (O62_2.x0 v13 v14 v15, s))))) else (some (O62_2.x0 v13 v14 v15, s)))
abbrev A62_0 := ByteArray × List D × Int
inductive O62_0 where
  | x0 (o9 : ByteArray) (o10 : List D) (o11 : Int)
  | x1 (o26 : ByteArray) (o27 : List D) (o28 : Int)
def l62_0 : LoopS A62_0 O62_0 where
  n := 85
  ks := [0]
  kso := []
  m := 1
  mt := 0
  decV := fun vs bs ts => match vs, bs, ts with
    | [.ptr 0 0], [.cells none [.d (.val (.string v3)), .d (.slice v4), .d (.val (.int .i64 v5))]], [] => some (v3, v4, v5)
    | _, _, _ => none
  encV := fun (v3, v4, v5) => [.ptr 0 0]
  encB := fun (v3, v4, v5) => [.cells none [.d (.val (.string v3)), .d (.slice v4), .d (.val (.int .i64 v5))]]
  tk := fun _ => []
  decO := fun ex vs bs ts => match ex, vs, bs, ts with
    | .ret, [], [.cells none [.d (.val (.string o9)), .d (.slice o10), .d (.val (.int .i64 o11))]], [] => some (.x0 o9 o10 o11)
    | .normal, [], [.cells none [.d (.val (.string o26)), .d (.slice o27), .d (.val (.int .i64 o28))]], [] => some (.x1 o26 o27 o28)
    | _, _, _, _ => none
  exO := fun x => match x with
    | .x0 o9 o10 o11 => .ret
    | .x1 o26 o27 o28 => .normal
  outV := fun x => match x with
    | .x0 o9 o10 o11 => []
    | .x1 o26 o27 o28 => []
  outB := fun x => match x with
    | .x0 o9 o10 o11 => [.cells none [.d (.val (.string o9)), .d (.slice o10), .d (.val (.int .i64 o11))]]
    | .x1 o26 o27 o28 => [.cells none [.d (.val (.string o26)), .d (.slice o27), .d (.val (.int .i64 o28))]]
  tkO := fun x => match x with
    | .x0 o9 o10 o11 => []
    | .x1 o26 o27 o28 => []
  elim := fun x k => match x with
    | .x0 o9 o10 o11 => k .ret [] [.cells none [.d (.val (.string o9)), .d (.slice o10), .d (.val (.int .i64 o11))]] []
    | .x1 o26 o27 o28 => k .normal [] [.cells none [.d (.val (.string o26)), .d (.slice o27), .d (.val (.int .i64 o28))]] []
theorem k62_0 : l62_0.Ok where
  ok1 := by kernel_rfl
  ok2 := by kernel_rfl
  dec := by
    intro vs bs ts a h
    simp only [l62_0] at h ⊢
    split at h
    · cases h; exact ⟨rfl, rfl⟩
    · cases h
  out := by
    intro ex vs bs ts o h
    simp only [l62_0] at h ⊢
    split at h
    · cases h; exact ⟨rfl, rfl, rfl⟩
    · cases h; exact ⟨rfl, rfl, rfl⟩
    · cases h
  len := fun _ => ⟨rfl, rfl⟩
  elim := fun β o k => by cases o <;> rfl
def L62_0 {σ : Type} : Nat → A62_0 → σ → Option (O62_0 × σ)
  | 0, _, _ => none
  | n+1, (v3, v4, v5), s => (bif (decide (v5 < ((v4.length : Nat) : Int))) then ((lidx v4 v5).bind fun d6 => ask (d6.cells.length = 3) ((cellAt 0 d6).bind fun x7 => (asInt .i64 x7).bind fun x8 => (bif (bif (bif (bif (x8 == 32) then true else (x8 == 9)) then true else (x8 == 10)) then true else (x8 == 13)) then (L62_0 n (v3, v4, (w64 (v5 + 1))) s) else (bif (x8 != 47) then (some (O62_0.x0 v3 v4 v5, s)) else ((n92 (v3, v4, v5, 1, 47)).bind fun y12 => (bif (!y12.1) then (some (O62_0.x0 v3 v4 v5, s)) else ((L62_2 1000000000000 (v3, v4, v5) s).bind fun p22 => match p22.1 with | .x0 z23 z24 z25 => (L62_0 n (z23, z24, z25) p22.2)))))))) else (some (O62_0.x1 v3 v4 v5, s)))
def dM62 (av : List AV) (bs : List Box) (ts : List Nat) : Option (ByteArray × List D × Int) := match av, bs, ts with
  | [.ptr 0 0], [.cells none [.d (.val (.string a0)), .d (.slice a1), .d (.val (.int .i64 a2))]], [] => some (a0, a1, a2)
  | _, _, _ => none
def aM62 : (ByteArray × List D × Int) → List AV := fun (a0, a1, a2) => [.ptr 0 0]
def bM62 : (ByteArray × List D × Int) → List Box := fun (a0, a1, a2) => [.cells none [.d (.val (.string a0)), .d (.slice a1), .d (.val (.int .i64 a2))]]
def tM62 : (ByteArray × List D × Int) → List Nat := fun (a0, a1, a2) => []
def vM62 : (ByteArray × List D × Int) → AV := fun (p33, p34, p35) => .tup []
def cM62 : (ByteArray × List D × Int) → List Box := fun (p33, p34, p35) => [.cells none [.d (.val (.string p33)), .d (.slice p34), .d (.val (.int .i64 p35))]]
def kM62 : (ByteArray × List D × Int) → List Nat := fun (p33, p34, p35) => []
def rM62 (v : AV) (bs : List Box) (ts : List Nat) : Option (ByteArray × List D × Int) := match v, bs, ts with
  | .tup [], [.cells none [.d (.val (.string p33)), .d (.slice p34), .d (.val (.int .i64 p35))]], [] => some (p33, p34, p35)
  | _, _, _ => none
def n62 : ByteArray × List D × Int → Option (ByteArray × List D × Int) := fun (a0, a1, a2) => ((L62_0 1000000000000 (a0, a1, a2) ()).bind fun p29 => match p29.1 with | .x0 z30 z31 z32 => (some (z30, z31, z32)) | .x1 z36 z37 z38 => (some (z36, z37, z38)))
def g62 {σ : Type} : Nat → Option (SegE σ)
  | 2 => some (l62_2.seg σ (L62_2 1000000000000))
  | 0 => some (l62_0.seg σ (L62_0 1000000000000))
  | _ => none
theorem E62_2 {σ : Type} (Y : Yd σ) : ∀ n a (s : σ), L62_2 (n + 1) a s = evK (cfgOf Tryd.prog (tabsS7 gl) tS7) (toldOf tS7) Y (inlN (cfgOf Tryd.prog (tabsS7 gl) tS7) (toldOf tS7) Y) g62 62 (loopAt Tryd.f62 2) ((l62_2.toT σ).enc a s) (fun ex st' => l62_2.next (cfgOf Tryd.prog (tabsS7 gl) tS7) 62 2 (L62_2 n) ex st') := by
  intro n ⟨v13, v14, v15⟩ s
  kernel_rfl
theorem Q62_2 {σ : Type} (hl : LibFits2 gl) (Y : Yd σ) (rnd : Bool) : SegOk (cfgOf Tryd.prog (tabsS7 gl) tS7) (evFn (cfgOf Tryd.prog (tabsS7 gl) tS7) 9) 62 rnd Y (l62_2.seg σ (L62_2 1000000000000)) (.block 2 (.loop (loopAt Tryd.f62 2))) :=
  told_loop (okS7 hl) k62_2 (by kernel_rfl) (by kernel_rfl) (fun _ _ => rfl) (segs_no (by kernel_rfl)) (E62_2 Y)
theorem E62_0 {σ : Type} (Y : Yd σ) : ∀ n a (s : σ), L62_0 (n + 1) a s = evK (cfgOf Tryd.prog (tabsS7 gl) tS7) (toldOf tS7) Y (inlN (cfgOf Tryd.prog (tabsS7 gl) tS7) (toldOf tS7) Y) g62 62 (loopAt Tryd.f62 0) ((l62_0.toT σ).enc a s) (fun ex st' => l62_0.next (cfgOf Tryd.prog (tabsS7 gl) tS7) 62 0 (L62_0 n) ex st') := by
  intro n ⟨v3, v4, v5⟩ s
  kernel_rfl
theorem Q62_0 {σ : Type} (hl : LibFits2 gl) (Y : Yd σ) (rnd : Bool) : SegOk (cfgOf Tryd.prog (tabsS7 gl) tS7) (evFn (cfgOf Tryd.prog (tabsS7 gl) tS7) 9) 62 rnd Y (l62_0.seg σ (L62_0 1000000000000)) (.block 0 (.loop (loopAt Tryd.f62 0))) :=
  told_loop (okS7 hl) k62_0 (by kernel_rfl) (by kernel_rfl) (fun _ _ => rfl) (fun p hp e he => by
    have hq : segsOf (σ := σ) (g62 (σ := σ)) (loopAt Tryd.f62 0) = [(2, .loop (loopAt Tryd.f62 2))] := by kernel_rfl
    rw [hq] at hp
    simp only [List.mem_cons, List.not_mem_nil, or_false] at hp
    subst hp
    cases he
    exact Q62_2 hl _ _) (E62_0 Y)
theorem N62 : ∀ a, n62 a = bodyK (cfgOf Tryd.prog (tabsS7 gl) tS7) (toldOf tS7) noY (inlN (cfgOf Tryd.prog (tabsS7 gl) tS7) (toldOf tS7) noY) g62 62 Tryd.f62 (aM62 a) (bM62 a) (tM62 a) () (fun v b tk _ => rM62 v b tk) := by
  intro a
  obtain ⟨a0, a1, a2⟩ := a
  kernel_rfl
theorem om62 (hl : LibFits2 gl) : OddSound Tryd.prog gl (fun g => bif Nat.beq g 62 then some (methE 62 dM62 n62 vM62 (fun _ => cM62) (fun _ => kM62)) else (tabsS7 gl).odd g) :=
  told_meth (t := tabsS7 gl) (okS7 hl) mixed (oddOkS7 hl) Tryd.func62 (by kernel_rfl) (by kernel_rfl) (argsOf := aM62) (boxOf := bM62) (tokOf := tM62) (res := fun _ => rM62) (by kernel_rfl) (fun p hp e he => by
    have hq : segsOf (σ := Unit) (g62 (σ := Unit)) (bodyOf Tryd.f62) = [(0, .loop (loopAt Tryd.f62 0))] := by kernel_rfl
    rw [hq] at hp
    simp only [List.mem_cons, List.not_mem_nil, or_false] at hp
    subst hp
    cases he
    exact Q62_0 hl _ _)
    (fun av bs ts a h => by
      unfold dM62 at h
      split at h
      · cases h; exact ⟨rfl, rfl, rfl⟩
      · cases h)
    (fun a v b tk o h => by
      unfold rM62 at h
      split at h
      · cases h; exact ⟨rfl, rfl, rfl⟩
      · cases h)
    N62
abbrev A94_0 := Int × Int × ByteArray × List D × Int
inductive O94_0 where
  | x0 (o13 : Int) (o14 : Int) (o15 : ByteArray) (o16 : List D) (o17 : Int)
def l94_0 : LoopS A94_0 O94_0 where
  n := 72
  ks := [0, 1, 5]
  kso := [0, 1, 5]
  m := 1
  mt := 0
  decV := fun vs bs ts => match vs, bs, ts with
    | [.ptr 0 0, .d (.val (.int .i64 v4)), .d (.val (.int .i64 v5))], [.cells none [.d (.val (.string v6)), .d (.slice v7), .d (.val (.int .i64 v8))]], [] => some (v4, v5, v6, v7, v8)
    | _, _, _ => none
  encV := fun (v4, v5, v6, v7, v8) => [.ptr 0 0, .d (.val (.int .i64 v4)), .d (.val (.int .i64 v5))]
  encB := fun (v4, v5, v6, v7, v8) => [.cells none [.d (.val (.string v6)), .d (.slice v7), .d (.val (.int .i64 v8))]]
  tk := fun _ => []
  decO := fun ex vs bs ts => match ex, vs, bs, ts with
    | .normal, [.ptr 0 0, .d (.val (.int .i64 o13)), .d (.val (.int .i64 o14))], [.cells none [.d (.val (.string o15)), .d (.slice o16), .d (.val (.int .i64 o17))]], [] => some (.x0 o13 o14 o15 o16 o17)
    | _, _, _, _ => none
  exO := fun x => match x with
    | .x0 o13 o14 o15 o16 o17 => .normal
  outV := fun x => match x with
    | .x0 o13 o14 o15 o16 o17 => [.ptr 0 0, .d (.val (.int .i64 o13)), .d (.val (.int .i64 o14))]
  outB := fun x => match x with
    | .x0 o13 o14 o15 o16 o17 => [.cells none [.d (.val (.string o15)), .d (.slice o16), .d (.val (.int .i64 o17))]]
  tkO := fun x => match x with
    | .x0 o13 o14 o15 o16 o17 => []
  elim := fun x k => match x with
    | .x0 o13 o14 o15 o16 o17 => k .normal [.ptr 0 0, .d (.val (.int .i64 o13)), .d (.val (.int .i64 o14))] [.cells none [.d (.val (.string o15)), .d (.slice o16), .d (.val (.int .i64 o17))]] []
theorem k94_0 : l94_0.Ok where
  ok1 := by kernel_rfl
  ok2 := by kernel_rfl
  dec := by
    intro vs bs ts a h
    simp only [l94_0] at h ⊢
    split at h
    · cases h; exact ⟨rfl, rfl⟩
    · cases h
  out := by
    intro ex vs bs ts o h
    simp only [l94_0] at h ⊢
    split at h
    · cases h; exact ⟨rfl, rfl, rfl⟩
    · cases h
  len := fun _ => ⟨rfl, rfl⟩
  elim := fun β o k => by cases o <;> rfl
def L94_0 {σ : Type} : Nat → A94_0 → σ → Option (O94_0 × σ)
  | 0, _, _ => none
  | n+1, (v4, v5, v6, v7, v8), s => (bif (decide (v5 < ((v7.length : Nat) : Int))) then ((lidx v7 v5).bind fun d9 => ask (d9.cells.length = 3) ((cellAt 0 d9).bind fun x10 => (asInt .i64 x10).bind fun x11 => ((n72 x11).bind fun y12 => (bif y12 then (L94_0 n (v4, (w64 (v5 + 1)), v6, v7, v8) s) else (some (O94_0.x0 v4 v5 v6 v7 v8, s)))))) else (some (O94_0.x0 v4 v5 v6 v7 v8, s)))
abbrev A94_2 := Int × ByteArray × Int × ByteArray × List D × Int
inductive O94_2 where
  | x0 (o39 : Int) (o40 : ByteArray) (o41 : ByteArray) (o42 : List D) (o43 : Int)
def l94_2 : LoopS A94_2 O94_2 where
  n := 72
  ks := [0, 5, 6, 7]
  kso := [0, 5, 6]
  m := 1
  mt := 0
  decV := fun vs bs ts => match vs, bs, ts with
    | [.ptr 0 0, .d (.val (.int .i64 v24)), .d (.val (.string v25)), .d (.val (.int .i64 v26))], [.cells none [.d (.val (.string v27)), .d (.slice v28), .d (.val (.int .i64 v29))]], [] => some (v24, v25, v26, v27, v28, v29)
    | _, _, _ => none
  encV := fun (v24, v25, v26, v27, v28, v29) => [.ptr 0 0, .d (.val (.int .i64 v24)), .d (.val (.string v25)), .d (.val (.int .i64 v26))]
  encB := fun (v24, v25, v26, v27, v28, v29) => [.cells none [.d (.val (.string v27)), .d (.slice v28), .d (.val (.int .i64 v29))]]
  tk := fun _ => []
  decO := fun ex vs bs ts => match ex, vs, bs, ts with
    | .normal, [.ptr 0 0, .d (.val (.int .i64 o39)), .d (.val (.string o40))], [.cells none [.d (.val (.string o41)), .d (.slice o42), .d (.val (.int .i64 o43))]], [] => some (.x0 o39 o40 o41 o42 o43)
    | _, _, _, _ => none
  exO := fun x => match x with
    | .x0 o39 o40 o41 o42 o43 => .normal
  outV := fun x => match x with
    | .x0 o39 o40 o41 o42 o43 => [.ptr 0 0, .d (.val (.int .i64 o39)), .d (.val (.string o40))]
  outB := fun x => match x with
    | .x0 o39 o40 o41 o42 o43 => [.cells none [.d (.val (.string o41)), .d (.slice o42), .d (.val (.int .i64 o43))]]
  tkO := fun x => match x with
    | .x0 o39 o40 o41 o42 o43 => []
  elim := fun x k => match x with
    | .x0 o39 o40 o41 o42 o43 => k .normal [.ptr 0 0, .d (.val (.int .i64 o39)), .d (.val (.string o40))] [.cells none [.d (.val (.string o41)), .d (.slice o42), .d (.val (.int .i64 o43))]] []
theorem k94_2 : l94_2.Ok where
  ok1 := by kernel_rfl
  ok2 := by kernel_rfl
  dec := by
    intro vs bs ts a h
    simp only [l94_2] at h ⊢
    split at h
    · cases h; exact ⟨rfl, rfl⟩
    · cases h
  out := by
    intro ex vs bs ts o h
    simp only [l94_2] at h ⊢
    split at h
    · cases h; exact ⟨rfl, rfl, rfl⟩
    · cases h
  len := fun _ => ⟨rfl, rfl⟩
  elim := fun β o k => by cases o <;> rfl
def L94_2 {σ : Type} : Nat → A94_2 → σ → Option (O94_2 × σ)
  | 0, _, _ => none
  | n+1, (v24, v25, v26, v27, v28, v29), s => (bif (decide (v26 < v24)) then ((lidx v28 v26).bind fun d30 => ask (d30.cells.length = 3) ((cellAt 1 d30).bind fun x31 => (asInt .i64 x31).bind fun x32 => ((lidx v28 v26).bind fun d33 => ask (d33.cells.length = 3) ((cellAt 1 d33).bind fun x34 => (asInt .i64 x34).bind fun x35 => ((lidx v28 v26).bind fun d36 => ask (d36.cells.length = 3) ((cellAt 2 d36).bind fun x37 => (asInt .i64 x37).bind fun x38 => (ask (cutOk x32 (w64 (x35 + x38)) v27.size) (ask (catOk v25 (v27.extract (Int.toNat x32) (Int.toNat (w64 (x35 + x38))))) (L94_2 n (v24, (v25 ++ (v27.extract (Int.toNat x32) (Int.toNat (w64 (x35 + x38))))), (w64 (v26 + 1)), v27, v28, v29) s))))))))) else (some (O94_2.x0 v24 v25 v27 v28 v29, s)))
def dM94 (av : List AV) (bs : List Box) (ts : List Nat) : Option (ByteArray × List D × Int × Int) := match av, bs, ts with
  | [.ptr 0 0, .d (.val (.int .i64 a3))], [.cells none [.d (.val (.string a0)), .d (.slice a1), .d (.val (.int .i64 a2))]], [] => some (a0, a1, a2, a3)
  | _, _, _ => none
def aM94 : (ByteArray × List D × Int × Int) → List AV := fun (a0, a1, a2, a3) => [.ptr 0 0, .d (.val (.int .i64 a3))]
def bM94 : (ByteArray × List D × Int × Int) → List Box := fun (a0, a1, a2, a3) => [.cells none [.d (.val (.string a0)), .d (.slice a1), .d (.val (.int .i64 a2))]]
def tM94 : (ByteArray × List D × Int × Int) → List Nat := fun (a0, a1, a2, a3) => []
def vM94 : (ByteArray × ByteArray × List D × Int) → AV := fun (o50, p51, p52, p53) => .d (.val (.string o50))
def cM94 : (ByteArray × ByteArray × List D × Int) → List Box := fun (o50, p51, p52, p53) => [.cells none [.d (.val (.string p51)), .d (.slice p52), .d (.val (.int .i64 p53))]]
def kM94 : (ByteArray × ByteArray × List D × Int) → List Nat := fun (o50, p51, p52, p53) => []
def rM94 (v : AV) (bs : List Box) (ts : List Nat) : Option (ByteArray × ByteArray × List D × Int) := match v, bs, ts with
  | .d (.val (.string o50)), [.cells none [.d (.val (.string p51)), .d (.slice p52), .d (.val (.int .i64 p53))]], [] => some (o50, p51, p52, p53)
  | _, _, _ => none
def n94 : ByteArray × List D × Int × Int → Option (ByteArray × ByteArray × List D × Int) := fun (a0, a1, a2, a3) => ((L94_0 1000000000000 (a3, a3, a0, a1, a2) ()).bind fun p18 => match p18.1 with | .x0 z19 z20 z21 z22 z23 => ((L94_2 1000000000000 (z20, (⟨#[]⟩ : ByteArray), z19, z21, z22, z23) p18.2).bind fun p44 => match p44.1 with | .x0 z45 z46 z47 z48 z49 => (some (z46, z47, z48, z45))))
def g94 {σ : Type} : Nat → Option (SegE σ)
  | 0 => some (l94_0.seg σ (L94_0 1000000000000))
  | 2 => some (l94_2.seg σ (L94_2 1000000000000))
  | _ => none
theorem E94_0 {σ : Type} (Y : Yd σ) : ∀ n a (s : σ), L94_0 (n + 1) a s = evK (cfgOf Tryd.prog (tabsS7 gl) tS7) (toldOf tS7) Y (inlN (cfgOf Tryd.prog (tabsS7 gl) tS7) (toldOf tS7) Y) g94 94 (loopAt Tryd.f94 0) ((l94_0.toT σ).enc a s) (fun ex st' => l94_0.next (cfgOf Tryd.prog (tabsS7 gl) tS7) 94 0 (L94_0 n) ex st') := by
  intro n ⟨v4, v5, v6, v7, v8⟩ s
  kernel_rfl
theorem Q94_0 {σ : Type} (hl : LibFits2 gl) (Y : Yd σ) (rnd : Bool) : SegOk (cfgOf Tryd.prog (tabsS7 gl) tS7) (evFn (cfgOf Tryd.prog (tabsS7 gl) tS7) 9) 94 rnd Y (l94_0.seg σ (L94_0 1000000000000)) (.block 0 (.loop (loopAt Tryd.f94 0))) :=
  told_loop (okS7 hl) k94_0 (by kernel_rfl) (by kernel_rfl) (fun _ _ => rfl) (segs_no (by kernel_rfl)) (E94_0 Y)
theorem E94_2 {σ : Type} (Y : Yd σ) : ∀ n a (s : σ), L94_2 (n + 1) a s = evK (cfgOf Tryd.prog (tabsS7 gl) tS7) (toldOf tS7) Y (inlN (cfgOf Tryd.prog (tabsS7 gl) tS7) (toldOf tS7) Y) g94 94 (loopAt Tryd.f94 2) ((l94_2.toT σ).enc a s) (fun ex st' => l94_2.next (cfgOf Tryd.prog (tabsS7 gl) tS7) 94 2 (L94_2 n) ex st') := by
  intro n ⟨v24, v25, v26, v27, v28, v29⟩ s
  kernel_rfl
theorem Q94_2 {σ : Type} (hl : LibFits2 gl) (Y : Yd σ) (rnd : Bool) : SegOk (cfgOf Tryd.prog (tabsS7 gl) tS7) (evFn (cfgOf Tryd.prog (tabsS7 gl) tS7) 9) 94 rnd Y (l94_2.seg σ (L94_2 1000000000000)) (.block 2 (.loop (loopAt Tryd.f94 2))) :=
  told_loop (okS7 hl) k94_2 (by kernel_rfl) (by kernel_rfl) (fun _ _ => rfl) (segs_no (by kernel_rfl)) (E94_2 Y)
theorem N94 : ∀ a, n94 a = bodyK (cfgOf Tryd.prog (tabsS7 gl) tS7) (toldOf tS7) noY (inlN (cfgOf Tryd.prog (tabsS7 gl) tS7) (toldOf tS7) noY) g94 94 Tryd.f94 (aM94 a) (bM94 a) (tM94 a) () (fun v b tk _ => rM94 v b tk) := by
  intro a
  obtain ⟨a0, a1, a2, a3⟩ := a
  kernel_rfl
theorem om94 (hl : LibFits2 gl) : OddSound Tryd.prog gl (fun g => bif Nat.beq g 94 then some (methE 94 dM94 n94 vM94 (fun _ => cM94) (fun _ => kM94)) else (tabsS7 gl).odd g) :=
  told_meth (t := tabsS7 gl) (okS7 hl) mixed (oddOkS7 hl) Tryd.func94 (by kernel_rfl) (by kernel_rfl) (argsOf := aM94) (boxOf := bM94) (tokOf := tM94) (res := fun _ => rM94) (by kernel_rfl) (fun p hp e he => by
    have hq : segsOf (σ := Unit) (g94 (σ := Unit)) (bodyOf Tryd.f94) = [(0, .loop (loopAt Tryd.f94 0)), (2, .loop (loopAt Tryd.f94 2))] := by kernel_rfl
    rw [hq] at hp
    simp only [List.mem_cons, List.not_mem_nil, or_false] at hp
    rcases hp with rfl | rfl
    · cases he; exact Q94_0 hl _ _
    · cases he; exact Q94_2 hl _ _
    )
    (fun av bs ts a h => by
      unfold dM94 at h
      split at h
      · cases h; exact ⟨rfl, rfl, rfl⟩
      · cases h)
    (fun a v b tk o h => by
      unfold rM94 at h
      split at h
      · cases h; exact ⟨rfl, rfl, rfl⟩
      · cases h)
    N94
def dM95 (av : List AV) (bs : List Box) (ts : List Nat) : Option (ByteArray × List D × Int × Int) := match av, bs, ts with
  | [.ptr 0 0, .d (.val (.int .i64 a3))], [.cells none [.d (.val (.string a0)), .d (.slice a1), .d (.val (.int .i64 a2))]], [] => some (a0, a1, a2, a3)
  | _, _, _ => none
def aM95 : (ByteArray × List D × Int × Int) → List AV := fun (a0, a1, a2, a3) => [.ptr 0 0, .d (.val (.int .i64 a3))]
def bM95 : (ByteArray × List D × Int × Int) → List Box := fun (a0, a1, a2, a3) => [.cells none [.d (.val (.string a0)), .d (.slice a1), .d (.val (.int .i64 a2))]]
def tM95 : (ByteArray × List D × Int × Int) → List Nat := fun (a0, a1, a2, a3) => []
def vM95 : (Bool × ByteArray × List D × Int) → AV := fun (o8, p9, p10, p11) => .d (.val (.bool o8))
def cM95 : (Bool × ByteArray × List D × Int) → List Box := fun (o8, p9, p10, p11) => [.cells none [.d (.val (.string p9)), .d (.slice p10), .d (.val (.int .i64 p11))]]
def kM95 : (Bool × ByteArray × List D × Int) → List Nat := fun (o8, p9, p10, p11) => []
def rM95 (v : AV) (bs : List Box) (ts : List Nat) : Option (Bool × ByteArray × List D × Int) := match v, bs, ts with
  | .d (.val (.bool o8)), [.cells none [.d (.val (.string p9)), .d (.slice p10), .d (.val (.int .i64 p11))]], [] => some (o8, p9, p10, p11)
  | _, _, _ => none
def n95 : ByteArray × List D × Int × Int → Option (Bool × ByteArray × List D × Int) := fun (a0, a1, a2, a3) => (bif (decide ((w64 (a2 + a3)) < ((a1.length : Nat) : Int))) then ((lidx a1 (w64 (a2 + a3))).bind fun d4 => ask (d4.cells.length = 3) ((cellAt 0 d4).bind fun x5 => (asInt .i64 x5).bind fun x6 => ((n38 x6).bind fun y7 => (some (y7, a0, a1, a2))))) else (some (false, a0, a1, a2)))
def g95 {σ : Type} : Nat → Option (SegE σ)
  | _ => none
theorem N95 : ∀ a, n95 a = bodyK (cfgOf Tryd.prog (tabsS7 gl) tS7) (toldOf tS7) noY (inlN (cfgOf Tryd.prog (tabsS7 gl) tS7) (toldOf tS7) noY) g95 95 Tryd.f95 (aM95 a) (bM95 a) (tM95 a) () (fun v b tk _ => rM95 v b tk) := by
  intro a
  obtain ⟨a0, a1, a2, a3⟩ := a
  kernel_rfl
theorem om95 (hl : LibFits2 gl) : OddSound Tryd.prog gl (fun g => bif Nat.beq g 95 then some (methE 95 dM95 n95 vM95 (fun _ => cM95) (fun _ => kM95)) else (tabsS7 gl).odd g) :=
  told_meth (t := tabsS7 gl) (okS7 hl) mixed (oddOkS7 hl) Tryd.func95 (by kernel_rfl) (by kernel_rfl) (argsOf := aM95) (boxOf := bM95) (tokOf := tM95) (res := fun _ => rM95) (by kernel_rfl) (segs_no (by kernel_rfl))
    (fun av bs ts a h => by
      unfold dM95 at h
      split at h
      · cases h; exact ⟨rfl, rfl, rfl⟩
      · cases h)
    (fun a v b tk o h => by
      unfold rM95 at h
      split at h
      · cases h; exact ⟨rfl, rfl, rfl⟩
      · cases h)
    N95
abbrev A96_0 := Int × List D × Int × ByteArray × List D × Int
inductive O96_0 where
  | x0 (o22 : ByteArray) (o23 : ByteArray) (o24 : List D) (o25 : Int)
  | x1 (o26 : ByteArray) (o27 : List D) (o28 : Int)
def l96_0 : LoopS A96_0 O96_0 where
  n := 59
  ks := [0, 3, 4, 5]
  kso := [2]
  m := 1
  mt := 0
  decV := fun vs bs ts => match vs, bs, ts with
    | [.ptr 0 0, .d (.val (.int .i64 v7)), .d (.slice v8), .d (.val (.int .i64 v9))], [.cells none [.d (.val (.string v10)), .d (.slice v11), .d (.val (.int .i64 v12))]], [] => some (v7, v8, v9, v10, v11, v12)
    | _, _, _ => none
  encV := fun (v7, v8, v9, v10, v11, v12) => [.ptr 0 0, .d (.val (.int .i64 v7)), .d (.slice v8), .d (.val (.int .i64 v9))]
  encB := fun (v7, v8, v9, v10, v11, v12) => [.cells none [.d (.val (.string v10)), .d (.slice v11), .d (.val (.int .i64 v12))]]
  tk := fun _ => []
  decO := fun ex vs bs ts => match ex, vs, bs, ts with
    | .ret, [.d (.val (.string o22))], [.cells none [.d (.val (.string o23)), .d (.slice o24), .d (.val (.int .i64 o25))]], [] => some (.x0 o22 o23 o24 o25)
    | .normal, [.undef], [.cells none [.d (.val (.string o26)), .d (.slice o27), .d (.val (.int .i64 o28))]], [] => some (.x1 o26 o27 o28)
    | _, _, _, _ => none
  exO := fun x => match x with
    | .x0 o22 o23 o24 o25 => .ret
    | .x1 o26 o27 o28 => .normal
  outV := fun x => match x with
    | .x0 o22 o23 o24 o25 => [.d (.val (.string o22))]
    | .x1 o26 o27 o28 => [.undef]
  outB := fun x => match x with
    | .x0 o22 o23 o24 o25 => [.cells none [.d (.val (.string o23)), .d (.slice o24), .d (.val (.int .i64 o25))]]
    | .x1 o26 o27 o28 => [.cells none [.d (.val (.string o26)), .d (.slice o27), .d (.val (.int .i64 o28))]]
  tkO := fun x => match x with
    | .x0 o22 o23 o24 o25 => []
    | .x1 o26 o27 o28 => []
  elim := fun x k => match x with
    | .x0 o22 o23 o24 o25 => k .ret [.d (.val (.string o22))] [.cells none [.d (.val (.string o23)), .d (.slice o24), .d (.val (.int .i64 o25))]] []
    | .x1 o26 o27 o28 => k .normal [.undef] [.cells none [.d (.val (.string o26)), .d (.slice o27), .d (.val (.int .i64 o28))]] []
theorem k96_0 : l96_0.Ok where
  ok1 := by kernel_rfl
  ok2 := by kernel_rfl
  dec := by
    intro vs bs ts a h
    simp only [l96_0] at h ⊢
    split at h
    · cases h; exact ⟨rfl, rfl⟩
    · cases h
  out := by
    intro ex vs bs ts o h
    simp only [l96_0] at h ⊢
    split at h
    · cases h; exact ⟨rfl, rfl, rfl⟩
    · cases h; exact ⟨rfl, rfl, rfl⟩
    · cases h
  len := fun _ => ⟨rfl, rfl⟩
  elim := fun β o k => by cases o <;> rfl
def L96_0 {σ : Type} : Nat → A96_0 → σ → Option (O96_0 × σ)
  | 0, _, _ => none
  | n+1, (v7, v8, v9, v10, v11, v12), s => (bif (decide (v9 < ((v8.length : Nat) : Int))) then ((lidx v8 v9).bind fun d13 => ask (d13.cells.length = 1) ((cellAt 0 d13).bind fun x14 => (asStr x14).bind fun x15 => (bif (decide ((w64 (v7 + (x15.size : Int))) ≤ (v10.size : Int))) then (ask (cutOk v7 (w64 (v7 + (x15.size : Int))) v10.size) ((lidx v8 v9).bind fun d16 => ask (d16.cells.length = 1) ((cellAt 0 d16).bind fun x17 => (asStr x17).bind fun x18 => (bif (sEq (v10.extract (Int.toNat v7) (Int.toNat (w64 (v7 + (x15.size : Int))))) x18) then ((lidx v8 v9).bind fun d19 => ask (d19.cells.length = 1) ((cellAt 0 d19).bind fun x20 => (asStr x20).bind fun x21 => (some (O96_0.x0 x21 v10 v11 v12, s)))) else (L96_0 n (v7, v8, (w64 (v9 + 1)), v10, v11, v12) s))))) else (L96_0 n (v7, v8, (w64 (v9 + 1)), v10, v11, v12) s)))) else (some (O96_0.x1 v10 v11 v12, s)))
def dM96 (av : List AV) (bs : List Box) (ts : List Nat) : Option (ByteArray × List D × Int) := match av, bs, ts with
  | [.ptr 0 0], [.cells none [.d (.val (.string a0)), .d (.slice a1), .d (.val (.int .i64 a2))]], [] => some (a0, a1, a2)
  | _, _, _ => none
def aM96 : (ByteArray × List D × Int) → List AV := fun (a0, a1, a2) => [.ptr 0 0]
def bM96 : (ByteArray × List D × Int) → List Box := fun (a0, a1, a2) => [.cells none [.d (.val (.string a0)), .d (.slice a1), .d (.val (.int .i64 a2))]]
def tM96 : (ByteArray × List D × Int) → List Nat := fun (a0, a1, a2) => []
def vM96 : (ByteArray × ByteArray × List D × Int) → AV := fun (o34, p35, p36, p37) => .d (.val (.string o34))
def cM96 : (ByteArray × ByteArray × List D × Int) → List Box := fun (o34, p35, p36, p37) => [.cells none [.d (.val (.string p35)), .d (.slice p36), .d (.val (.int .i64 p37))]]
def kM96 : (ByteArray × ByteArray × List D × Int) → List Nat := fun (o34, p35, p36, p37) => []
def rM96 (v : AV) (bs : List Box) (ts : List Nat) : Option (ByteArray × ByteArray × List D × Int) := match v, bs, ts with
  | .d (.val (.string o34)), [.cells none [.d (.val (.string p35)), .d (.slice p36), .d (.val (.int .i64 p37))]], [] => some (o34, p35, p36, p37)
  | _, _, _ => none
def n96 : ByteArray × List D × Int → Option (ByteArray × ByteArray × List D × Int) := fun (a0, a1, a2) => ((lidx a1 a2).bind fun d3 => ask (d3.cells.length = 3) ((cellAt 1 d3).bind fun x4 => (asInt .i64 x4).bind fun x5 => ((n112 ()).bind fun y6 => ((L96_0 1000000000000 (x5, y6, 0, a0, a1, a2) ()).bind fun p29 => match p29.1 with | .x0 z30 z31 z32 z33 => (some (z30, z31, z32, z33)) | .x1 z38 z39 z40 => (some ((⟨#[]⟩ : ByteArray), z38, z39, z40))))))
def g96 {σ : Type} : Nat → Option (SegE σ)
  | 0 => some (l96_0.seg σ (L96_0 1000000000000))
  | _ => none
theorem E96_0 {σ : Type} (Y : Yd σ) : ∀ n a (s : σ), L96_0 (n + 1) a s = evK (cfgOf Tryd.prog (tabsS7 gl) tS7) (toldOf tS7) Y (inlN (cfgOf Tryd.prog (tabsS7 gl) tS7) (toldOf tS7) Y) g96 96 (loopAt Tryd.f96 0) ((l96_0.toT σ).enc a s) (fun ex st' => l96_0.next (cfgOf Tryd.prog (tabsS7 gl) tS7) 96 0 (L96_0 n) ex st') := by
  intro n ⟨v7, v8, v9, v10, v11, v12⟩ s
  kernel_rfl
theorem Q96_0 {σ : Type} (hl : LibFits2 gl) (Y : Yd σ) (rnd : Bool) : SegOk (cfgOf Tryd.prog (tabsS7 gl) tS7) (evFn (cfgOf Tryd.prog (tabsS7 gl) tS7) 9) 96 rnd Y (l96_0.seg σ (L96_0 1000000000000)) (.block 0 (.loop (loopAt Tryd.f96 0))) :=
  told_loop (okS7 hl) k96_0 (by kernel_rfl) (by kernel_rfl) (fun _ _ => rfl) (segs_no (by kernel_rfl)) (E96_0 Y)
theorem N96 : ∀ a, n96 a = bodyK (cfgOf Tryd.prog (tabsS7 gl) tS7) (toldOf tS7) noY (inlN (cfgOf Tryd.prog (tabsS7 gl) tS7) (toldOf tS7) noY) g96 96 Tryd.f96 (aM96 a) (bM96 a) (tM96 a) () (fun v b tk _ => rM96 v b tk) := by
  intro a
  obtain ⟨a0, a1, a2⟩ := a
  kernel_rfl
theorem om96 (hl : LibFits2 gl) : OddSound Tryd.prog gl (fun g => bif Nat.beq g 96 then some (methE 96 dM96 n96 vM96 (fun _ => cM96) (fun _ => kM96)) else (tabsS7 gl).odd g) :=
  told_meth (t := tabsS7 gl) (okS7 hl) mixed (oddOkS7 hl) Tryd.func96 (by kernel_rfl) (by kernel_rfl) (argsOf := aM96) (boxOf := bM96) (tokOf := tM96) (res := fun _ => rM96) (by kernel_rfl) (fun p hp e he => by
    have hq : segsOf (σ := Unit) (g96 (σ := Unit)) (bodyOf Tryd.f96) = [(0, .loop (loopAt Tryd.f96 0))] := by kernel_rfl
    rw [hq] at hp
    simp only [List.mem_cons, List.not_mem_nil, or_false] at hp
    subst hp
    cases he
    exact Q96_0 hl _ _)
    (fun av bs ts a h => by
      unfold dM96 at h
      split at h
      · cases h; exact ⟨rfl, rfl, rfl⟩
      · cases h)
    (fun a v b tk o h => by
      unfold rM96 at h
      split at h
      · cases h; exact ⟨rfl, rfl, rfl⟩
      · cases h)
    N96
noncomputable def tabsS8 (gl : Nat → Option (List D)) : Tabs := { tabsS7 gl with odd := fun g => bif Nat.beq g 60 then some (methE 60 dM60 n60 vM60 (fun _ => cM60) (fun _ => kM60)) else (bif Nat.beq g 89 then some (methE 89 dM89 n89 vM89 (fun _ => cM89) (fun _ => kM89)) else (bif Nat.beq g 62 then some (methE 62 dM62 n62 vM62 (fun _ => cM62) (fun _ => kM62)) else (bif Nat.beq g 94 then some (methE 94 dM94 n94 vM94 (fun _ => cM94) (fun _ => kM94)) else (bif Nat.beq g 95 then some (methE 95 dM95 n95 vM95 (fun _ => cM95) (fun _ => kM95)) else (bif Nat.beq g 96 then some (methE 96 dM96 n96 vM96 (fun _ => cM96) (fun _ => kM96)) else ((tabsS7 gl).odd g)))))) }
theorem oddOkS8 (hl : LibFits2 gl) : OddSound Tryd.prog gl (tabsS8 gl).odd := OddSound.join (om60 hl) (OddSound.join (om89 hl) (OddSound.join (om62 hl) (OddSound.join (om94 hl) (OddSound.join (om95 hl) (OddSound.join (om96 hl) ((oddOkS7 hl)))))))
noncomputable abbrev tS8 : Tab := tS7
theorem okS8 (hl : LibFits2 gl) : TabOk Tryd.prog gl tS8 := okS7 hl
abbrev A61_1 := List D × Int × Int × ByteArray × List D × Int × Int × Int × Int × Int × ByteArray × Int × Int × Int × Int × Int × ByteArray × Int
inductive O61_1 where
  | x0 (o49 : Int) (o50 : ByteArray) (o51 : List D) (o52 : Int) (o53 : Int) (o54 : Int) (o55 : Int) (o56 : Int) (o57 : ByteArray) (o58 : Int) (o59 : Int) (o60 : Int) (o61 : Int) (o62 : Int) (o63 : ByteArray) (o64 : Int)
  | x1 (o65 : ByteArray) (o66 : List D) (o67 : Int) (o68 : Int) (o69 : Int) (o70 : Int) (o71 : Int) (o72 : ByteArray) (o73 : Int) (o74 : Int) (o75 : Int) (o76 : Int) (o77 : Int) (o78 : ByteArray) (o79 : Int)
def l61_1 : LoopS A61_1 O61_1 where
  n := 119
  ks := [0, 2, 4, 88, 89, 90]
  kso := [2, 3, 4]
  m := 3
  mt := 1
  decV := fun vs bs ts => match vs, bs, ts with
    | [.ptr 0 0, .ptr 1 0, .ptr 2 0, .d (.slice v27), .d (.val (.int .i64 v28)), .d (.val (.int .i64 v29))], [.cells none [.d (.val (.string v30)), .osl 0 v31, .d (.val (.int .i64 v32))], .cells (some 35) [.d (.val (.int .i64 v33)), .d (.val (.int .i64 v34)), .d (.val (.int .i64 v35)), .d (.val (.int .i64 v36)), .d (.val (.string v37)), .d (.val (.int .i64 v38))], .cells (some 35) [.d (.val (.int .i64 v39)), .d (.val (.int .i64 v40)), .d (.val (.int .i64 v41)), .d (.val (.int .i64 v42)), .d (.val (.string v43)), .d (.val (.int .i64 v44))]], [_] => some (v27, v28, v29, v30, v31, v32, v33, v34, v35, v36, v37, v38, v39, v40, v41, v42, v43, v44)
    | _, _, _ => none
  encV := fun (v27, v28, v29, v30, v31, v32, v33, v34, v35, v36, v37, v38, v39, v40, v41, v42, v43, v44) => [.ptr 0 0, .ptr 1 0, .ptr 2 0, .d (.slice v27), .d (.val (.int .i64 v28)), .d (.val (.int .i64 v29))]
  encB := fun (v27, v28, v29, v30, v31, v32, v33, v34, v35, v36, v37, v38, v39, v40, v41, v42, v43, v44) => [.cells none [.d (.val (.string v30)), .osl 0 v31, .d (.val (.int .i64 v32))], .cells (some 35) [.d (.val (.int .i64 v33)), .d (.val (.int .i64 v34)), .d (.val (.int .i64 v35)), .d (.val (.int .i64 v36)), .d (.val (.string v37)), .d (.val (.int .i64 v38))], .cells (some 35) [.d (.val (.int .i64 v39)), .d (.val (.int .i64 v40)), .d (.val (.int .i64 v41)), .d (.val (.int .i64 v42)), .d (.val (.string v43)), .d (.val (.int .i64 v44))]]
  tk := fun (v27, v28, v29, v30, v31, v32, v33, v34, v35, v36, v37, v38, v39, v40, v41, v42, v43, v44) => [v31.length]
  decO := fun ex vs bs ts => match ex, vs, bs, ts with
    | .ret, [.ptr 1 0, .d (.val (.int .i64 o49)), .ptr 2 0], [.cells none [.d (.val (.string o50)), .osl 0 o51, .d (.val (.int .i64 o52))], .cells (some 35) [.d (.val (.int .i64 o53)), .d (.val (.int .i64 o54)), .d (.val (.int .i64 o55)), .d (.val (.int .i64 o56)), .d (.val (.string o57)), .d (.val (.int .i64 o58))], .cells (some 35) [.d (.val (.int .i64 o59)), .d (.val (.int .i64 o60)), .d (.val (.int .i64 o61)), .d (.val (.int .i64 o62)), .d (.val (.string o63)), .d (.val (.int .i64 o64))]], [_] => some (.x0 o49 o50 o51 o52 o53 o54 o55 o56 o57 o58 o59 o60 o61 o62 o63 o64)
    | .normal, [.ptr 1 0, .undef, .ptr 2 0], [.cells none [.d (.val (.string o65)), .osl 0 o66, .d (.val (.int .i64 o67))], .cells (some 35) [.d (.val (.int .i64 o68)), .d (.val (.int .i64 o69)), .d (.val (.int .i64 o70)), .d (.val (.int .i64 o71)), .d (.val (.string o72)), .d (.val (.int .i64 o73))], .cells (some 35) [.d (.val (.int .i64 o74)), .d (.val (.int .i64 o75)), .d (.val (.int .i64 o76)), .d (.val (.int .i64 o77)), .d (.val (.string o78)), .d (.val (.int .i64 o79))]], [_] => some (.x1 o65 o66 o67 o68 o69 o70 o71 o72 o73 o74 o75 o76 o77 o78 o79)
    | _, _, _, _ => none
  exO := fun x => match x with
    | .x0 o49 o50 o51 o52 o53 o54 o55 o56 o57 o58 o59 o60 o61 o62 o63 o64 => .ret
    | .x1 o65 o66 o67 o68 o69 o70 o71 o72 o73 o74 o75 o76 o77 o78 o79 => .normal
  outV := fun x => match x with
    | .x0 o49 o50 o51 o52 o53 o54 o55 o56 o57 o58 o59 o60 o61 o62 o63 o64 => [.ptr 1 0, .d (.val (.int .i64 o49)), .ptr 2 0]
    | .x1 o65 o66 o67 o68 o69 o70 o71 o72 o73 o74 o75 o76 o77 o78 o79 => [.ptr 1 0, .undef, .ptr 2 0]
  outB := fun x => match x with
    | .x0 o49 o50 o51 o52 o53 o54 o55 o56 o57 o58 o59 o60 o61 o62 o63 o64 => [.cells none [.d (.val (.string o50)), .osl 0 o51, .d (.val (.int .i64 o52))], .cells (some 35) [.d (.val (.int .i64 o53)), .d (.val (.int .i64 o54)), .d (.val (.int .i64 o55)), .d (.val (.int .i64 o56)), .d (.val (.string o57)), .d (.val (.int .i64 o58))], .cells (some 35) [.d (.val (.int .i64 o59)), .d (.val (.int .i64 o60)), .d (.val (.int .i64 o61)), .d (.val (.int .i64 o62)), .d (.val (.string o63)), .d (.val (.int .i64 o64))]]
    | .x1 o65 o66 o67 o68 o69 o70 o71 o72 o73 o74 o75 o76 o77 o78 o79 => [.cells none [.d (.val (.string o65)), .osl 0 o66, .d (.val (.int .i64 o67))], .cells (some 35) [.d (.val (.int .i64 o68)), .d (.val (.int .i64 o69)), .d (.val (.int .i64 o70)), .d (.val (.int .i64 o71)), .d (.val (.string o72)), .d (.val (.int .i64 o73))], .cells (some 35) [.d (.val (.int .i64 o74)), .d (.val (.int .i64 o75)), .d (.val (.int .i64 o76)), .d (.val (.int .i64 o77)), .d (.val (.string o78)), .d (.val (.int .i64 o79))]]
  tkO := fun x => match x with
    | .x0 o49 o50 o51 o52 o53 o54 o55 o56 o57 o58 o59 o60 o61 o62 o63 o64 => [o51.length]
    | .x1 o65 o66 o67 o68 o69 o70 o71 o72 o73 o74 o75 o76 o77 o78 o79 => [o66.length]
  elim := fun x k => match x with
    | .x0 o49 o50 o51 o52 o53 o54 o55 o56 o57 o58 o59 o60 o61 o62 o63 o64 => k .ret [.ptr 1 0, .d (.val (.int .i64 o49)), .ptr 2 0] [.cells none [.d (.val (.string o50)), .osl 0 o51, .d (.val (.int .i64 o52))], .cells (some 35) [.d (.val (.int .i64 o53)), .d (.val (.int .i64 o54)), .d (.val (.int .i64 o55)), .d (.val (.int .i64 o56)), .d (.val (.string o57)), .d (.val (.int .i64 o58))], .cells (some 35) [.d (.val (.int .i64 o59)), .d (.val (.int .i64 o60)), .d (.val (.int .i64 o61)), .d (.val (.int .i64 o62)), .d (.val (.string o63)), .d (.val (.int .i64 o64))]] [o51.length]
    | .x1 o65 o66 o67 o68 o69 o70 o71 o72 o73 o74 o75 o76 o77 o78 o79 => k .normal [.ptr 1 0, .undef, .ptr 2 0] [.cells none [.d (.val (.string o65)), .osl 0 o66, .d (.val (.int .i64 o67))], .cells (some 35) [.d (.val (.int .i64 o68)), .d (.val (.int .i64 o69)), .d (.val (.int .i64 o70)), .d (.val (.int .i64 o71)), .d (.val (.string o72)), .d (.val (.int .i64 o73))], .cells (some 35) [.d (.val (.int .i64 o74)), .d (.val (.int .i64 o75)), .d (.val (.int .i64 o76)), .d (.val (.int .i64 o77)), .d (.val (.string o78)), .d (.val (.int .i64 o79))]] [o66.length]
theorem k61_1 : l61_1.Ok where
  ok1 := by kernel_rfl
  ok2 := by kernel_rfl
  dec := by
    intro vs bs ts a h
    simp only [l61_1] at h ⊢
    split at h
    · cases h; exact ⟨rfl, rfl⟩
    · cases h
  out := by
    intro ex vs bs ts o h
    simp only [l61_1] at h ⊢
    split at h
    · cases h; exact ⟨rfl, rfl, rfl⟩
    · cases h; exact ⟨rfl, rfl, rfl⟩
    · cases h
  len := fun _ => ⟨rfl, rfl⟩
  elim := fun β o k => by cases o <;> rfl
def L61_1 {σ : Type} : Nat → A61_1 → σ → Option (O61_1 × σ)
  | 0, _, _ => none
  | n+1, (v27, v28, v29, v30, v31, v32, v33, v34, v35, v36, v37, v38, v39, v40, v41, v42, v43, v44), s => (bif (decide (v29 < v28)) then ((lidx v27 v29).bind fun d45 => ask (d45.cells.length = 1) ((cellAt 0 d45).bind fun x46 => (asStr x46).bind fun x47 => (ask (cutOk v40 (v30.size : Int) v30.size) ((n91 ((v30.extract (Int.toNat v40) (Int.toNat (v30.size : Int))), x47)).bind fun y48 => (bif y48 then (ask (([v31.length] : List Nat) = [v31.length]) (some (O61_1.x0 0 v30 v31 (w64 (v32 + (x47.size : Int))) 4 v40 v41 v42 x47 v44 4 v40 v41 v42 x47 v44, s))) else (ask (([v31.length] : List Nat) = [v31.length]) (L61_1 n (v27, v28, (w64 (v29 + 1)), v30, v31, v32, v33, v34, v35, v36, v37, v38, v39, v40, v41, v42, v43, v44) s))))))) else (ask (([v31.length] : List Nat) = [v31.length]) (some (O61_1.x1 v30 v31 v32 v33 v34 v35 v36 v37 v38 v39 v40 v41 v42 v43 v44, s))))
def dM61 (av : List AV) (bs : List Box) (ts : List Nat) : Option (ByteArray × List D × Int × Nat) := match av, bs, ts with
  | [.ptr 0 0], [.cells none [.d (.val (.string a0)), .osl 0 a1, .d (.val (.int .i64 a3))]], [k2] => some (a0, a1, a3, k2)
  | _, _, _ => none
def aM61 : (ByteArray × List D × Int × Nat) → List AV := fun (a0, a1, a3, k2) => [.ptr 0 0]
def bM61 : (ByteArray × List D × Int × Nat) → List Box := fun (a0, a1, a3, k2) => [.cells none [.d (.val (.string a0)), .osl 0 a1, .d (.val (.int .i64 a3))]]
def tM61 : (ByteArray × List D × Int × Nat) → List Nat := fun (a0, a1, a3, k2) => [k2]
def vM61 : (Int × Int × Int × Int × ByteArray × Int × Int × ByteArray × List D × Int × Nat) → AV := fun (o6, o7, o8, o9, o10, o11, o12, p13, p14, p15, q16) => .tup [.d (.agg [.val (.int .i64 o6), .val (.int .i64 o7), .val (.int .i64 o8), .val (.int .i64 o9), .val (.string o10), .val (.int .i64 o11)]), .d (.val (.int .i64 o12))]
def cM61 : (Int × Int × Int × Int × ByteArray × Int × Int × ByteArray × List D × Int × Nat) → List Box := fun (o6, o7, o8, o9, o10, o11, o12, p13, p14, p15, q16) => [.cells none [.d (.val (.string p13)), .osl 0 p14, .d (.val (.int .i64 p15))]]
def kM61 : (Int × Int × Int × Int × ByteArray × Int × Int × ByteArray × List D × Int × Nat) → List Nat := fun (o6, o7, o8, o9, o10, o11, o12, p13, p14, p15, q16) => [q16]
def rM61 (v : AV) (bs : List Box) (ts : List Nat) : Option (Int × Int × Int × Int × ByteArray × Int × Int × ByteArray × List D × Int × Nat) := match v, bs, ts with
  | .tup [.d (.agg [.val (.int .i64 o6), .val (.int .i64 o7), .val (.int .i64 o8), .val (.int .i64 o9), .val (.string o10), .val (.int .i64 o11)]), .d (.val (.int .i64 o12))], [.cells none [.d (.val (.string p13)), .osl 0 p14, .d (.val (.int .i64 p15))]], [q16] => some (o6, o7, o8, o9, o10, o11, o12, p13, p14, p15, q16)
  | _, _, _ => none
def n61 : ByteArray × List D × Int × Nat → Option (Int × Int × Int × Int × ByteArray × Int × Int × ByteArray × List D × Int × Nat) := fun (a0, a1, a3, k2) => ((n88 (a0, a1, a3, k2)).bind fun y4 => ((n87 (a0, a1, a3, 0, k2)).bind fun y5 => (bif (decide (a3 ≥ ((a1.length : Nat) : Int))) then (some (0, y4.1, y4.2.1, y4.2.2.1, (⟨#[]⟩ : ByteArray), 0, 0, a0, a1, a3, k2)) else ((n37 y5.1).bind fun y17 => (bif y17 then ((n89 (a0, a1, a3, k2)).bind fun y18 => ((n40 y18.1).bind fun y19 => (some (1, y4.1, y4.2.1, y4.2.2.1, y18.1, 0, y19, y18.2.1, y18.2.2.1, y18.2.2.2.1, y18.2.2.2.2)))) else (bif (bif (decide (y5.1 ≥ 48)) then (decide (y5.1 ≤ 57)) else false) then ((n89 (a0, a1, a3, k2)).bind fun y20 => ((n42 y20.1).bind fun y21 => (some (2, y4.1, y4.2.1, y4.2.2.1, (⟨#[]⟩ : ByteArray), y21.1, y21.2, y20.2.1, y20.2.2.1, y20.2.2.2.1, y20.2.2.2.2)))) else (bif (y5.1 == 35) then ((n87 (a0, a1, a3, 1, k2)).bind fun y22 => ((n37 y22.1).bind fun y23 => (bif y23 then ((n89 (a0, a1, (w64 (a3 + 1)), k2)).bind fun y24 => (bif (bif (sEq y24.1 (⟨#[116, 114, 117, 101]⟩ : ByteArray)) then true else (sEq y24.1 (⟨#[102, 97, 108, 115, 101]⟩ : ByteArray))) then (some (3, y4.1, y4.2.1, y4.2.2.1, y24.1, 0, 21, y24.2.1, y24.2.2.1, y24.2.2.2.1, y24.2.2.2.2)) else ((n40 y24.1).bind fun y25 => (some (3, y4.1, y4.2.1, y4.2.2.1, y24.1, 0, y25, y24.2.1, y24.2.2.1, y24.2.2.2.1, y24.2.2.2.2))))) else ((n90 ()).bind fun y26 => (ask (([k2] : List Nat) = [a1.length]) ((L61_1 1000000000000 (y26, ((y26.length : Nat) : Int), 0, a0, a1, a3, 0, 0, 0, 0, (⟨#[]⟩ : ByteArray), 0, 0, y4.1, y4.2.1, y4.2.2.1, (⟨#[]⟩ : ByteArray), 0) ()).bind fun p80 => match p80.1 with | .x0 z81 z82 z83 z84 z85 z86 z87 z88 z89 z90 z91 z92 z93 z94 z95 z96 => (some (z85, z86, z87, z88, z89, z90, z81, z82, z83, z84, z83.length)) | .x1 z97 z98 z99 z100 z101 z102 z103 z104 z105 z106 z107 z108 z109 z110 z111 => (some (z106, z107, z108, z109, z110, z111, 90, z97, z98, z99, z98.length)))))))) else ((n90 ()).bind fun y112 => (ask (([k2] : List Nat) = [a1.length]) ((L61_1 1000000000000 (y112, ((y112.length : Nat) : Int), 0, a0, a1, a3, 0, 0, 0, 0, (⟨#[]⟩ : ByteArray), 0, 0, y4.1, y4.2.1, y4.2.2.1, (⟨#[]⟩ : ByteArray), 0) ()).bind fun p166 => match p166.1 with | .x0 z167 z168 z169 z170 z171 z172 z173 z174 z175 z176 z177 z178 z179 z180 z181 z182 => (some (z171, z172, z173, z174, z175, z176, z167, z168, z169, z170, z169.length)) | .x1 z183 z184 z185 z186 z187 z188 z189 z190 z191 z192 z193 z194 z195 z196 z197 => (some (z192, z193, z194, z195, z196, z197, 90, z183, z184, z185, z184.length))))))))))))
def g61 {σ : Type} : Nat → Option (SegE σ)
  | 1 => some (l61_1.seg σ (L61_1 1000000000000))
  | _ => none
theorem E61_1 {σ : Type} (Y : Yd σ) : ∀ n a (s : σ), L61_1 (n + 1) a s = evK (cfgOf Tryd.prog (tabsS8 gl) tS8) (toldOf tS8) Y (inlN (cfgOf Tryd.prog (tabsS8 gl) tS8) (toldOf tS8) Y) g61 61 (loopAt Tryd.f61 1) ((l61_1.toT σ).enc a s) (fun ex st' => l61_1.next (cfgOf Tryd.prog (tabsS8 gl) tS8) 61 1 (L61_1 n) ex st') := by
  intro n ⟨v27, v28, v29, v30, v31, v32, v33, v34, v35, v36, v37, v38, v39, v40, v41, v42, v43, v44⟩ s
  kernel_rfl
theorem Q61_1 {σ : Type} (hl : LibFits2 gl) (Y : Yd σ) (rnd : Bool) : SegOk (cfgOf Tryd.prog (tabsS8 gl) tS8) (evFn (cfgOf Tryd.prog (tabsS8 gl) tS8) 9) 61 rnd Y (l61_1.seg σ (L61_1 1000000000000)) (.block 1 (.loop (loopAt Tryd.f61 1))) :=
  told_loop (okS8 hl) k61_1 (by kernel_rfl) (by kernel_rfl) (fun _ _ => rfl) (segs_no (by kernel_rfl)) (E61_1 Y)
theorem N61 : ∀ a, n61 a = bodyK (cfgOf Tryd.prog (tabsS8 gl) tS8) (toldOf tS8) noY (inlN (cfgOf Tryd.prog (tabsS8 gl) tS8) (toldOf tS8) noY) g61 61 Tryd.f61 (aM61 a) (bM61 a) (tM61 a) () (fun v b tk _ => rM61 v b tk) := by
  intro a
  obtain ⟨a0, a1, a3, k2⟩ := a
  kernel_rfl
theorem om61 (hl : LibFits2 gl) : OddSound Tryd.prog gl (fun g => bif Nat.beq g 61 then some (methE 61 dM61 n61 vM61 (fun _ => cM61) (fun _ => kM61)) else (tabsS8 gl).odd g) :=
  told_meth (t := tabsS8 gl) (okS8 hl) mixed (oddOkS8 hl) Tryd.func61 (by kernel_rfl) (by kernel_rfl) (argsOf := aM61) (boxOf := bM61) (tokOf := tM61) (res := fun _ => rM61) (by kernel_rfl) (fun p hp e he => by
    have hq : segsOf (σ := Unit) (g61 (σ := Unit)) (bodyOf Tryd.f61) = [(1, .loop (loopAt Tryd.f61 1))] := by kernel_rfl
    rw [hq] at hp
    simp only [List.mem_cons, List.not_mem_nil, or_false] at hp
    subst hp
    cases he
    exact Q61_1 hl _ _)
    (fun av bs ts a h => by
      unfold dM61 at h
      split at h
      · cases h; exact ⟨rfl, rfl, rfl⟩
      · cases h)
    (fun a v b tk o h => by
      unfold rM61 at h
      split at h
      · cases h; exact ⟨rfl, rfl, rfl⟩
      · cases h)
    N61
def dM64 (av : List AV) (bs : List Box) (ts : List Nat) : Option (ByteArray × List D × Int) := match av, bs, ts with
  | [.ptr 0 0], [.cells none [.d (.val (.string a0)), .d (.slice a1), .d (.val (.int .i64 a2))]], [] => some (a0, a1, a2)
  | _, _, _ => none
def aM64 : (ByteArray × List D × Int) → List AV := fun (a0, a1, a2) => [.ptr 0 0]
def bM64 : (ByteArray × List D × Int) → List Box := fun (a0, a1, a2) => [.cells none [.d (.val (.string a0)), .d (.slice a1), .d (.val (.int .i64 a2))]]
def tM64 : (ByteArray × List D × Int) → List Nat := fun (a0, a1, a2) => []
def vM64 : (Int × Int × Int × Int × ByteArray × Int × Int × ByteArray × List D × Int) → AV := fun (o9, o10, o11, o12, o13, o14, o15, p16, p17, p18) => .tup [.d (.agg [.val (.int .i64 o9), .val (.int .i64 o10), .val (.int .i64 o11), .val (.int .i64 o12), .val (.string o13), .val (.int .i64 o14)]), .d (.val (.int .i64 o15))]
def cM64 : (Int × Int × Int × Int × ByteArray × Int × Int × ByteArray × List D × Int) → List Box := fun (o9, o10, o11, o12, o13, o14, o15, p16, p17, p18) => [.cells none [.d (.val (.string p16)), .d (.slice p17), .d (.val (.int .i64 p18))]]
def kM64 : (Int × Int × Int × Int × ByteArray × Int × Int × ByteArray × List D × Int) → List Nat := fun (o9, o10, o11, o12, o13, o14, o15, p16, p17, p18) => []
def rM64 (v : AV) (bs : List Box) (ts : List Nat) : Option (Int × Int × Int × Int × ByteArray × Int × Int × ByteArray × List D × Int) := match v, bs, ts with
  | .tup [.d (.agg [.val (.int .i64 o9), .val (.int .i64 o10), .val (.int .i64 o11), .val (.int .i64 o12), .val (.string o13), .val (.int .i64 o14)]), .d (.val (.int .i64 o15))], [.cells none [.d (.val (.string p16)), .d (.slice p17), .d (.val (.int .i64 p18))]], [] => some (o9, o10, o11, o12, o13, o14, o15, p16, p17, p18)
  | _, _, _ => none
def n64 : ByteArray × List D × Int → Option (Int × Int × Int × Int × ByteArray × Int × Int × ByteArray × List D × Int) := fun (a0, a1, a2) => ((lidx a1 a2).bind fun d3 => ask (d3.cells.length = 3) ((cellAt 0 d3).bind fun x4 => (asInt .i64 x4).bind fun x5 => ((n38 x5).bind fun y6 => (bif y6 then ((n94 (a0, a1, a2, a2)).bind fun y7 => ((n93 (1, y7.1)).bind fun y8 => (some (y8.1, y8.2.1, y8.2.2.1, y8.2.2.2.1, y8.2.2.2.2.1, y8.2.2.2.2.2.1, y8.2.2.2.2.2.2, y7.2.1, y7.2.2.1, y7.2.2.2)))) else (bif (bif (decide (x5 ≥ 48)) then (decide (x5 ≤ 57)) else false) then ((n94 (a0, a1, a2, a2)).bind fun y19 => ((n43 y19.1).bind fun y20 => (bif (y20.2 != 0) then (some (0, 0, 0, 0, (⟨#[]⟩ : ByteArray), 0, 22, y19.2.1, y19.2.2.1, y19.2.2.2)) else (some (2, 0, 0, 0, (⟨#[]⟩ : ByteArray), y20.1, 0, y19.2.1, y19.2.2.1, y19.2.2.2))))) else (bif (x5 == 35) then ((n95 (a0, a1, a2, 1)).bind fun y21 => (bif (!y21.1) then (some (0, 0, 0, 0, (⟨#[]⟩ : ByteArray), 0, 90, y21.2.1, y21.2.2.1, y21.2.2.2)) else ((n94 (y21.2.1, y21.2.2.1, y21.2.2.2, (w64 (y21.2.2.2 + 1)))).bind fun y22 => ((n93 (3, y22.1)).bind fun y23 => (some (y23.1, y23.2.1, y23.2.2.1, y23.2.2.2.1, y23.2.2.2.2.1, y23.2.2.2.2.2.1, y23.2.2.2.2.2.2, y22.2.1, y22.2.2.1, y22.2.2.2)))))) else (bif (decide (x5 < 0)) then (some (0, 0, 0, 0, (⟨#[]⟩ : ByteArray), 0, 90, a0, a1, a2)) else ((n96 (a0, a1, a2)).bind fun y24 => (bif (sEq y24.1 (⟨#[]⟩ : ByteArray)) then (some (0, 0, 0, 0, (⟨#[]⟩ : ByteArray), 0, 90, y24.2.1, y24.2.2.1, y24.2.2.2)) else (some (4, 0, 0, 0, y24.1, 0, 0, y24.2.1, y24.2.2.1, (w64 (y24.2.2.2 + (y24.1.size : Int))))))))))))))
def g64 {σ : Type} : Nat → Option (SegE σ)
  | _ => none
theorem N64 : ∀ a, n64 a = bodyK (cfgOf Tryd.prog (tabsS8 gl) tS8) (toldOf tS8) noY (inlN (cfgOf Tryd.prog (tabsS8 gl) tS8) (toldOf tS8) noY) g64 64 Tryd.f64 (aM64 a) (bM64 a) (tM64 a) () (fun v b tk _ => rM64 v b tk) := by
  intro a
  obtain ⟨a0, a1, a2⟩ := a
  kernel_rfl
theorem om64 (hl : LibFits2 gl) : OddSound Tryd.prog gl (fun g => bif Nat.beq g 64 then some (methE 64 dM64 n64 vM64 (fun _ => cM64) (fun _ => kM64)) else (tabsS8 gl).odd g) :=
  told_meth (t := tabsS8 gl) (okS8 hl) mixed (oddOkS8 hl) Tryd.func64 (by kernel_rfl) (by kernel_rfl) (argsOf := aM64) (boxOf := bM64) (tokOf := tM64) (res := fun _ => rM64) (by kernel_rfl) (segs_no (by kernel_rfl))
    (fun av bs ts a h => by
      unfold dM64 at h
      split at h
      · cases h; exact ⟨rfl, rfl, rfl⟩
      · cases h)
    (fun a v b tk o h => by
      unfold rM64 at h
      split at h
      · cases h; exact ⟨rfl, rfl, rfl⟩
      · cases h)
    N64
noncomputable def tabsS9 (gl : Nat → Option (List D)) : Tabs := { tabsS8 gl with odd := fun g => bif Nat.beq g 61 then some (methE 61 dM61 n61 vM61 (fun _ => cM61) (fun _ => kM61)) else (bif Nat.beq g 64 then some (methE 64 dM64 n64 vM64 (fun _ => cM64) (fun _ => kM64)) else ((tabsS8 gl).odd g)) }
theorem oddOkS9 (hl : LibFits2 gl) : OddSound Tryd.prog gl (tabsS9 gl).odd := OddSound.join (om61 hl) (OddSound.join (om64 hl) ((oddOkS8 hl)))
noncomputable abbrev tS9 : Tab := tS8
theorem okS9 (hl : LibFits2 gl) : TabOk Tryd.prog gl tS9 := okS8 hl
theorem E83_0r9 {σ : Type} (Y : Yd σ) : ∀ n a (s : σ), L83_0 Y (n + 1) a s = evK (cfgOf Tryd.prog (tabsS9 gl) tS9) (toldOf tS9) Y (inlI (cfgOf Tryd.prog (tabsS9 gl) tS9) (toldOf tS9) Y) (g83 Y) 83 (loopAt Tryd.f83 0) ((l83_0.toT σ).enc a s) (fun ex st' => l83_0.next (cfgOf Tryd.prog (tabsS9 gl) tS9) 83 0 (L83_0 Y n) ex st') := by
  intro n ⟨v1, v2, v3, v4, v5, v6⟩ s
  kernel_rfl
theorem Q83_0r9 {σ : Type} (hl : LibFits2 gl) (Y : Yd σ) (rnd : Bool) : SegOk (cfgOf Tryd.prog (tabsS9 gl) tS9) (evFn (cfgOf Tryd.prog (tabsS9 gl) tS9) 8) 83 rnd Y (l83_0.seg σ (L83_0 Y 1000000000000)) (.block 0 (.loop (loopAt Tryd.f83 0))) :=
  told_loopI (okS9 hl) k83_0 (by kernel_rfl) (by kernel_rfl) (fun _ _ => rfl) (segs_no (by kernel_rfl)) (E83_0r9 Y)
theorem N83r9 : ∀ (σ : Type) (Y : Yd σ) (i : ByteArray) (s : σ), n83 Y i s = bodyK (cfgOf Tryd.prog (tabsS9 gl) tS9) (toldOf tS9) Y (inlI (cfgOf Tryd.prog (tabsS9 gl) tS9) (toldOf tS9) Y) (g83 Y) 83 Tryd.f83 (.yld :: (fun (_ : ByteArray) => ([.ptr 0 0] : List AV)) i) (encL83 i) [] s (fun _ b _ s => (decL83 b).bind fun i => some (i, s)) := by
  intro σ Y a0 s
  kernel_rfl
theorem J83r9 (hl : LibFits2 gl) : ∀ caps lent i, itDec83 caps lent = some i → IterOk (evFn (cfgOf Tryd.prog (tabsS9 gl) tS9) 9) 83 caps lent encL83 (fun σ Y => n83 Y i) := by
  intro caps lent i h
  unfold itDec83 at h
  split at h
  · cases h
    exact told_iter (okS9 hl) Tryd.func83 (by kernel_rfl) (by kernel_rfl) (capsOf := fun (_ : ByteArray) => [.ptr 0 0]) (encL := encL83) (decL := decL83) (fun b i h => by
      unfold decL83 at h
      split at h
      · cases h; rfl
      · cases h) (n := fun {σ} Y i s => n83 Y i s) (seg := fun {σ} Y => g83 Y) (by kernel_rfl) (fun σ Y => (fun p hp e he => by
    have hq : segsOf (σ := σ) (g83 Y) (bodyOf Tryd.f83) = [(0, .loop (loopAt Tryd.f83 0))] := by kernel_rfl
    rw [hq] at hp
    simp only [List.mem_cons, List.not_mem_nil, or_false] at hp
    subst hp
    cases he
    exact Q83_0r9 hl _ _)) N83r9 _
  · cases h
abbrev P18_0 := Unit
abbrev X18_0 := Int × Int × Int × Int
abbrev A18_0 := Int × Int × Int × Int × ByteArray × List D × Int × Nat
inductive O18_0 where
def l18_0 : RangeS P18_0 X18_0 A18_0 O18_0 where
  n := 51
  ks := [4, 15, 16]
  ps := [15, 16]
  ks0 := [4]
  m := 4
  mt := 2
  decE := fun vs => match vs with
    | [.ptr 2 0] => some ()
    | _ => none
  encE := fun () => [.ptr 2 0]
  decX := fun xs => match xs with
    | [.agg [.val (.int .i64 e6), .val (.int .i64 e7), .val (.int .i64 e8)], .val (.int .i32 e9)] => some (e6, e7, e8, e9)
    | _ => none
  encX := fun (e6, e7, e8, e9) => [.agg [.val (.int .i64 e6), .val (.int .i64 e7), .val (.int .i64 e8)], .val (.int .i32 e9)]
  decB := fun bs ts => match bs, ts with
    | [.cells (some 27) [.d (.val (.int .i64 v10)), .d (.val (.int .i64 v11)), .d (.val (.int .i64 v12)), .d (.val (.int .i64 v13))], .cells none [.d (.val (.string v14)), .osl 1 v15, .d (.val (.int .i64 v16))], .cells (some 103) [.ptr 1 0], .gone], [k17, _] => some (v10, v11, v12, v13, v14, v15, v16, k17)
    | _, _ => none
  encB := fun (v10, v11, v12, v13, v14, v15, v16, k17) => [.cells (some 27) [.d (.val (.int .i64 v10)), .d (.val (.int .i64 v11)), .d (.val (.int .i64 v12)), .d (.val (.int .i64 v13))], .cells none [.d (.val (.string v14)), .osl 1 v15, .d (.val (.int .i64 v16))], .cells (some 103) [.ptr 1 0], .gone]
  tk := fun (v10, v11, v12, v13, v14, v15, v16, k17) => [k17, v15.length]
  decO := fun ex bs ts => match ex, bs, ts with
    | _, _, _ => none
  exO := fun x => nomatch x
  outB := fun x => nomatch x
  tkO := fun x => nomatch x
  elim := fun x _ => nomatch x
theorem k18_0 : l18_0.Ok where
  ok1 := by kernel_rfl
  ok2 := by kernel_rfl
  ok3 := by kernel_rfl
  decE := by
    intro vs p h
    simp only [l18_0] at h ⊢
    split at h
    · cases h; rfl
    · cases h
  decX := by
    intro xs x h
    simp only [l18_0] at h ⊢
    split at h
    · cases h; rfl
    · cases h
  lenX := fun _ => rfl
  decB := by
    intro bs ts a h
    simp only [l18_0] at h ⊢
    split at h
    · cases h; rfl
    · cases h
  lenB := fun _ => ⟨rfl, rfl⟩
  decO := by
    intro ex bs ts o h
    simp only [l18_0] at h ⊢
    cases h
  exO := fun o => by cases o <;> exact ⟨fun h => (by cases h), rfl⟩
  elim := fun β o k => by cases o <;> rfl
def W18_0 {σ : Type} (p : P18_0) : Yd ((A18_0 ⊕ O18_0) × σ) := fun xs q => match p, xs, q with
  | (), [.agg [.val (.int .i64 e6), .val (.int .i64 e7), .val (.int .i64 e8)], .val (.int .i32 e9)], (.inl (v10, v11, v12, v13, v14, v15, v16, k17), s) => (ask (addOk v15.length v15 ([.agg [.val (.int .i32 e9), .val (.int .i64 e6), .val (.int .i64 e7), .val (.int .i64 e8)]] : List D) 4 32) (ask (([k17, (v15.length + ([.agg [.val (.int .i32 e9), .val (.int .i64 e6), .val (.int .i64 e7), .val (.int .i64 e8)]] : List D).length)] : List Nat) = [k17, (v15 ++ ([.agg [.val (.int .i32 e9), .val (.int .i64 e6), .val (.int .i64 e7), .val (.int .i64 e8)]] : List D)).length]) (some (true, (Sum.inl (v10, v11, v12, v13, v14, (v15 ++ ([.agg [.val (.int .i32 e9), .val (.int .i64 e6), .val (.int .i64 e7), .val (.int .i64 e8)]] : List D)), v16, k17), s)))))
  | _, _, _ => none
abbrev A18_2 := List D × Int × Int × Int × Int × ByteArray × List D × Int × ByteArray × Nat
inductive O18_2 where
  | x0 (o32 : List D) (o33 : Int) (o34 : Int) (o35 : Int) (o36 : Int) (o37 : ByteArray) (o38 : List D) (o39 : Int) (o40 : ByteArray) (q41 : Nat) (q42 : Nat)
  | x1 (o43 : List D) (o44 : Int) (o45 : Int) (o46 : Int) (o47 : Int) (o48 : ByteArray) (o49 : List D) (o50 : Int) (o51 : ByteArray) (q52 : Nat)
def l18_2 : LoopS A18_2 O18_2 where
  n := 51
  ks := [3, 4, 7]
  kso := [2, 3]
  m := 4
  mt := 3
  decV := fun vs bs ts => match vs, bs, ts with
    | [.ptr 0 0, .ptr 2 0, .osl 2 v20], [.cells (some 27) [.d (.val (.int .i64 v21)), .d (.val (.int .i64 v22)), .d (.val (.int .i64 v23)), .d (.val (.int .i64 v24))], .cells none [.d (.val (.string v25)), .osl 1 v26, .d (.val (.int .i64 v27))], .cells (some 103) [.ptr 1 0], .cells none [.d (.val (.string v28))]], [k29, _, _] => some (v20, v21, v22, v23, v24, v25, v26, v27, v28, k29)
    | _, _, _ => none
  encV := fun (v20, v21, v22, v23, v24, v25, v26, v27, v28, k29) => [.ptr 0 0, .ptr 2 0, .osl 2 v20]
  encB := fun (v20, v21, v22, v23, v24, v25, v26, v27, v28, k29) => [.cells (some 27) [.d (.val (.int .i64 v21)), .d (.val (.int .i64 v22)), .d (.val (.int .i64 v23)), .d (.val (.int .i64 v24))], .cells none [.d (.val (.string v25)), .osl 1 v26, .d (.val (.int .i64 v27))], .cells (some 103) [.ptr 1 0], .cells none [.d (.val (.string v28))]]
  tk := fun (v20, v21, v22, v23, v24, v25, v26, v27, v28, k29) => [k29, v26.length, v20.length]
  decO := fun ex vs bs ts => match ex, vs, bs, ts with
    | .ret, [.d (.slice o32), .ptr 0 0], [.cells (some 27) [.d (.val (.int .i64 o33)), .d (.val (.int .i64 o34)), .d (.val (.int .i64 o35)), .d (.val (.int .i64 o36))], .cells none [.d (.val (.string o37)), .osl 1 o38, .d (.val (.int .i64 o39))], .cells (some 103) [.ptr 1 0], .cells none [.d (.val (.string o40))]], [q41, _, q42] => some (.x0 o32 o33 o34 o35 o36 o37 o38 o39 o40 q41 q42)
    | .ret, [.osl 2 o43, .ptr 0 0], [.cells (some 27) [.d (.val (.int .i64 o44)), .d (.val (.int .i64 o45)), .d (.val (.int .i64 o46)), .d (.val (.int .i64 o47))], .cells none [.d (.val (.string o48)), .osl 1 o49, .d (.val (.int .i64 o50))], .cells (some 103) [.ptr 1 0], .cells none [.d (.val (.string o51))]], [q52, _, _] => some (.x1 o43 o44 o45 o46 o47 o48 o49 o50 o51 q52)
    | _, _, _, _ => none
  exO := fun x => match x with
    | .x0 o32 o33 o34 o35 o36 o37 o38 o39 o40 q41 q42 => .ret
    | .x1 o43 o44 o45 o46 o47 o48 o49 o50 o51 q52 => .ret
  outV := fun x => match x with
    | .x0 o32 o33 o34 o35 o36 o37 o38 o39 o40 q41 q42 => [.d (.slice o32), .ptr 0 0]
    | .x1 o43 o44 o45 o46 o47 o48 o49 o50 o51 q52 => [.osl 2 o43, .ptr 0 0]
  outB := fun x => match x with
    | .x0 o32 o33 o34 o35 o36 o37 o38 o39 o40 q41 q42 => [.cells (some 27) [.d (.val (.int .i64 o33)), .d (.val (.int .i64 o34)), .d (.val (.int .i64 o35)), .d (.val (.int .i64 o36))], .cells none [.d (.val (.string o37)), .osl 1 o38, .d (.val (.int .i64 o39))], .cells (some 103) [.ptr 1 0], .cells none [.d (.val (.string o40))]]
    | .x1 o43 o44 o45 o46 o47 o48 o49 o50 o51 q52 => [.cells (some 27) [.d (.val (.int .i64 o44)), .d (.val (.int .i64 o45)), .d (.val (.int .i64 o46)), .d (.val (.int .i64 o47))], .cells none [.d (.val (.string o48)), .osl 1 o49, .d (.val (.int .i64 o50))], .cells (some 103) [.ptr 1 0], .cells none [.d (.val (.string o51))]]
  tkO := fun x => match x with
    | .x0 o32 o33 o34 o35 o36 o37 o38 o39 o40 q41 q42 => [q41, o38.length, q42]
    | .x1 o43 o44 o45 o46 o47 o48 o49 o50 o51 q52 => [q52, o49.length, o43.length]
  elim := fun x k => match x with
    | .x0 o32 o33 o34 o35 o36 o37 o38 o39 o40 q41 q42 => k .ret [.d (.slice o32), .ptr 0 0] [.cells (some 27) [.d (.val (.int .i64 o33)), .d (.val (.int .i64 o34)), .d (.val (.int .i64 o35)), .d (.val (.int .i64 o36))], .cells none [.d (.val (.string o37)), .osl 1 o38, .d (.val (.int .i64 o39))], .cells (some 103) [.ptr 1 0], .cells none [.d (.val (.string o40))]] [q41, o38.length, q42]
    | .x1 o43 o44 o45 o46 o47 o48 o49 o50 o51 q52 => k .ret [.osl 2 o43, .ptr 0 0] [.cells (some 27) [.d (.val (.int .i64 o44)), .d (.val (.int .i64 o45)), .d (.val (.int .i64 o46)), .d (.val (.int .i64 o47))], .cells none [.d (.val (.string o48)), .osl 1 o49, .d (.val (.int .i64 o50))], .cells (some 103) [.ptr 1 0], .cells none [.d (.val (.string o51))]] [q52, o49.length, o43.length]
theorem k18_2 : l18_2.Ok where
  ok1 := by kernel_rfl
  ok2 := by kernel_rfl
  dec := by
    intro vs bs ts a h
    simp only [l18_2] at h ⊢
    split at h
    · cases h; exact ⟨rfl, rfl⟩
    · cases h
  out := by
    intro ex vs bs ts o h
    simp only [l18_2] at h ⊢
    split at h
    · cases h; exact ⟨rfl, rfl, rfl⟩
    · cases h; exact ⟨rfl, rfl, rfl⟩
    · cases h
  len := fun _ => ⟨rfl, rfl⟩
  elim := fun β o k => by cases o <;> rfl
def L18_2 {σ : Type} : Nat → A18_2 → σ → Option (O18_2 × σ)
  | 0, _, _ => none
  | n+1, (v20, v21, v22, v23, v24, v25, v26, v27, v28, k29), s => ((n60 (v25, v26, v27, v26.length)).bind fun y30 => ((n61 (y30.1, y30.2.1, y30.2.2.1, y30.2.2.2)).bind fun y31 => (bif (y31.2.2.2.2.2.2.1 != 0) then (ask (([k29, y31.2.2.2.2.2.2.2.2.2.2, v20.length] : List Nat) = [k29, y31.2.2.2.2.2.2.2.2.1.length, v20.length]) (some (O18_2.x0 ([] : List D) y31.2.2.2.2.2.2.1 y31.2.1 y31.2.2.1 y31.2.2.2.1 y31.2.2.2.2.2.2.2.1 y31.2.2.2.2.2.2.2.2.1 y31.2.2.2.2.2.2.2.2.2.1 v28 k29 v20.length, s))) else (ask (addOk v20.length v20 ([.agg [.val (.int .i64 y31.1), .val (.int .i64 y31.2.1), .val (.int .i64 y31.2.2.1), .val (.int .i64 y31.2.2.2.1), .val (.string y31.2.2.2.2.1), .val (.int .i64 y31.2.2.2.2.2.1)]] : List D) 6 56) (bif (y31.1 == 0) then (ask (([k29, y31.2.2.2.2.2.2.2.2.2.2, (v20.length + ([.agg [.val (.int .i64 y31.1), .val (.int .i64 y31.2.1), .val (.int .i64 y31.2.2.1), .val (.int .i64 y31.2.2.2.1), .val (.string y31.2.2.2.2.1), .val (.int .i64 y31.2.2.2.2.2.1)]] : List D).length)] : List Nat) = [k29, y31.2.2.2.2.2.2.2.2.1.length, (v20 ++ ([.agg [.val (.int .i64 y31.1), .val (.int .i64 y31.2.1), .val (.int .i64 y31.2.2.1), .val (.int .i64 y31.2.2.2.1), .val (.string y31.2.2.2.2.1), .val (.int .i64 y31.2.2.2.2.2.1)]] : List D)).length]) (some (O18_2.x1 (v20 ++ ([.agg [.val (.int .i64 y31.1), .val (.int .i64 y31.2.1), .val (.int .i64 y31.2.2.1), .val (.int .i64 y31.2.2.2.1), .val (.string y31.2.2.2.2.1), .val (.int .i64 y31.2.2.2.2.2.1)]] : List D)) 0 0 0 0 y31.2.2.2.2.2.2.2.1 y31.2.2.2.2.2.2.2.2.1 y31.2.2.2.2.2.2.2.2.2.1 v28 k29, s))) else (ask (([k29, y31.2.2.2.2.2.2.2.2.2.2, (v20.length + ([.agg [.val (.int .i64 y31.1), .val (.int .i64 y31.2.1), .val (.int .i64 y31.2.2.1), .val (.int .i64 y31.2.2.2.1), .val (.string y31.2.2.2.2.1), .val (.int .i64 y31.2.2.2.2.2.1)]] : List D).length)] : List Nat) = [k29, y31.2.2.2.2.2.2.2.2.1.length, (v20 ++ ([.agg [.val (.int .i64 y31.1), .val (.int .i64 y31.2.1), .val (.int .i64 y31.2.2.1), .val (.int .i64 y31.2.2.2.1), .val (.string y31.2.2.2.2.1), .val (.int .i64 y31.2.2.2.2.2.1)]] : List D)).length]) (L18_2 n ((v20 ++ ([.agg [.val (.int .i64 y31.1), .val (.int .i64 y31.2.1), .val (.int .i64 y31.2.2.1), .val (.int .i64 y31.2.2.2.1), .val (.string y31.2.2.2.2.1), .val (.int .i64 y31.2.2.2.2.2.1)]] : List D)), v21, v22, v23, v24, y31.2.2.2.2.2.2.2.1, y31.2.2.2.2.2.2.2.2.1, y31.2.2.2.2.2.2.2.2.2.1, v28, k29) s)))))))
def d18 (ds : List D) : Option (ByteArray) := match ds with
  | [.val (.string a0)] => some a0
  | _ => none
def r18 (v : AV) : Option (List D × Int × Int × Int × Int) := match toPR v with
  | some (.many [.slice a1, .agg [.val (.int .i64 a2), .val (.int .i64 a3), .val (.int .i64 a4), .val (.int .i64 a5)]]) => some (a1, a2, a3, a4, a5)
  | _ => none
def n18 : ByteArray → Option (List D × Int × Int × Int × Int) := fun a0 => (ask (([0, 0] : List Nat) = [0, ([] : List D).length]) ((n83 (W18_0 ()) a0 (Sum.inl (0, 0, 0, 0, a0, ([] : List D), 0, 0), ())).bind fun p18 => match p18.2.1 with | .inl z19 => (ask (([(z19.2.2.2.2.2.2.2), (z19.2.2.2.2.2.1).length, 0] : List Nat) = [(z19.2.2.2.2.2.2.2), (z19.2.2.2.2.2.1).length, ([] : List D).length]) ((L18_2 1000000000000 (([] : List D), (z19.1), (z19.2.1), (z19.2.2.1), (z19.2.2.2.1), (z19.2.2.2.2.1), (z19.2.2.2.2.2.1), (z19.2.2.2.2.2.2.1), p18.1, (z19.2.2.2.2.2.2.2)) p18.2.2).bind fun p53 => match p53.1 with | .x0 z54 z55 z56 z57 z58 z59 z60 z61 z62 z63 z64 => (some (z54, z55, z56, z57, z58)) | .x1 z65 z66 z67 z68 z69 z70 z71 z72 z73 z74 => (some (z65, z66, z67, z68, z69)))) | .inr o75 => nomatch o75))
def e18 : PureE := mkE d18 n18 (fun (a1, a2, a3, a4, a5) => .many [.slice a1, .agg [.val (.int .i64 a2), .val (.int .i64 a3), .val (.int .i64 a4), .val (.int .i64 a5)]])
noncomputable def g18 (gl : Nat → Option (List D)) {σ : Type} : Nat → Option (SegE σ)
  | 0 => some (l18_0.seg (cfgOf Tryd.prog (tabsS9 gl) tS9) 18 0 (rangeG Tryd.f18 0) 83 itDec83 encL83 (fun i σ Y => n83 Y i) σ W18_0)
  | 2 => some (l18_2.seg σ (L18_2 1000000000000))
  | _ => none
theorem E18_2 {σ : Type} (Y : Yd σ) : ∀ n a (s : σ), L18_2 (n + 1) a s = evK (cfgOf Tryd.prog (tabsS9 gl) tS9) (toldOf tS9) Y (inlN (cfgOf Tryd.prog (tabsS9 gl) tS9) (toldOf tS9) Y) (g18 gl) 18 (loopAt Tryd.f18 2) ((l18_2.toT σ).enc a s) (fun ex st' => l18_2.next (cfgOf Tryd.prog (tabsS9 gl) tS9) 18 2 (L18_2 n) ex st') := by
  intro n ⟨v20, v21, v22, v23, v24, v25, v26, v27, v28, k29⟩ s
  kernel_rfl
theorem Q18_2 {σ : Type} (hl : LibFits2 gl) (Y : Yd σ) (rnd : Bool) : SegOk (cfgOf Tryd.prog (tabsS9 gl) tS9) (evFn (cfgOf Tryd.prog (tabsS9 gl) tS9) 9) 18 rnd Y (l18_2.seg σ (L18_2 1000000000000)) (.block 2 (.loop (loopAt Tryd.f18 2))) :=
  told_loop (okS9 hl) k18_2 (by kernel_rfl) (by kernel_rfl) (fun _ _ => rfl) (segs_no (by kernel_rfl)) (E18_2 Y)
theorem E18_0 {σ : Type} (Y : Yd σ) : ∀ p x a (s : σ), W18_0 p (l18_0.encX x) (.inl a, s) = evK (cfgOf Tryd.prog (tabsS9 gl) tS9) (toldOf tS9) Y (inlN (cfgOf Tryd.prog (tabsS9 gl) tS9) (toldOf tS9) Y) (g18 gl) 18 (.seq (rangeA Tryd.f18 0) (rangeB Tryd.f18 0)) (l18_0.encS p x a s) (fun ex st' => l18_0.next ex st') := by
  intro p x a s
  obtain ⟨e6, e7, e8, e9⟩ := x
  obtain ⟨v10, v11, v12, v13, v14, v15, v16, k17⟩ := a
  kernel_rfl
theorem D18_0 {σ : Type} : ∀ p xs q r, W18_0 (σ := σ) p xs q = some r → ∃ x a s, xs = l18_0.encX x ∧ q = (.inl a, s) := by
  intro p xs q r h
  unfold W18_0 at h
  split at h
  · rename_i e6 e7 e8 e9 v10 v11 v12 v13 v14 v15 v16 k17 s
    exact ⟨(e6, e7, e8, e9), (v10, v11, v12, v13, v14, v15, v16, k17), _, rfl, rfl⟩
  · cases h
theorem Q18_0 {σ : Type} (hl : LibFits2 gl) (Y : Yd σ) (_ : Bool) : SegOk (cfgOf Tryd.prog (tabsS9 gl) tS9) (evFn (cfgOf Tryd.prog (tabsS9 gl) tS9) 9) 18 false Y (l18_0.seg (cfgOf Tryd.prog (tabsS9 gl) tS9) 18 0 (rangeG Tryd.f18 0) 83 itDec83 encL83 (fun i σ Y => n83 Y i) σ W18_0) (.block 0 (.rangeFunc (rangeG Tryd.f18 0) (rangeP Tryd.f18 0) (rangeA Tryd.f18 0) (rangeB Tryd.f18 0))) :=
  told_range (okS9 hl) k18_0 (by kernel_rfl) (by kernel_rfl) (by kernel_rfl) (segs_no (by kernel_rfl)) D18_0 (E18_0 Y) (J83r9 hl) S83
theorem N18 : ∀ a, n18 a = bodyK (cfgOf Tryd.prog (tabsS9 gl) tS9) (toldOf tS9) noY (inlN (cfgOf Tryd.prog (tabsS9 gl) tS9) (toldOf tS9) noY) (g18 gl) 18 Tryd.f18 (((fun a0 => [.val (.string a0)] : (ByteArray) → List D) a).map .d) [] [] () (fun v _ _ _ => r18 v) := by
  intro a0
  kernel_rfl
noncomputable def t18 : Tab := (18, e18) :: tS9
theorem ok18 (hl : LibFits2 gl) : TabOk Tryd.prog gl t18 :=
  told_fn (okS9 hl) mixed (oddOkS9 hl) Tryd.func18 (by kernel_rfl) (by kernel_rfl) (by kernel_rfl) (fun p hp e he => by
    have hq : segsOf (σ := Unit) (g18 gl (σ := Unit)) (bodyOf Tryd.f18) = [(0, .rangeFunc (rangeG Tryd.f18 0) (rangeP Tryd.f18 0) (rangeA Tryd.f18 0) (rangeB Tryd.f18 0)), (2, .loop (loopAt Tryd.f18 2))] := by kernel_rfl
    rw [hq] at hp
    simp only [List.mem_cons, List.not_mem_nil, or_false] at hp
    rcases hp with rfl | rfl
    · cases he; exact Q18_0 hl _ true
    · cases he; exact Q18_2 hl _ _
    )
    (args := fun a0 => [.val (.string a0)]) (res := r18)
    (fun ds a h => by
      unfold d18 at h
      split at h
      · cases h; rfl
      · cases h)
    (fun v r h => by
      unfold r18 at h
      split at h
      · rename_i hv; cases h; exact hv
      · cases h)
    N18
abbrev A19_0 := ByteArray × List D × Int × Int × Int × Int × ByteArray × List D × Int × Nat
inductive O19_0 where
  | x0 (o19 : List D) (o20 : Int) (o21 : Int) (o22 : Int) (o23 : Int) (o24 : ByteArray) (o25 : List D) (o26 : Int) (q27 : Nat)
  | x1 (o33 : List D) (o34 : Int) (o35 : Int) (o36 : Int) (o37 : Int) (o38 : ByteArray) (o39 : List D) (o40 : Int) (q41 : Nat) (q42 : Nat)
def l19_0 : LoopS A19_0 O19_0 where
  n := 66
  ks := [0, 3, 4, 5]
  kso := [2, 3]
  m := 2
  mt := 2
  decV := fun vs bs ts => match vs, bs, ts with
    | [.d (.val (.string v7)), .ptr 0 0, .ptr 1 0, .osl 1 v8], [.cells (some 27) [.d (.val (.int .i64 v9)), .d (.val (.int .i64 v10)), .d (.val (.int .i64 v11)), .d (.val (.int .i64 v12))], .cells none [.d (.val (.string v13)), .d (.slice v14), .d (.val (.int .i64 v15))]], [k16, _] => some (v7, v8, v9, v10, v11, v12, v13, v14, v15, k16)
    | _, _, _ => none
  encV := fun (v7, v8, v9, v10, v11, v12, v13, v14, v15, k16) => [.d (.val (.string v7)), .ptr 0 0, .ptr 1 0, .osl 1 v8]
  encB := fun (v7, v8, v9, v10, v11, v12, v13, v14, v15, k16) => [.cells (some 27) [.d (.val (.int .i64 v9)), .d (.val (.int .i64 v10)), .d (.val (.int .i64 v11)), .d (.val (.int .i64 v12))], .cells none [.d (.val (.string v13)), .d (.slice v14), .d (.val (.int .i64 v15))]]
  tk := fun (v7, v8, v9, v10, v11, v12, v13, v14, v15, k16) => [k16, v8.length]
  decO := fun ex vs bs ts => match ex, vs, bs, ts with
    | .ret, [.osl 1 o19, .ptr 0 0], [.cells (some 27) [.d (.val (.int .i64 o20)), .d (.val (.int .i64 o21)), .d (.val (.int .i64 o22)), .d (.val (.int .i64 o23))], .cells none [.d (.val (.string o24)), .d (.slice o25), .d (.val (.int .i64 o26))]], [q27, _] => some (.x0 o19 o20 o21 o22 o23 o24 o25 o26 q27)
    | .ret, [.d (.slice o33), .ptr 0 0], [.cells (some 27) [.d (.val (.int .i64 o34)), .d (.val (.int .i64 o35)), .d (.val (.int .i64 o36)), .d (.val (.int .i64 o37))], .cells none [.d (.val (.string o38)), .d (.slice o39), .d (.val (.int .i64 o40))]], [q41, q42] => some (.x1 o33 o34 o35 o36 o37 o38 o39 o40 q41 q42)
    | _, _, _, _ => none
  exO := fun x => match x with
    | .x0 o19 o20 o21 o22 o23 o24 o25 o26 q27 => .ret
    | .x1 o33 o34 o35 o36 o37 o38 o39 o40 q41 q42 => .ret
  outV := fun x => match x with
    | .x0 o19 o20 o21 o22 o23 o24 o25 o26 q27 => [.osl 1 o19, .ptr 0 0]
    | .x1 o33 o34 o35 o36 o37 o38 o39 o40 q41 q42 => [.d (.slice o33), .ptr 0 0]
  outB := fun x => match x with
    | .x0 o19 o20 o21 o22 o23 o24 o25 o26 q27 => [.cells (some 27) [.d (.val (.int .i64 o20)), .d (.val (.int .i64 o21)), .d (.val (.int .i64 o22)), .d (.val (.int .i64 o23))], .cells none [.d (.val (.string o24)), .d (.slice o25), .d (.val (.int .i64 o26))]]
    | .x1 o33 o34 o35 o36 o37 o38 o39 o40 q41 q42 => [.cells (some 27) [.d (.val (.int .i64 o34)), .d (.val (.int .i64 o35)), .d (.val (.int .i64 o36)), .d (.val (.int .i64 o37))], .cells none [.d (.val (.string o38)), .d (.slice o39), .d (.val (.int .i64 o40))]]
  tkO := fun x => match x with
    | .x0 o19 o20 o21 o22 o23 o24 o25 o26 q27 => [q27, o19.length]
    | .x1 o33 o34 o35 o36 o37 o38 o39 o40 q41 q42 => [q41, q42]
  elim := fun x k => match x with
    | .x0 o19 o20 o21 o22 o23 o24 o25 o26 q27 => k .ret [.osl 1 o19, .ptr 0 0] [.cells (some 27) [.d (.val (.int .i64 o20)), .d (.val (.int .i64 o21)), .d (.val (.int .i64 o22)), .d (.val (.int .i64 o23))], .cells none [.d (.val (.string o24)), .d (.slice o25), .d (.val (.int .i64 o26))]] [q27, o19.length]
    | .x1 o33 o34 o35 o36 o37 o38 o39 o40 q41 q42 => k .ret [.d (.slice o33), .ptr 0 0] [.cells (some 27) [.d (.val (.int .i64 o34)), .d (.val (.int .i64 o35)), .d (.val (.int .i64 o36)), .d (.val (.int .i64 o37))], .cells none [.d (.val (.string o38)), .d (.slice o39), .d (.val (.int .i64 o40))]] [q41, q42]
theorem k19_0 : l19_0.Ok where
  ok1 := by kernel_rfl
  ok2 := by kernel_rfl
  dec := by
    intro vs bs ts a h
    simp only [l19_0] at h ⊢
    split at h
    · cases h; exact ⟨rfl, rfl⟩
    · cases h
  out := by
    intro ex vs bs ts o h
    simp only [l19_0] at h ⊢
    split at h
    · cases h; exact ⟨rfl, rfl, rfl⟩
    · cases h; exact ⟨rfl, rfl, rfl⟩
    · cases h
  len := fun _ => ⟨rfl, rfl⟩
  elim := fun β o k => by cases o <;> rfl
def L19_0 {σ : Type} : Nat → A19_0 → σ → Option (O19_0 × σ)
  | 0, _, _ => none
  | n+1, (v7, v8, v9, v10, v11, v12, v13, v14, v15, k16), s => ((n62 (v13, v14, v15)).bind fun y17 => (bif (decide (y17.2.2 ≥ ((y17.2.1.length : Nat) : Int))) then ((n63 (v7, (v7.size : Int))).bind fun y18 => (ask (addOk v8.length v8 ([.agg [.val (.int .i64 0), .val (.int .i64 y18.1), .val (.int .i64 y18.2.1), .val (.int .i64 y18.2.2), .val (.string (⟨#[]⟩ : ByteArray)), .val (.int .i64 0)]] : List D) 6 56) (ask (([k16, (v8.length + ([.agg [.val (.int .i64 0), .val (.int .i64 y18.1), .val (.int .i64 y18.2.1), .val (.int .i64 y18.2.2), .val (.string (⟨#[]⟩ : ByteArray)), .val (.int .i64 0)]] : List D).length)] : List Nat) = [k16, (v8 ++ ([.agg [.val (.int .i64 0), .val (.int .i64 y18.1), .val (.int .i64 y18.2.1), .val (.int .i64 y18.2.2), .val (.string (⟨#[]⟩ : ByteArray)), .val (.int .i64 0)]] : List D)).length]) (some (O19_0.x0 (v8 ++ ([.agg [.val (.int .i64 0), .val (.int .i64 y18.1), .val (.int .i64 y18.2.1), .val (.int .i64 y18.2.2), .val (.string (⟨#[]⟩ : ByteArray)), .val (.int .i64 0)]] : List D)) 0 0 0 0 y17.1 y17.2.1 y17.2.2 k16, s))))) else ((lidx y17.2.1 y17.2.2).bind fun d28 => ask (d28.cells.length = 3) ((cellAt 1 d28).bind fun x29 => (asInt .i64 x29).bind fun x30 => ((n64 (y17.1, y17.2.1, y17.2.2)).bind fun y31 => (bif (y31.2.2.2.2.2.2.1 != 0) then ((n63 (v7, x30)).bind fun y32 => (ask (([k16, v8.length] : List Nat) = [k16, v8.length]) (some (O19_0.x1 ([] : List D) y31.2.2.2.2.2.2.1 y32.1 y32.2.1 y32.2.2 y31.2.2.2.2.2.2.2.1 y31.2.2.2.2.2.2.2.2.1 y31.2.2.2.2.2.2.2.2.2 k16 v8.length, s)))) else ((n63 (v7, x30)).bind fun y43 => (ask (addOk v8.length v8 ([.agg [.val (.int .i64 y31.1), .val (.int .i64 y43.1), .val (.int .i64 y43.2.1), .val (.int .i64 y43.2.2), .val (.string y31.2.2.2.2.1), .val (.int .i64 y31.2.2.2.2.2.1)]] : List D) 6 56) (ask (([k16, (v8.length + ([.agg [.val (.int .i64 y31.1), .val (.int .i64 y43.1), .val (.int .i64 y43.2.1), .val (.int .i64 y43.2.2), .val (.string y31.2.2.2.2.1), .val (.int .i64 y31.2.2.2.2.2.1)]] : List D).length)] : List Nat) = [k16, (v8 ++ ([.agg [.val (.int .i64 y31.1), .val (.int .i64 y43.1), .val (.int .i64 y43.2.1), .val (.int .i64 y43.2.2), .val (.string y31.2.2.2.2.1), .val (.int .i64 y31.2.2.2.2.2.1)]] : List D)).length]) (L19_0 n (v7, (v8 ++ ([.agg [.val (.int .i64 y31.1), .val (.int .i64 y43.1), .val (.int .i64 y43.2.1), .val (.int .i64 y43.2.2), .val (.string y31.2.2.2.2.1), .val (.int .i64 y31.2.2.2.2.2.1)]] : List D)), v9, v10, v11, v12, y31.2.2.2.2.2.2.2.1, y31.2.2.2.2.2.2.2.2.1, y31.2.2.2.2.2.2.2.2.2, k16) s))))))))))
def d19 (ds : List D) : Option (ByteArray) := match ds with
  | [.val (.string a0)] => some a0
  | _ => none
def r19 (v : AV) : Option (List D × Int × Int × Int × Int) := match toPR v with
  | some (.many [.slice a1, .agg [.val (.int .i64 a2), .val (.int .i64 a3), .val (.int .i64 a4), .val (.int .i64 a5)]]) => some (a1, a2, a3, a4, a5)
  | _ => none
def n19 : ByteArray → Option (List D × Int × Int × Int × Int) := fun a0 => ((n29 a0).bind fun y6 => (ask (([0, 0] : List Nat) = [0, ([] : List D).length]) ((L19_0 1000000000000 (a0, ([] : List D), 0, 0, 0, 0, a0, y6, 0, 0) ()).bind fun p44 => match p44.1 with | .x0 z45 z46 z47 z48 z49 z50 z51 z52 z53 => (some (z45, z46, z47, z48, z49)) | .x1 z54 z55 z56 z57 z58 z59 z60 z61 z62 z63 => (some (z54, z55, z56, z57, z58)))))
def e19 : PureE := mkE d19 n19 (fun (a1, a2, a3, a4, a5) => .many [.slice a1, .agg [.val (.int .i64 a2), .val (.int .i64 a3), .val (.int .i64 a4), .val (.int .i64 a5)]])
def g19 {σ : Type} : Nat → Option (SegE σ)
  | 0 => some (l19_0.seg σ (L19_0 1000000000000))
  | _ => none
theorem E19_0 {σ : Type} (Y : Yd σ) : ∀ n a (s : σ), L19_0 (n + 1) a s = evK (cfgOf Tryd.prog (tabsS9 gl) tS9) (toldOf tS9) Y (inlN (cfgOf Tryd.prog (tabsS9 gl) tS9) (toldOf tS9) Y) g19 19 (loopAt Tryd.f19 0) ((l19_0.toT σ).enc a s) (fun ex st' => l19_0.next (cfgOf Tryd.prog (tabsS9 gl) tS9) 19 0 (L19_0 n) ex st') := by
  intro n ⟨v7, v8, v9, v10, v11, v12, v13, v14, v15, k16⟩ s
  kernel_rfl
theorem Q19_0 {σ : Type} (hl : LibFits2 gl) (Y : Yd σ) (rnd : Bool) : SegOk (cfgOf Tryd.prog (tabsS9 gl) tS9) (evFn (cfgOf Tryd.prog (tabsS9 gl) tS9) 9) 19 rnd Y (l19_0.seg σ (L19_0 1000000000000)) (.block 0 (.loop (loopAt Tryd.f19 0))) :=
  told_loop (okS9 hl) k19_0 (by kernel_rfl) (by kernel_rfl) (fun _ _ => rfl) (segs_no (by kernel_rfl)) (E19_0 Y)
theorem N19 : ∀ a, n19 a = bodyK (cfgOf Tryd.prog (tabsS9 gl) tS9) (toldOf tS9) noY (inlN (cfgOf Tryd.prog (tabsS9 gl) tS9) (toldOf tS9) noY) g19 19 Tryd.f19 (((fun a0 => [.val (.string a0)] : (ByteArray) → List D) a).map .d) [] [] () (fun v _ _ _ => r19 v) := by
  intro a0
  kernel_rfl
noncomputable def t19 : Tab := (19, e19) :: tS9
theorem ok19 (hl : LibFits2 gl) : TabOk Tryd.prog gl t19 :=
  told_fn (okS9 hl) mixed (oddOkS9 hl) Tryd.func19 (by kernel_rfl) (by kernel_rfl) (by kernel_rfl) (fun p hp e he => by
    have hq : segsOf (σ := Unit) (g19 (σ := Unit)) (bodyOf Tryd.f19) = [(0, .loop (loopAt Tryd.f19 0))] := by kernel_rfl
    rw [hq] at hp
    simp only [List.mem_cons, List.not_mem_nil, or_false] at hp
    subst hp
    cases he
    exact Q19_0 hl _ _)
    (args := fun a0 => [.val (.string a0)]) (res := r19)
    (fun ds a h => by
      unfold d19 at h
      split at h
      · cases h; rfl
      · cases h)
    (fun v r h => by
      unfold r19 at h
      split at h
      · rename_i hv; cases h; exact hv
      · cases h)
    N19
abbrev AT19_0 := ByteArray × List D × Int × Int × Int × Int × ByteArray × List D × Int × Nat
inductive OT19_0 where
  | x0 (o19 : List D) (o20 : Int) (o21 : Int) (o22 : Int) (o23 : Int) (o24 : ByteArray) (o25 : List D) (o26 : Int) (q27 : Nat)
  | x1 (o33 : List D) (o34 : Int) (o35 : Int) (o36 : Int) (o37 : Int) (o38 : ByteArray) (o39 : List D) (o40 : Int) (q41 : Nat) (q42 : Nat)
def lT19_0 : LoopS AT19_0 OT19_0 where
  n := 66
  ks := [0, 3, 4, 5]
  kso := [2, 3]
  m := 2
  mt := 2
  decV := fun vs bs ts => match vs, bs, ts with
    | [.d (.val (.string v7)), .ptr 0 0, .ptr 1 0, .osl 1 v8], [.cells (some 27) [.d (.val (.int .i64 v9)), .d (.val (.int .i64 v10)), .d (.val (.int .i64 v11)), .d (.val (.int .i64 v12))], .cells none [.d (.val (.string v13)), .d (.slice v14), .d (.val (.int .i64 v15))]], [k16, _] => some (v7, v8, v9, v10, v11, v12, v13, v14, v15, k16)
    | _, _, _ => none
  encV := fun (v7, v8, v9, v10, v11, v12, v13, v14, v15, k16) => [.d (.val (.string v7)), .ptr 0 0, .ptr 1 0, .osl 1 v8]
  encB := fun (v7, v8, v9, v10, v11, v12, v13, v14, v15, k16) => [.cells (some 27) [.d (.val (.int .i64 v9)), .d (.val (.int .i64 v10)), .d (.val (.int .i64 v11)), .d (.val (.int .i64 v12))], .cells none [.d (.val (.string v13)), .d (.slice v14), .d (.val (.int .i64 v15))]]
  tk := fun (v7, v8, v9, v10, v11, v12, v13, v14, v15, k16) => [k16, v8.length]
  decO := fun ex vs bs ts => match ex, vs, bs, ts with
    | .ret, [.osl 1 o19, .ptr 0 0], [.cells (some 27) [.d (.val (.int .i64 o20)), .d (.val (.int .i64 o21)), .d (.val (.int .i64 o22)), .d (.val (.int .i64 o23))], .cells none [.d (.val (.string o24)), .d (.slice o25), .d (.val (.int .i64 o26))]], [q27, _] => some (.x0 o19 o20 o21 o22 o23 o24 o25 o26 q27)
    | .ret, [.d (.slice o33), .ptr 0 0], [.cells (some 27) [.d (.val (.int .i64 o34)), .d (.val (.int .i64 o35)), .d (.val (.int .i64 o36)), .d (.val (.int .i64 o37))], .cells none [.d (.val (.string o38)), .d (.slice o39), .d (.val (.int .i64 o40))]], [q41, q42] => some (.x1 o33 o34 o35 o36 o37 o38 o39 o40 q41 q42)
    | _, _, _, _ => none
  exO := fun x => match x with
    | .x0 o19 o20 o21 o22 o23 o24 o25 o26 q27 => .ret
    | .x1 o33 o34 o35 o36 o37 o38 o39 o40 q41 q42 => .ret
  outV := fun x => match x with
    | .x0 o19 o20 o21 o22 o23 o24 o25 o26 q27 => [.osl 1 o19, .ptr 0 0]
    | .x1 o33 o34 o35 o36 o37 o38 o39 o40 q41 q42 => [.d (.slice o33), .ptr 0 0]
  outB := fun x => match x with
    | .x0 o19 o20 o21 o22 o23 o24 o25 o26 q27 => [.cells (some 27) [.d (.val (.int .i64 o20)), .d (.val (.int .i64 o21)), .d (.val (.int .i64 o22)), .d (.val (.int .i64 o23))], .cells none [.d (.val (.string o24)), .d (.slice o25), .d (.val (.int .i64 o26))]]
    | .x1 o33 o34 o35 o36 o37 o38 o39 o40 q41 q42 => [.cells (some 27) [.d (.val (.int .i64 o34)), .d (.val (.int .i64 o35)), .d (.val (.int .i64 o36)), .d (.val (.int .i64 o37))], .cells none [.d (.val (.string o38)), .d (.slice o39), .d (.val (.int .i64 o40))]]
  tkO := fun x => match x with
    | .x0 o19 o20 o21 o22 o23 o24 o25 o26 q27 => [q27, o19.length]
    | .x1 o33 o34 o35 o36 o37 o38 o39 o40 q41 q42 => [q41, q42]
  elim := fun x k => match x with
    | .x0 o19 o20 o21 o22 o23 o24 o25 o26 q27 => k .ret [.osl 1 o19, .ptr 0 0] [.cells (some 27) [.d (.val (.int .i64 o20)), .d (.val (.int .i64 o21)), .d (.val (.int .i64 o22)), .d (.val (.int .i64 o23))], .cells none [.d (.val (.string o24)), .d (.slice o25), .d (.val (.int .i64 o26))]] [q27, o19.length]
    | .x1 o33 o34 o35 o36 o37 o38 o39 o40 q41 q42 => k .ret [.d (.slice o33), .ptr 0 0] [.cells (some 27) [.d (.val (.int .i64 o34)), .d (.val (.int .i64 o35)), .d (.val (.int .i64 o36)), .d (.val (.int .i64 o37))], .cells none [.d (.val (.string o38)), .d (.slice o39), .d (.val (.int .i64 o40))]] [q41, q42]
theorem kT19_0 : lT19_0.Ok where
  ok1 := by kernel_rfl
  ok2 := by kernel_rfl
  dec := by
    intro vs bs ts a h
    simp only [lT19_0] at h ⊢
    split at h
    · cases h; exact ⟨rfl, rfl⟩
    · cases h
  out := by
    intro ex vs bs ts o h
    simp only [lT19_0] at h ⊢
    split at h
    · cases h; exact ⟨rfl, rfl, rfl⟩
    · cases h; exact ⟨rfl, rfl, rfl⟩
    · cases h
  len := fun _ => ⟨rfl, rfl⟩
  elim := fun β o k => by cases o <;> rfl
def LT19_0 {σ : Type} : Nat → AT19_0 → σ → Option (OT19_0 × σ)
  | 0, _, _ => none
  | n+1, (v7, v8, v9, v10, v11, v12, v13, v14, v15, k16), s => ((n62 (v13, v14, v15)).bind fun y17 => (bif (decide (y17.2.2 ≥ ((y17.2.1.length : Nat) : Int))) then ((n63 (v7, (v7.size : Int))).bind fun y18 => (ask (addOk v8.length v8 ([.agg [.val (.int .i64 0), .val (.int .i64 y18.1), .val (.int .i64 y18.2.1), .val (.int .i64 y18.2.2), .val (.string (⟨#[]⟩ : ByteArray)), .val (.int .i64 0)]] : List D) 6 56) (ask (([k16, (v8.length + ([.agg [.val (.int .i64 0), .val (.int .i64 y18.1), .val (.int .i64 y18.2.1), .val (.int .i64 y18.2.2), .val (.string (⟨#[]⟩ : ByteArray)), .val (.int .i64 0)]] : List D).length)] : List Nat) = [k16, (v8 ++ ([.agg [.val (.int .i64 0), .val (.int .i64 y18.1), .val (.int .i64 y18.2.1), .val (.int .i64 y18.2.2), .val (.string (⟨#[]⟩ : ByteArray)), .val (.int .i64 0)]] : List D)).length]) (some (OT19_0.x0 (v8 ++ ([.agg [.val (.int .i64 0), .val (.int .i64 y18.1), .val (.int .i64 y18.2.1), .val (.int .i64 y18.2.2), .val (.string (⟨#[]⟩ : ByteArray)), .val (.int .i64 0)]] : List D)) 0 0 0 0 y17.1 y17.2.1 y17.2.2 k16, s))))) else ((lidx y17.2.1 y17.2.2).bind fun d28 => ask (d28.cells.length = 3) ((cellAt 1 d28).bind fun x29 => (asInt .i64 x29).bind fun x30 => ((n64 (y17.1, y17.2.1, y17.2.2)).bind fun y31 => (bif (y31.2.2.2.2.2.2.1 != 0) then ((n63 (v7, x30)).bind fun y32 => (ask (([k16, v8.length] : List Nat) = [k16, v8.length]) (some (OT19_0.x1 ([] : List D) y31.2.2.2.2.2.2.1 y32.1 y32.2.1 y32.2.2 y31.2.2.2.2.2.2.2.1 y31.2.2.2.2.2.2.2.2.1 y31.2.2.2.2.2.2.2.2.2 k16 v8.length, s)))) else ((n63 (v7, x30)).bind fun y43 => (ask (addOk v8.length v8 ([.agg [.val (.int .i64 y31.1), .val (.int .i64 y43.1), .val (.int .i64 y43.2.1), .val (.int .i64 y43.2.2), .val (.string y31.2.2.2.2.1), .val (.int .i64 y31.2.2.2.2.2.1)]] : List D) 6 56) (ask (([k16, (v8.length + ([.agg [.val (.int .i64 y31.1), .val (.int .i64 y43.1), .val (.int .i64 y43.2.1), .val (.int .i64 y43.2.2), .val (.string y31.2.2.2.2.1), .val (.int .i64 y31.2.2.2.2.2.1)]] : List D).length)] : List Nat) = [k16, (v8 ++ ([.agg [.val (.int .i64 y31.1), .val (.int .i64 y43.1), .val (.int .i64 y43.2.1), .val (.int .i64 y43.2.2), .val (.string y31.2.2.2.2.1), .val (.int .i64 y31.2.2.2.2.2.1)]] : List D)).length]) (LT19_0 n (v7, (v8 ++ ([.agg [.val (.int .i64 y31.1), .val (.int .i64 y43.1), .val (.int .i64 y43.2.1), .val (.int .i64 y43.2.2), .val (.string y31.2.2.2.2.1), .val (.int .i64 y31.2.2.2.2.2.1)]] : List D)), v9, v10, v11, v12, y31.2.2.2.2.2.2.2.1, y31.2.2.2.2.2.2.2.2.1, y31.2.2.2.2.2.2.2.2.2, k16) s))))))))))
def dT19 (ds : List D) : Option (ByteArray) := match ds with
  | [.val (.string a0)] => some a0
  | _ => none
def rT19 (v : AV) (tk : List Nat) : Option (List D × Int × Int × Int × Int) := match v with
  | .tup [.osl j r5, .d (.agg [.val (.int .i64 a1), .val (.int .i64 a2), .val (.int .i64 a3), .val (.int .i64 a4)])] => (tk[j]?).bind fun n => ask (n = r5.length) (some (r5, a1, a2, a3, a4))
  | .tup [.nsl, .d (.agg [.val (.int .i64 a1), .val (.int .i64 a2), .val (.int .i64 a3), .val (.int .i64 a4)])] => some ([], a1, a2, a3, a4)
  | .tup [.d (.slice r5), .d (.agg [.val (.int .i64 a1), .val (.int .i64 a2), .val (.int .i64 a3), .val (.int .i64 a4)])] => ask (r5.length = 0) (some ([], a1, a2, a3, a4))
  | _ => none
def wT19 : (List D × Int × Int × Int × Int) → List D := fun (r5, a1, a2, a3, a4) => r5
def xT19 : (List D × Int × Int × Int × Int) → List D := fun (r5, a1, a2, a3, a4) => [.agg [.val (.int .i64 a1), .val (.int .i64 a2), .val (.int .i64 a3), .val (.int .i64 a4)]]
def nT19 : ByteArray → Option (List D × Int × Int × Int × Int) := fun a0 => ((n29 a0).bind fun y6 => (ask (([0, 0] : List Nat) = [0, ([] : List D).length]) ((LT19_0 1000000000000 (a0, ([] : List D), 0, 0, 0, 0, a0, y6, 0, 0) ()).bind fun p44 => match p44.1 with | .x0 z45 z46 z47 z48 z49 z50 z51 z52 z53 => (ask (z45.length = z45.length) (some (z45, z46, z47, z48, z49))) | .x1 z54 z55 z56 z57 z58 z59 z60 z61 z62 z63 => (ask (z54.length = 0) (some (([] : List D), z55, z56, z57, z58))))))
def gT19 {σ : Type} : Nat → Option (SegE σ)
  | 0 => some (lT19_0.seg σ (LT19_0 1000000000000))
  | _ => none
theorem ET19_0 {σ : Type} (Y : Yd σ) : ∀ n a (s : σ), LT19_0 (n + 1) a s = evK (cfgOf Tryd.prog (tabsS9 gl) tS9) (toldOf tS9) Y (inlN (cfgOf Tryd.prog (tabsS9 gl) tS9) (toldOf tS9) Y) gT19 19 (loopAt Tryd.f19 0) ((lT19_0.toT σ).enc a s) (fun ex st' => lT19_0.next (cfgOf Tryd.prog (tabsS9 gl) tS9) 19 0 (LT19_0 n) ex st') := by
  intro n ⟨v7, v8, v9, v10, v11, v12, v13, v14, v15, k16⟩ s
  kernel_rfl
theorem QT19_0 {σ : Type} (hl : LibFits2 gl) (Y : Yd σ) (rnd : Bool) : SegOk (cfgOf Tryd.prog (tabsS9 gl) tS9) (evFn (cfgOf Tryd.prog (tabsS9 gl) tS9) 9) 19 rnd Y (lT19_0.seg σ (LT19_0 1000000000000)) (.block 0 (.loop (loopAt Tryd.f19 0))) :=
  told_loop (okS9 hl) kT19_0 (by kernel_rfl) (by kernel_rfl) (fun _ _ => rfl) (segs_no (by kernel_rfl)) (ET19_0 Y)
theorem NT19 : ∀ a, nT19 a = bodyK (cfgOf Tryd.prog (tabsS9 gl) tS9) (toldOf tS9) noY (inlN (cfgOf Tryd.prog (tabsS9 gl) tS9) (toldOf tS9) noY) gT19 19 Tryd.f19 (((fun a0 => [.val (.string a0)] : (ByteArray) → List D) a).map .d) [] [] () (fun v _ tk _ => rT19 v tk) := by
  intro a0
  kernel_rfl
theorem omT19 (hl : LibFits2 gl) : OddSound Tryd.prog gl (fun g => bif Nat.beq g 19 then some (thawE dT19 nT19 wT19 xT19 6) else (tabsS9 gl).odd g) :=
  told_thaw (t := tabsS9 gl) (okS9 hl) mixed (oddOkS9 hl) Tryd.func19 (by kernel_rfl) (by kernel_rfl) (row := wT19) (rest := xT19) (args := fun a0 => [.val (.string a0)]) (res := rT19) (by kernel_rfl) (fun p hp e he => by
    have hq : segsOf (σ := Unit) (gT19 (σ := Unit)) (bodyOf Tryd.f19) = [(0, .loop (loopAt Tryd.f19 0))] := by kernel_rfl
    rw [hq] at hp
    simp only [List.mem_cons, List.not_mem_nil, or_false] at hp
    subst hp
    cases he
    exact QT19_0 hl _ _)
    (fun ds a h => by
      unfold dT19 at h
      split at h
      · cases h; rfl
      · cases h)
    (fun v tk o h => by
      unfold rT19 at h
      split at h
      · obtain ⟨n, h1, h2⟩ := bind_some h
        obtain ⟨h3, h4⟩ := ask_some h2
        cases h4
        exact ⟨.inl ⟨_, rfl, h1.trans (congrArg some h3)⟩, rfl⟩
      · cases h; exact ⟨.inr ⟨_, rfl, rfl, rfl⟩, rfl⟩
      · obtain ⟨h1, h2⟩ := ask_some h
        cases h2
        exact ⟨.inr ⟨_, len0 h1, rfl, rfl⟩, rfl⟩
      · cases h)
    NT19
abbrev A20_0 := List D × List D × Int
inductive O20_0 where
  | x0 (o32 : Bool)
  | x1 
def l20_0 : LoopS A20_0 O20_0 where
  n := 26
  ks := [0, 1, 5]
  kso := [4]
  m := 0
  mt := 0
  decV := fun vs bs ts => match vs, bs, ts with
    | [.d (.slice v3), .d (.slice v4), .d (.val (.int .i64 v5))], [], [] => some (v3, v4, v5)
    | _, _, _ => none
  encV := fun (v3, v4, v5) => [.d (.slice v3), .d (.slice v4), .d (.val (.int .i64 v5))]
  encB := fun (v3, v4, v5) => []
  tk := fun _ => []
  decO := fun ex vs bs ts => match ex, vs, bs, ts with
    | .ret, [.d (.val (.bool o32))], [], [] => some (.x0 o32)
    | .normal, [.undef], [], [] => some (.x1 )
    | _, _, _, _ => none
  exO := fun x => match x with
    | .x0 o32 => .ret
    | .x1  => .normal
  outV := fun x => match x with
    | .x0 o32 => [.d (.val (.bool o32))]
    | .x1  => [.undef]
  outB := fun x => match x with
    | .x0 o32 => []
    | .x1  => []
  tkO := fun x => match x with
    | .x0 o32 => []
    | .x1  => []
  elim := fun x k => match x with
    | .x0 o32 => k .ret [.d (.val (.bool o32))] [] []
    | .x1  => k .normal [.undef] [] []
theorem k20_0 : l20_0.Ok where
  ok1 := by kernel_rfl
  ok2 := by kernel_rfl
  dec := by
    intro vs bs ts a h
    simp only [l20_0] at h ⊢
    split at h
    · cases h; exact ⟨rfl, rfl⟩
    · cases h
  out := by
    intro ex vs bs ts o h
    simp only [l20_0] at h ⊢
    split at h
    · cases h; exact ⟨rfl, rfl, rfl⟩
    · cases h; exact ⟨rfl, rfl, rfl⟩
    · cases h
  len := fun _ => ⟨rfl, rfl⟩
  elim := fun β o k => by cases o <;> rfl
def L20_0 {σ : Type} : Nat → A20_0 → σ → Option (O20_0 × σ)
  | 0, _, _ => none
  | n+1, (v3, v4, v5), s => (bif (decide (v5 < ((v3.length : Nat) : Int))) then ((lidx v3 v5).bind fun d6 => ask (d6.cells.length = 6) ((cellAt 0 d6).bind fun x7 => (asInt .i64 x7).bind fun x8 => ((cellAt 1 d6).bind fun x9 => (asInt .i64 x9).bind fun x10 => ((cellAt 2 d6).bind fun x11 => (asInt .i64 x11).bind fun x12 => ((cellAt 3 d6).bind fun x13 => (asInt .i64 x13).bind fun x14 => ((cellAt 4 d6).bind fun x15 => (asStr x15).bind fun x16 => ((cellAt 5 d6).bind fun x17 => (asInt .i64 x17).bind fun x18 => ((lidx v4 v5).bind fun d19 => ask (d19.cells.length = 6) ((cellAt 0 d19).bind fun x20 => (asInt .i64 x20).bind fun x21 => ((cellAt 1 d19).bind fun x22 => (asInt .i64 x22).bind fun x23 => ((cellAt 2 d19).bind fun x24 => (asInt .i64 x24).bind fun x25 => ((cellAt 3 d19).bind fun x26 => (asInt .i64 x26).bind fun x27 => ((cellAt 4 d19).bind fun x28 => (asStr x28).bind fun x29 => ((cellAt 5 d19).bind fun x30 => (asInt .i64 x30).bind fun x31 => (bif (!((x8 == x21) && (((x10 == x23) && ((x12 == x25) && ((x14 == x27) && true))) && ((sEq x16 x29) && ((x18 == x31) && true))))) then (some (O20_0.x0 false, s)) else (L20_0 n (v3, v4, (w64 (v5 + 1))) s)))))))))))))))) else (some (O20_0.x1 , s)))
def d20 (ds : List D) : Option (List D × List D) := match ds with
  | [.slice a0, .slice a1] => some (a0, a1)
  | _ => none
def r20 (v : AV) : Option (Bool) := match toPR v with
  | some (.one (.val (.bool a2))) => some a2
  | _ => none
def n20 : List D × List D → Option (Bool) := fun (a0, a1) => (bif (((a0.length : Nat) : Int) != ((a1.length : Nat) : Int)) then (some false) else ((L20_0 1000000000000 (a0, a1, 0) ()).bind fun p33 => match p33.1 with | .x0 z34 => (some z34) | .x1  => (some true)))
def e20 : PureE := mkE d20 n20 (fun a2 => .one (.val (.bool a2)))
def g20 {σ : Type} : Nat → Option (SegE σ)
  | 0 => some (l20_0.seg σ (L20_0 1000000000000))
  | _ => none
theorem E20_0 {σ : Type} (Y : Yd σ) : ∀ n a (s : σ), L20_0 (n + 1) a s = evK (cfgOf Tryd.prog (tabsS9 gl) tS9) (toldOf tS9) Y (inlN (cfgOf Tryd.prog (tabsS9 gl) tS9) (toldOf tS9) Y) g20 20 (loopAt Tryd.f20 0) ((l20_0.toT σ).enc a s) (fun ex st' => l20_0.next (cfgOf Tryd.prog (tabsS9 gl) tS9) 20 0 (L20_0 n) ex st') := by
  intro n ⟨v3, v4, v5⟩ s
  kernel_rfl
theorem Q20_0 {σ : Type} (hl : LibFits2 gl) (Y : Yd σ) (rnd : Bool) : SegOk (cfgOf Tryd.prog (tabsS9 gl) tS9) (evFn (cfgOf Tryd.prog (tabsS9 gl) tS9) 9) 20 rnd Y (l20_0.seg σ (L20_0 1000000000000)) (.block 0 (.loop (loopAt Tryd.f20 0))) :=
  told_loop (okS9 hl) k20_0 (by kernel_rfl) (by kernel_rfl) (fun _ _ => rfl) (segs_no (by kernel_rfl)) (E20_0 Y)
theorem N20 : ∀ a, n20 a = bodyK (cfgOf Tryd.prog (tabsS9 gl) tS9) (toldOf tS9) noY (inlN (cfgOf Tryd.prog (tabsS9 gl) tS9) (toldOf tS9) noY) g20 20 Tryd.f20 (((fun (a0, a1) => [.slice a0, .slice a1] : (List D × List D) → List D) a).map .d) [] [] () (fun v _ _ _ => r20 v) := by
  intro a
  obtain ⟨a0, a1⟩ := a
  kernel_rfl
noncomputable def t20 : Tab := (20, e20) :: tS9
theorem ok20 (hl : LibFits2 gl) : TabOk Tryd.prog gl t20 :=
  told_fn (okS9 hl) mixed (oddOkS9 hl) Tryd.func20 (by kernel_rfl) (by kernel_rfl) (by kernel_rfl) (fun p hp e he => by
    have hq : segsOf (σ := Unit) (g20 (σ := Unit)) (bodyOf Tryd.f20) = [(0, .loop (loopAt Tryd.f20 0))] := by kernel_rfl
    rw [hq] at hp
    simp only [List.mem_cons, List.not_mem_nil, or_false] at hp
    subst hp
    cases he
    exact Q20_0 hl _ _)
    (args := fun (a0, a1) => [.slice a0, .slice a1]) (res := r20)
    (fun ds a h => by
      unfold d20 at h
      split at h
      · cases h; rfl
      · cases h)
    (fun v r h => by
      unfold r20 at h
      split at h
      · rename_i hv; cases h; exact hv
      · cases h)
    N20
noncomputable def tabsS10 (gl : Nat → Option (List D)) : Tabs := { tabsS9 gl with odd := fun g => bif Nat.beq g 19 then some (thawE dT19 nT19 wT19 xT19 6) else ((tabsS9 gl).odd g) }
theorem oddOkS10 (hl : LibFits2 gl) : OddSound Tryd.prog gl (tabsS10 gl).odd := OddSound.join (omT19 hl) ((oddOkS9 hl))
noncomputable def tS10 : Tab := (18, e18) :: (19, e19) :: (20, e20) :: tS9
theorem okS10 (hl : LibFits2 gl) : TabOk Tryd.prog gl tS10 :=
  TabOk.cons (TabOk.cons (TabOk.cons (okS9 hl) ((ok20 hl).fair (20, e20) (List.mem_cons_self (l := tS9))) ((ok20 hl).spec (20, e20) (List.mem_cons_self (l := tS9)))) ((ok19 hl).fair (19, e19) (List.mem_cons_self (l := tS9))) ((ok19 hl).spec (19, e19) (List.mem_cons_self (l := tS9)))) ((ok18 hl).fair (18, e18) (List.mem_cons_self (l := tS9))) ((ok18 hl).spec (18, e18) (List.mem_cons_self (l := tS9)))
def d22 (ds : List D) : Option (Int × Int × Int × Int × ByteArray × Int) := match ds with
  | [.agg [.val (.int .i64 a0), .val (.int .i64 a1), .val (.int .i64 a2), .val (.int .i64 a3), .val (.string a4), .val (.int .i64 a5)]] => some (a0, a1, a2, a3, a4, a5)
  | _ => none
def r22 (v : AV) : Option (ByteArray × Int) := match toPR v with
  | some (.many [.val (.string a6), .val (.int .i64 a7)]) => some (a6, a7)
  | _ => none
def n22 : Int × Int × Int × Int × ByteArray × Int → Option (ByteArray × Int) := fun (a0, a1, a2, a3, a4, a5) => (bif (a0 == 1) then ((n18 a4).bind fun y8 => (bif (bif (y8.2.1 != 0) then true else (decide (((y8.1.length : Nat) : Int) > 2))) then (some ((⟨#[]⟩ : ByteArray), 2)) else ((lidx y8.1 0).bind fun d9 => ask (d9.cells.length = 6) ((cellAt 0 d9).bind fun x10 => (asInt .i64 x10).bind fun x11 => ((cellAt 1 d9).bind fun x12 => (asInt .i64 x12).bind fun x13 => ((cellAt 2 d9).bind fun x14 => (asInt .i64 x14).bind fun x15 => ((cellAt 3 d9).bind fun x16 => (asInt .i64 x16).bind fun x17 => ((cellAt 4 d9).bind fun x18 => (asStr x18).bind fun x19 => ((cellAt 5 d9).bind fun x20 => (asInt .i64 x20).bind fun x21 => (bif (!((x11 == a0) && (((0 == 0) && ((0 == 0) && ((0 == 0) && true))) && ((sEq x19 a4) && ((x21 == a5) && true))))) then (some ((⟨#[]⟩ : ByteArray), 2)) else (bif (!(sEq a4 (⟨#[]⟩ : ByteArray))) then (bif (((y8.1.length : Nat) : Int) != 2) then (some ((⟨#[]⟩ : ByteArray), 2)) else (some (a4, 0))) else (some (a4, 0))))))))))))) else (bif (a0 == 4) then ((n18 a4).bind fun y22 => (bif (bif (y22.2.1 != 0) then true else (decide (((y22.1.length : Nat) : Int) > 2))) then (some ((⟨#[]⟩ : ByteArray), 2)) else ((lidx y22.1 0).bind fun d23 => ask (d23.cells.length = 6) ((cellAt 0 d23).bind fun x24 => (asInt .i64 x24).bind fun x25 => ((cellAt 1 d23).bind fun x26 => (asInt .i64 x26).bind fun x27 => ((cellAt 2 d23).bind fun x28 => (asInt .i64 x28).bind fun x29 => ((cellAt 3 d23).bind fun x30 => (asInt .i64 x30).bind fun x31 => ((cellAt 4 d23).bind fun x32 => (asStr x32).bind fun x33 => ((cellAt 5 d23).bind fun x34 => (asInt .i64 x34).bind fun x35 => (bif (!((x25 == a0) && (((0 == 0) && ((0 == 0) && ((0 == 0) && true))) && ((sEq x33 a4) && ((x35 == a5) && true))))) then (some ((⟨#[]⟩ : ByteArray), 2)) else (bif (!(sEq a4 (⟨#[]⟩ : ByteArray))) then (bif (((y22.1.length : Nat) : Int) != 2) then (some ((⟨#[]⟩ : ByteArray), 2)) else (some (a4, 0))) else (some (a4, 0))))))))))))) else (bif (a0 == 3) then (ask (catOk (⟨#[35]⟩ : ByteArray) a4) ((n18 ((⟨#[35]⟩ : ByteArray) ++ a4)).bind fun y36 => (bif (bif (y36.2.1 != 0) then true else (decide (((y36.1.length : Nat) : Int) > 2))) then (some ((⟨#[]⟩ : ByteArray), 2)) else ((lidx y36.1 0).bind fun d37 => ask (d37.cells.length = 6) ((cellAt 0 d37).bind fun x38 => (asInt .i64 x38).bind fun x39 => ((cellAt 1 d37).bind fun x40 => (asInt .i64 x40).bind fun x41 => ((cellAt 2 d37).bind fun x42 => (asInt .i64 x42).bind fun x43 => ((cellAt 3 d37).bind fun x44 => (asInt .i64 x44).bind fun x45 => ((cellAt 4 d37).bind fun x46 => (asStr x46).bind fun x47 => ((cellAt 5 d37).bind fun x48 => (asInt .i64 x48).bind fun x49 => (bif (!((x39 == a0) && (((0 == 0) && ((0 == 0) && ((0 == 0) && true))) && ((sEq x47 a4) && ((x49 == a5) && true))))) then (some ((⟨#[]⟩ : ByteArray), 2)) else (bif (!(sEq ((⟨#[35]⟩ : ByteArray) ++ a4) (⟨#[]⟩ : ByteArray))) then (bif (((y36.1.length : Nat) : Int) != 2) then (some ((⟨#[]⟩ : ByteArray), 2)) else (some (((⟨#[35]⟩ : ByteArray) ++ a4), 0))) else (some (((⟨#[35]⟩ : ByteArray) ++ a4), 0)))))))))))))) else (bif (a0 == 2) then ((n44 a5).bind fun y50 => ((n18 y50).bind fun y51 => (bif (bif (y51.2.1 != 0) then true else (decide (((y51.1.length : Nat) : Int) > 2))) then (some ((⟨#[]⟩ : ByteArray), 2)) else ((lidx y51.1 0).bind fun d52 => ask (d52.cells.length = 6) ((cellAt 0 d52).bind fun x53 => (asInt .i64 x53).bind fun x54 => ((cellAt 1 d52).bind fun x55 => (asInt .i64 x55).bind fun x56 => ((cellAt 2 d52).bind fun x57 => (asInt .i64 x57).bind fun x58 => ((cellAt 3 d52).bind fun x59 => (asInt .i64 x59).bind fun x60 => ((cellAt 4 d52).bind fun x61 => (asStr x61).bind fun x62 => ((cellAt 5 d52).bind fun x63 => (asInt .i64 x63).bind fun x64 => (bif (!((x54 == a0) && (((0 == 0) && ((0 == 0) && ((0 == 0) && true))) && ((sEq x62 a4) && ((x64 == a5) && true))))) then (some ((⟨#[]⟩ : ByteArray), 2)) else (bif (!(sEq y50 (⟨#[]⟩ : ByteArray))) then (bif (((y51.1.length : Nat) : Int) != 2) then (some ((⟨#[]⟩ : ByteArray), 2)) else (some (y50, 0))) else (some (y50, 0)))))))))))))) else ((n18 (⟨#[]⟩ : ByteArray)).bind fun y65 => (bif (bif (y65.2.1 != 0) then true else (decide (((y65.1.length : Nat) : Int) > 2))) then (some ((⟨#[]⟩ : ByteArray), 2)) else ((lidx y65.1 0).bind fun d66 => ask (d66.cells.length = 6) ((cellAt 0 d66).bind fun x67 => (asInt .i64 x67).bind fun x68 => ((cellAt 1 d66).bind fun x69 => (asInt .i64 x69).bind fun x70 => ((cellAt 2 d66).bind fun x71 => (asInt .i64 x71).bind fun x72 => ((cellAt 3 d66).bind fun x73 => (asInt .i64 x73).bind fun x74 => ((cellAt 4 d66).bind fun x75 => (asStr x75).bind fun x76 => ((cellAt 5 d66).bind fun x77 => (asInt .i64 x77).bind fun x78 => (bif (!((x68 == a0) && (((0 == 0) && ((0 == 0) && ((0 == 0) && true))) && ((sEq x76 a4) && ((x78 == a5) && true))))) then (some ((⟨#[]⟩ : ByteArray), 2)) else (bif (!(sEq (⟨#[]⟩ : ByteArray) (⟨#[]⟩ : ByteArray))) then (bif (((y65.1.length : Nat) : Int) != 2) then (some ((⟨#[]⟩ : ByteArray), 2)) else (some ((⟨#[]⟩ : ByteArray), 0))) else (some ((⟨#[]⟩ : ByteArray), 0)))))))))))))))))
def e22 : PureE := mkE d22 n22 (fun (a6, a7) => .many [.val (.string a6), .val (.int .i64 a7)])
def g22 {σ : Type} : Nat → Option (SegE σ)
  | _ => none
theorem N22 : ∀ a, n22 a = bodyK (cfgOf Tryd.prog (tabsS10 gl) tS10) (toldOf tS10) noY (inlN (cfgOf Tryd.prog (tabsS10 gl) tS10) (toldOf tS10) noY) g22 22 Tryd.f22 (((fun (a0, a1, a2, a3, a4, a5) => [.agg [.val (.int .i64 a0), .val (.int .i64 a1), .val (.int .i64 a2), .val (.int .i64 a3), .val (.string a4), .val (.int .i64 a5)]] : (Int × Int × Int × Int × ByteArray × Int) → List D) a).map .d) [] [] () (fun v _ _ _ => r22 v) := by
  intro a
  obtain ⟨a0, a1, a2, a3, a4, a5⟩ := a
  kernel_rfl
noncomputable def t22 : Tab := (22, e22) :: tS10
theorem ok22 (hl : LibFits2 gl) : TabOk Tryd.prog gl t22 :=
  told_fn (okS10 hl) mixed (oddOkS10 hl) Tryd.func22 (by kernel_rfl) (by kernel_rfl) (by kernel_rfl) (segs_no (by kernel_rfl))
    (args := fun (a0, a1, a2, a3, a4, a5) => [.agg [.val (.int .i64 a0), .val (.int .i64 a1), .val (.int .i64 a2), .val (.int .i64 a3), .val (.string a4), .val (.int .i64 a5)]]) (res := r22)
    (fun ds a h => by
      unfold d22 at h
      split at h
      · cases h; rfl
      · cases h)
    (fun v r h => by
      unfold r22 at h
      split at h
      · rename_i hv; cases h; exact hv
      · cases h)
    N22
def d23 (ds : List D) : Option (Int × Int × Int × Int × ByteArray × Int) := match ds with
  | [.agg [.val (.int .i64 a0), .val (.int .i64 a1), .val (.int .i64 a2), .val (.int .i64 a3), .val (.string a4), .val (.int .i64 a5)]] => some (a0, a1, a2, a3, a4, a5)
  | _ => none
def r23 (v : AV) : Option (ByteArray × Int) := match toPR v with
  | some (.many [.val (.string a6), .val (.int .i64 a7)]) => some (a6, a7)
  | _ => none
def n23 : Int × Int × Int × Int × ByteArray × Int → Option (ByteArray × Int) := fun (a0, a1, a2, a3, a4, a5) => (bif (a0 == 1) then ((nT19 a4).bind fun y8 => ask (rowOk 6 y8.1 = true) (match y8.1 with | [] => (bif (bif (y8.2.1 != 0) then true else (decide (((([] : List D).length : Nat) : Int) > 2))) then (some ((⟨#[]⟩ : ByteArray), 2)) else ((lidx ([] : List D) 0).bind fun d9 => ask (d9.cells.length = 6) none)) | e10 :: r11 => (bif (bif (y8.2.1 != 0) then true else (decide (((((e10 :: r11).length) : Nat) : Int) > 2))) then (some ((⟨#[]⟩ : ByteArray), 2)) else (ask (rowIn 0 ((e10 :: r11).length)) ((((e10 :: r11))[(Int.toNat 0)]?).bind fun d12 => ask (d12.cells.length = 6) (ask (rowIn 0 ((e10 :: r11).length)) ((((List.set (e10 :: r11) (Int.toNat 0) (D.put d12 1 ([.val (.int .i64 0), .val (.int .i64 0), .val (.int .i64 0)] : List D))))[(Int.toNat 0)]?).bind fun d13 => ask (d13.cells.length = 6) ((cellAt 0 d13).bind fun x14 => (asInt .i64 x14).bind fun x15 => ((cellAt 1 d13).bind fun x16 => (asInt .i64 x16).bind fun x17 => ((cellAt 2 d13).bind fun x18 => (asInt .i64 x18).bind fun x19 => ((cellAt 3 d13).bind fun x20 => (asInt .i64 x20).bind fun x21 => ((cellAt 4 d13).bind fun x22 => (asStr x22).bind fun x23 => ((cellAt 5 d13).bind fun x24 => (asInt .i64 x24).bind fun x25 => (bif (!((x15 == a0) && (((x17 == 0) && ((x19 == 0) && ((x21 == 0) && true))) && ((sEq x23 a4) && ((x25 == a5) && true))))) then (some ((⟨#[]⟩ : ByteArray), 2)) else (some (a4, 0)))))))))))))))) else (bif (a0 == 4) then ((nT19 a4).bind fun y26 => ask (rowOk 6 y26.1 = true) (match y26.1 with | [] => (bif (bif (y26.2.1 != 0) then true else (decide (((([] : List D).length : Nat) : Int) > 2))) then (some ((⟨#[]⟩ : ByteArray), 2)) else ((lidx ([] : List D) 0).bind fun d27 => ask (d27.cells.length = 6) none)) | e28 :: r29 => (bif (bif (y26.2.1 != 0) then true else (decide (((((e28 :: r29).length) : Nat) : Int) > 2))) then (some ((⟨#[]⟩ : ByteArray), 2)) else (ask (rowIn 0 ((e28 :: r29).length)) ((((e28 :: r29))[(Int.toNat 0)]?).bind fun d30 => ask (d30.cells.length = 6) (ask (rowIn 0 ((e28 :: r29).length)) ((((List.set (e28 :: r29) (Int.toNat 0) (D.put d30 1 ([.val (.int .i64 0), .val (.int .i64 0), .val (.int .i64 0)] : List D))))[(Int.toNat 0)]?).bind fun d31 => ask (d31.cells.length = 6) ((cellAt 0 d31).bind fun x32 => (asInt .i64 x32).bind fun x33 => ((cellAt 1 d31).bind fun x34 => (asInt .i64 x34).bind fun x35 => ((cellAt 2 d31).bind fun x36 => (asInt .i64 x36).bind fun x37 => ((cellAt 3 d31).bind fun x38 => (asInt .i64 x38).bind fun x39 => ((cellAt 4 d31).bind fun x40 => (asStr x40).bind fun x41 => ((cellAt 5 d31).bind fun x42 => (asInt .i64 x42).bind fun x43 => (bif (!((x33 == a0) && (((x35 == 0) && ((x37 == 0) && ((x39 == 0) && true))) && ((sEq x41 a4) && ((x43 == a5) && true))))) then (some ((⟨#[]⟩ : ByteArray), 2)) else (some (a4, 0)))))))))))))))) else (bif (a0 == 3) then (ask (catOk (⟨#[35]⟩ : ByteArray) a4) ((nT19 ((⟨#[35]⟩ : ByteArray) ++ a4)).bind fun y44 => ask (rowOk 6 y44.1 = true) (match y44.1 with | [] => (bif (bif (y44.2.1 != 0) then true else (decide (((([] : List D).length : Nat) : Int) > 2))) then (some ((⟨#[]⟩ : ByteArray), 2)) else ((lidx ([] : List D) 0).bind fun d45 => ask (d45.cells.length = 6) none)) | e46 :: r47 => (bif (bif (y44.2.1 != 0) then true else (decide (((((e46 :: r47).length) : Nat) : Int) > 2))) then (some ((⟨#[]⟩ : ByteArray), 2)) else (ask (rowIn 0 ((e46 :: r47).length)) ((((e46 :: r47))[(Int.toNat 0)]?).bind fun d48 => ask (d48.cells.length = 6) (ask (rowIn 0 ((e46 :: r47).length)) ((((List.set (e46 :: r47) (Int.toNat 0) (D.put d48 1 ([.val (.int .i64 0), .val (.int .i64 0), .val (.int .i64 0)] : List D))))[(Int.toNat 0)]?).bind fun d49 => ask (d49.cells.length = 6) ((cellAt 0 d49).bind fun x50 => (asInt .i64 x50).bind fun x51 => ((cellAt 1 d49).bind fun x52 => (asInt .i64 x52).bind fun x53 => ((cellAt 2 d49).bind fun x54 => (asInt .i64 x54).bind fun x55 => ((cellAt 3 d49).bind fun x56 => (asInt .i64 x56).bind fun x57 => ((cellAt 4 d49).bind fun x58 => (asStr x58).bind fun x59 => ((cellAt 5 d49).bind fun x60 => (asInt .i64 x60).bind fun x61 => (bif (!((x51 == a0) && (((x53 == 0) && ((x55 == 0) && ((x57 == 0) && true))) && ((sEq x59 a4) && ((x61 == a5) && true))))) then (some ((⟨#[]⟩ : ByteArray), 2)) else (some (((⟨#[35]⟩ : ByteArray) ++ a4), 0))))))))))))))))) else (bif (a0 == 2) then ((n45 a5).bind fun y62 => ((nT19 y62).bind fun y63 => ask (rowOk 6 y63.1 = true) (match y63.1 with | [] => (bif (bif (y63.2.1 != 0) then true else (decide (((([] : List D).length : Nat) : Int) > 2))) then (some ((⟨#[]⟩ : ByteArray), 2)) else ((lidx ([] : List D) 0).bind fun d64 => ask (d64.cells.length = 6) none)) | e65 :: r66 => (bif (bif (y63.2.1 != 0) then true else (decide (((((e65 :: r66).length) : Nat) : Int) > 2))) then (some ((⟨#[]⟩ : ByteArray), 2)) else (ask (rowIn 0 ((e65 :: r66).length)) ((((e65 :: r66))[(Int.toNat 0)]?).bind fun d67 => ask (d67.cells.length = 6) (ask (rowIn 0 ((e65 :: r66).length)) ((((List.set (e65 :: r66) (Int.toNat 0) (D.put d67 1 ([.val (.int .i64 0), .val (.int .i64 0), .val (.int .i64 0)] : List D))))[(Int.toNat 0)]?).bind fun d68 => ask (d68.cells.length = 6) ((cellAt 0 d68).bind fun x69 => (asInt .i64 x69).bind fun x70 => ((cellAt 1 d68).bind fun x71 => (asInt .i64 x71).bind fun x72 => ((cellAt 2 d68).bind fun x73 => (asInt .i64 x73).bind fun x74 => ((cellAt 3 d68).bind fun x75 => (asInt .i64 x75).bind fun x76 => ((cellAt 4 d68).bind fun x77 => (asStr x77).bind fun x78 => ((cellAt 5 d68).bind fun x79 => (asInt .i64 x79).bind fun x80 => (bif (!((x70 == a0) && (((x72 == 0) && ((x74 == 0) && ((x76 == 0) && true))) && ((sEq x78 a4) && ((x80 == a5) && true))))) then (some ((⟨#[]⟩ : ByteArray), 2)) else (some (y62, 0))))))))))))))))) else ((nT19 (⟨#[]⟩ : ByteArray)).bind fun y81 => ask (rowOk 6 y81.1 = true) (match y81.1 with | [] => (bif (bif (y81.2.1 != 0) then true else (decide (((([] : List D).length : Nat) : Int) > 2))) then (some ((⟨#[]⟩ : ByteArray), 2)) else ((lidx ([] : List D) 0).bind fun d82 => ask (d82.cells.length = 6) none)) | e83 :: r84 => (bif (bif (y81.2.1 != 0) then true else (decide (((((e83 :: r84).length) : Nat) : Int) > 2))) then (some ((⟨#[]⟩ : ByteArray), 2)) else (ask (rowIn 0 ((e83 :: r84).length)) ((((e83 :: r84))[(Int.toNat 0)]?).bind fun d85 => ask (d85.cells.length = 6) (ask (rowIn 0 ((e83 :: r84).length)) ((((List.set (e83 :: r84) (Int.toNat 0) (D.put d85 1 ([.val (.int .i64 0), .val (.int .i64 0), .val (.int .i64 0)] : List D))))[(Int.toNat 0)]?).bind fun d86 => ask (d86.cells.length = 6) ((cellAt 0 d86).bind fun x87 => (asInt .i64 x87).bind fun x88 => ((cellAt 1 d86).bind fun x89 => (asInt .i64 x89).bind fun x90 => ((cellAt 2 d86).bind fun x91 => (asInt .i64 x91).bind fun x92 => ((cellAt 3 d86).bind fun x93 => (asInt .i64 x93).bind fun x94 => ((cellAt 4 d86).bind fun x95 => (asStr x95).bind fun x96 => ((cellAt 5 d86).bind fun x97 => (asInt .i64 x97).bind fun x98 => (bif (!((x88 == a0) && (((x90 == 0) && ((x92 == 0) && ((x94 == 0) && true))) && ((sEq x96 a4) && ((x98 == a5) && true))))) then (some ((⟨#[]⟩ : ByteArray), 2)) else (some ((⟨#[]⟩ : ByteArray), 0))))))))))))))))))))
def e23 : PureE := mkE d23 n23 (fun (a6, a7) => .many [.val (.string a6), .val (.int .i64 a7)])
def g23 {σ : Type} : Nat → Option (SegE σ)
  | _ => none
theorem N23 : ∀ a, n23 a = bodyK (cfgOf Tryd.prog (tabsS10 gl) tS10) (toldOf tS10) noY (inlN (cfgOf Tryd.prog (tabsS10 gl) tS10) (toldOf tS10) noY) g23 23 Tryd.f23 (((fun (a0, a1, a2, a3, a4, a5) => [.agg [.val (.int .i64 a0), .val (.int .i64 a1), .val (.int .i64 a2), .val (.int .i64 a3), .val (.string a4), .val (.int .i64 a5)]] : (Int × Int × Int × Int × ByteArray × Int) → List D) a).map .d) [] [] () (fun v _ _ _ => r23 v) := by
  intro a
  obtain ⟨a0, a1, a2, a3, a4, a5⟩ := a
  kernel_rfl
noncomputable def t23 : Tab := (23, e23) :: tS10
theorem ok23 (hl : LibFits2 gl) : TabOk Tryd.prog gl t23 :=
  told_fn (okS10 hl) mixed (oddOkS10 hl) Tryd.func23 (by kernel_rfl) (by kernel_rfl) (by kernel_rfl) (segs_no (by kernel_rfl))
    (args := fun (a0, a1, a2, a3, a4, a5) => [.agg [.val (.int .i64 a0), .val (.int .i64 a1), .val (.int .i64 a2), .val (.int .i64 a3), .val (.string a4), .val (.int .i64 a5)]]) (res := r23)
    (fun ds a h => by
      unfold d23 at h
      split at h
      · cases h; rfl
      · cases h)
    (fun v r h => by
      unfold r23 at h
      split at h
      · rename_i hv; cases h; exact hv
      · cases h)
    N23
abbrev A26_0 := List D × List D × Int × Nat
inductive O26_0 where
  | x0 (o19 : List D) (q20 : Nat)
def l26_0 : LoopS A26_0 O26_0 where
  n := 23
  ks := [0, 3, 4]
  kso := [3]
  m := 0
  mt := 2
  decV := fun vs bs ts => match vs, bs, ts with
    | [.d (.slice v2), .osl 1 v3, .d (.val (.int .i64 v4))], [], [k5, _] => some (v2, v3, v4, k5)
    | _, _, _ => none
  encV := fun (v2, v3, v4, k5) => [.d (.slice v2), .osl 1 v3, .d (.val (.int .i64 v4))]
  encB := fun (v2, v3, v4, k5) => []
  tk := fun (v2, v3, v4, k5) => [k5, v3.length]
  decO := fun ex vs bs ts => match ex, vs, bs, ts with
    | .normal, [.osl 1 o19], [], [q20, _] => some (.x0 o19 q20)
    | _, _, _, _ => none
  exO := fun x => match x with
    | .x0 o19 q20 => .normal
  outV := fun x => match x with
    | .x0 o19 q20 => [.osl 1 o19]
  outB := fun x => match x with
    | .x0 o19 q20 => []
  tkO := fun x => match x with
    | .x0 o19 q20 => [q20, o19.length]
  elim := fun x k => match x with
    | .x0 o19 q20 => k .normal [.osl 1 o19] [] [q20, o19.length]
theorem k26_0 : l26_0.Ok where
  ok1 := by kernel_rfl
  ok2 := by kernel_rfl
  dec := by
    intro vs bs ts a h
    simp only [l26_0] at h ⊢
    split at h
    · cases h; exact ⟨rfl, rfl⟩
    · cases h
  out := by
    intro ex vs bs ts o h
    simp only [l26_0] at h ⊢
    split at h
    · cases h; exact ⟨rfl, rfl, rfl⟩
    · cases h
  len := fun _ => ⟨rfl, rfl⟩
  elim := fun β o k => by cases o <;> rfl
def L26_0 {σ : Type} : Nat → A26_0 → σ → Option (O26_0 × σ)
  | 0, _, _ => none
  | n+1, (v2, v3, v4, k5), s => (bif (decide (v4 < ((v2.length : Nat) : Int))) then ((lidx v2 v4).bind fun d6 => ask (d6.cells.length = 6) ((cellAt 0 d6).bind fun x7 => (asInt .i64 x7).bind fun x8 => ((cellAt 1 d6).bind fun x9 => (asInt .i64 x9).bind fun x10 => ((cellAt 2 d6).bind fun x11 => (asInt .i64 x11).bind fun x12 => ((cellAt 3 d6).bind fun x13 => (asInt .i64 x13).bind fun x14 => ((cellAt 4 d6).bind fun x15 => (asStr x15).bind fun x16 => ((cellAt 5 d6).bind fun x17 => (asInt .i64 x17).bind fun x18 => (ask (addOk v3.length v3 ([.agg [.val (.int .i64 x8), .val (.int .i64 0), .val (.int .i64 0), .val (.int .i64 0), .val (.string x16), .val (.int .i64 x18)]] : List D) 6 56) (ask (([k5, (v3.length + ([.agg [.val (.int .i64 x8), .val (.int .i64 0), .val (.int .i64 0), .val (.int .i64 0), .val (.string x16), .val (.int .i64 x18)]] : List D).length)] : List Nat) = [k5, (v3 ++ ([.agg [.val (.int .i64 x8), .val (.int .i64 0), .val (.int .i64 0), .val (.int .i64 0), .val (.string x16), .val (.int .i64 x18)]] : List D)).length]) (L26_0 n (v2, (v3 ++ ([.agg [.val (.int .i64 x8), .val (.int .i64 0), .val (.int .i64 0), .val (.int .i64 0), .val (.string x16), .val (.int .i64 x18)]] : List D)), (w64 (v4 + 1)), k5) s)))))))))) else (ask (([k5, v3.length] : List Nat) = [k5, v3.length]) (some (O26_0.x0 v3 k5, s))))
def d26 (ds : List D) : Option (List D) := match ds with
  | [.slice a0] => some a0
  | _ => none
def r26 (v : AV) : Option (List D) := match toPR v with
  | some (.one (.slice a1)) => some a1
  | _ => none
def n26 : List D → Option (List D) := fun a0 => (ask (([0, 0] : List Nat) = [0, ([] : List D).length]) ((L26_0 1000000000000 (a0, ([] : List D), 0, 0) ()).bind fun p21 => match p21.1 with | .x0 z22 z23 => (some z22)))
def e26 : PureE := mkE d26 n26 (fun a1 => .one (.slice a1))
def g26 {σ : Type} : Nat → Option (SegE σ)
  | 0 => some (l26_0.seg σ (L26_0 1000000000000))
  | _ => none
theorem E26_0 {σ : Type} (Y : Yd σ) : ∀ n a (s : σ), L26_0 (n + 1) a s = evK (cfgOf Tryd.prog (tabsS10 gl) tS10) (toldOf tS10) Y (inlN (cfgOf Tryd.prog (tabsS10 gl) tS10) (toldOf tS10) Y) g26 26 (loopAt Tryd.f26 0) ((l26_0.toT σ).enc a s) (fun ex st' => l26_0.next (cfgOf Tryd.prog (tabsS10 gl) tS10) 26 0 (L26_0 n) ex st') := by
  intro n ⟨v2, v3, v4, k5⟩ s
  kernel_rfl
theorem Q26_0 {σ : Type} (hl : LibFits2 gl) (Y : Yd σ) (rnd : Bool) : SegOk (cfgOf Tryd.prog (tabsS10 gl) tS10) (evFn (cfgOf Tryd.prog (tabsS10 gl) tS10) 9) 26 rnd Y (l26_0.seg σ (L26_0 1000000000000)) (.block 0 (.loop (loopAt Tryd.f26 0))) :=
  told_loop (okS10 hl) k26_0 (by kernel_rfl) (by kernel_rfl) (fun _ _ => rfl) (segs_no (by kernel_rfl)) (E26_0 Y)
theorem N26 : ∀ a, n26 a = bodyK (cfgOf Tryd.prog (tabsS10 gl) tS10) (toldOf tS10) noY (inlN (cfgOf Tryd.prog (tabsS10 gl) tS10) (toldOf tS10) noY) g26 26 Tryd.f26 (((fun a0 => [.slice a0] : (List D) → List D) a).map .d) [] [] () (fun v _ _ _ => r26 v) := by
  intro a0
  kernel_rfl
noncomputable def t26 : Tab := (26, e26) :: tS10
theorem ok26 (hl : LibFits2 gl) : TabOk Tryd.prog gl t26 :=
  told_fn (okS10 hl) mixed (oddOkS10 hl) Tryd.func26 (by kernel_rfl) (by kernel_rfl) (by kernel_rfl) (fun p hp e he => by
    have hq : segsOf (σ := Unit) (g26 (σ := Unit)) (bodyOf Tryd.f26) = [(0, .loop (loopAt Tryd.f26 0))] := by kernel_rfl
    rw [hq] at hp
    simp only [List.mem_cons, List.not_mem_nil, or_false] at hp
    subst hp
    cases he
    exact Q26_0 hl _ _)
    (args := fun a0 => [.slice a0]) (res := r26)
    (fun ds a h => by
      unfold d26 at h
      split at h
      · cases h; rfl
      · cases h)
    (fun v r h => by
      unfold r26 at h
      split at h
      · rename_i hv; cases h; exact hv
      · cases h)
    N26
def d27 (ds : List D) : Option (Int) := match ds with
  | [.val (.int .i64 a0)] => some a0
  | _ => none
def r27 (v : AV) : Option (ByteArray) := match toPR v with
  | some (.one (.val (.string a1))) => some a1
  | _ => none
def n27 : Int → Option (ByteArray) := fun a0 => (bif (a0 == 1) then (some (⟨#[9, 32]⟩ : ByteArray)) else (bif (a0 == 2) then (some (⟨#[32, 47, 47, 32, 35, 32, 33, 32, 195, 169, 10]⟩ : ByteArray)) else (bif (a0 == 3) then (some (⟨#[13, 10]⟩ : ByteArray)) else (some (⟨#[32]⟩ : ByteArray)))))
def e27 : PureE := mkE d27 n27 (fun a1 => .one (.val (.string a1)))
def g27 {σ : Type} : Nat → Option (SegE σ)
  | _ => none
theorem N27 : ∀ a, n27 a = bodyK (cfgOf Tryd.prog (tabsS10 gl) tS10) (toldOf tS10) noY (inlN (cfgOf Tryd.prog (tabsS10 gl) tS10) (toldOf tS10) noY) g27 27 Tryd.f27 (((fun a0 => [.val (.int .i64 a0)] : (Int) → List D) a).map .d) [] [] () (fun v _ _ _ => r27 v) := by
  intro a0
  kernel_rfl
noncomputable def t27 : Tab := (27, e27) :: tS10
theorem ok27 (hl : LibFits2 gl) : TabOk Tryd.prog gl t27 :=
  told_fn (okS10 hl) mixed (oddOkS10 hl) Tryd.func27 (by kernel_rfl) (by kernel_rfl) (by kernel_rfl) (segs_no (by kernel_rfl))
    (args := fun a0 => [.val (.int .i64 a0)]) (res := r27)
    (fun ds a h => by
      unfold d27 at h
      split at h
      · cases h; rfl
      · cases h)
    (fun v r h => by
      unfold r27 at h
      split at h
      · rename_i hv; cases h; exact hv
      · cases h)
    N27
noncomputable def tS11 : Tab := (22, e22) :: (23, e23) :: (26, e26) :: (27, e27) :: tS10
theorem okS11 (hl : LibFits2 gl) : TabOk Tryd.prog gl tS11 :=
  TabOk.cons (TabOk.cons (TabOk.cons (TabOk.cons (okS10 hl) ((ok27 hl).fair (27, e27) (List.mem_cons_self (l := tS10))) ((ok27 hl).spec (27, e27) (List.mem_cons_self (l := tS10)))) ((ok26 hl).fair (26, e26) (List.mem_cons_self (l := tS10))) ((ok26 hl).spec (26, e26) (List.mem_cons_self (l := tS10)))) ((ok23 hl).fair (23, e23) (List.mem_cons_self (l := tS10))) ((ok23 hl).spec (23, e23) (List.mem_cons_self (l := tS10)))) ((ok22 hl).fair (22, e22) (List.mem_cons_self (l := tS10))) ((ok22 hl).spec (22, e22) (List.mem_cons_self (l := tS10)))
abbrev A24_0 := List D × List D × List D × Int × Int
inductive O24_0 where
  | x0 (o22 : ByteArray) (o23 : Int) (q24 : Nat)
  | x1 (o25 : List D)
def l24_0 : LoopS A24_0 O24_0 where
  n := 43
  ks := [0, 4, 9, 10, 11]
  kso := [2, 3, 4]
  m := 0
  mt := 1
  decV := fun vs bs ts => match vs, bs, ts with
    | [.d (.slice v3), .osl 0 v4, .d (.slice v5), .d (.val (.int .i64 v6)), .d (.val (.int .i64 v7))], [], [_] => some (v3, v4, v5, v6, v7)
    | _, _, _ => none
  encV := fun (v3, v4, v5, v6, v7) => [.d (.slice v3), .osl 0 v4, .d (.slice v5), .d (.val (.int .i64 v6)), .d (.val (.int .i64 v7))]
  encB := fun (v3, v4, v5, v6, v7) => []
  tk := fun (v3, v4, v5, v6, v7) => [v4.length]
  decO := fun ex vs bs ts => match ex, vs, bs, ts with
    | .ret, [.d (.val (.string o22)), .d (.val (.int .i64 o23)), .undef], [], [q24] => some (.x0 o22 o23 q24)
    | .normal, [.undef, .undef, .osl 0 o25], [], [_] => some (.x1 o25)
    | _, _, _, _ => none
  exO := fun x => match x with
    | .x0 o22 o23 q24 => .ret
    | .x1 o25 => .normal
  outV := fun x => match x with
    | .x0 o22 o23 q24 => [.d (.val (.string o22)), .d (.val (.int .i64 o23)), .undef]
    | .x1 o25 => [.undef, .undef, .osl 0 o25]
  outB := fun x => match x with
    | .x0 o22 o23 q24 => []
    | .x1 o25 => []
  tkO := fun x => match x with
    | .x0 o22 o23 q24 => [q24]
    | .x1 o25 => [o25.length]
  elim := fun x k => match x with
    | .x0 o22 o23 q24 => k .ret [.d (.val (.string o22)), .d (.val (.int .i64 o23)), .undef] [] [q24]
    | .x1 o25 => k .normal [.undef, .undef, .osl 0 o25] [] [o25.length]
theorem k24_0 : l24_0.Ok where
  ok1 := by kernel_rfl
  ok2 := by kernel_rfl
  dec := by
    intro vs bs ts a h
    simp only [l24_0] at h ⊢
    split at h
    · cases h; exact ⟨rfl, rfl⟩
    · cases h
  out := by
    intro ex vs bs ts o h
    simp only [l24_0] at h ⊢
    split at h
    · cases h; exact ⟨rfl, rfl, rfl⟩
    · cases h; exact ⟨rfl, rfl, rfl⟩
    · cases h
  len := fun _ => ⟨rfl, rfl⟩
  elim := fun β o k => by cases o <;> rfl
def L24_0 {σ : Type} : Nat → A24_0 → σ → Option (O24_0 × σ)
  | 0, _, _ => none
  | n+1, (v3, v4, v5, v6, v7), s => (bif (decide (v7 < v6)) then ((lidx v5 v7).bind fun d8 => ask (d8.cells.length = 6) ((cellAt 0 d8).bind fun x9 => (asInt .i64 x9).bind fun x10 => ((cellAt 1 d8).bind fun x11 => (asInt .i64 x11).bind fun x12 => ((cellAt 2 d8).bind fun x13 => (asInt .i64 x13).bind fun x14 => ((cellAt 3 d8).bind fun x15 => (asInt .i64 x15).bind fun x16 => ((cellAt 4 d8).bind fun x17 => (asStr x17).bind fun x18 => ((cellAt 5 d8).bind fun x19 => (asInt .i64 x19).bind fun x20 => ((n22 (x10, x12, x14, x16, x18, x20)).bind fun y21 => (bif (y21.2 != 0) then (ask (([v4.length] : List Nat) = [v4.length]) (some (O24_0.x0 (⟨#[]⟩ : ByteArray) 2 v4.length, s))) else (bif (x10 == 0) then (bif (decide (v7 < (w64 (((v3.length : Nat) : Int) - 1)))) then (ask (([v4.length] : List Nat) = [v4.length]) (some (O24_0.x0 (⟨#[]⟩ : ByteArray) 2 v4.length, s))) else (ask (addOk v4.length v4 ([.val (.string y21.1)] : List D) 1 16) (ask (([(v4.length + ([.val (.string y21.1)] : List D).length)] : List Nat) = [(v4 ++ ([.val (.string y21.1)] : List D)).length]) (L24_0 n (v3, (v4 ++ ([.val (.string y21.1)] : List D)), v5, v6, (w64 (v7 + 1))) s)))) else (ask (addOk v4.length v4 ([.val (.string y21.1)] : List D) 1 16) (ask (([(v4.length + ([.val (.string y21.1)] : List D).length)] : List Nat) = [(v4 ++ ([.val (.string y21.1)] : List D)).length]) (L24_0 n (v3, (v4 ++ ([.val (.string y21.1)] : List D)), v5, v6, (w64 (v7 + 1))) s))))))))))))) else (ask (([v4.length] : List Nat) = [v4.length]) (some (O24_0.x1 v4, s))))
def d24 (ds : List D) : Option (List D) := match ds with
  | [.slice a0] => some a0
  | _ => none
def r24 (v : AV) : Option (ByteArray × Int) := match toPR v with
  | some (.many [.val (.string a1), .val (.int .i64 a2)]) => some (a1, a2)
  | _ => none
def n24 : List D → Option (ByteArray × Int) := fun a0 => (ask (([0] : List Nat) = [([] : List D).length]) ((L24_0 1000000000000 (a0, ([] : List D), a0, ((a0.length : Nat) : Int), 0) ()).bind fun p26 => match p26.1 with | .x0 z27 z28 z29 => (some (z27, z28)) | .x1 z30 => ((n66 z30).bind fun y31 => ((n65 (y31, (⟨#[32]⟩ : ByteArray))).bind fun y32 => (some (y32, 0))))))
def e24 : PureE := mkE d24 n24 (fun (a1, a2) => .many [.val (.string a1), .val (.int .i64 a2)])
def g24 {σ : Type} : Nat → Option (SegE σ)
  | 0 => some (l24_0.seg σ (L24_0 1000000000000))
  | _ => none
theorem E24_0 {σ : Type} (Y : Yd σ) : ∀ n a (s : σ), L24_0 (n + 1) a s = evK (cfgOf Tryd.prog (tabsS9 gl) tS11) (toldOf tS11) Y (inlN (cfgOf Tryd.prog (tabsS9 gl) tS11) (toldOf tS11) Y) g24 24 (loopAt Tryd.f24 0) ((l24_0.toT σ).enc a s) (fun ex st' => l24_0.next (cfgOf Tryd.prog (tabsS9 gl) tS11) 24 0 (L24_0 n) ex st') := by
  intro n ⟨v3, v4, v5, v6, v7⟩ s
  kernel_rfl
theorem Q24_0 {σ : Type} (hl : LibFits2 gl) (Y : Yd σ) (rnd : Bool) : SegOk (cfgOf Tryd.prog (tabsS9 gl) tS11) (evFn (cfgOf Tryd.prog (tabsS9 gl) tS11) 9) 24 rnd Y (l24_0.seg σ (L24_0 1000000000000)) (.block 0 (.loop (loopAt Tryd.f24 0))) :=
  told_loop (okS11 hl) k24_0 (by kernel_rfl) (by kernel_rfl) (fun _ _ => rfl) (segs_no (by kernel_rfl)) (E24_0 Y)
theorem N24 : ∀ a, n24 a = bodyK (cfgOf Tryd.prog (tabsS9 gl) tS11) (toldOf tS11) noY (inlN (cfgOf Tryd.prog (tabsS9 gl) tS11) (toldOf tS11) noY) g24 24 Tryd.f24 (((fun a0 => [.slice a0] : (List D) → List D) a).map .d) [] [] () (fun v _ _ _ => r24 v) := by
  intro a0
  kernel_rfl
noncomputable def t24 : Tab := (24, e24) :: tS11
theorem ok24 (hl : LibFits2 gl) : TabOk Tryd.prog gl t24 :=
  told_fn (okS11 hl) mixed (oddOkS9 hl) Tryd.func24 (by kernel_rfl) (by kernel_rfl) (by kernel_rfl) (fun p hp e he => by
    have hq : segsOf (σ := Unit) (g24 (σ := Unit)) (bodyOf Tryd.f24) = [(0, .loop (loopAt Tryd.f24 0))] := by kernel_rfl
    rw [hq] at hp
    simp only [List.mem_cons, List.not_mem_nil, or_false] at hp
    subst hp
    cases he
    exact Q24_0 hl _ _)
    (args := fun a0 => [.slice a0]) (res := r24)
    (fun ds a h => by
      unfold d24 at h
      split at h
      · cases h; rfl
      · cases h)
    (fun v r h => by
      unfold r24 at h
      split at h
      · rename_i hv; cases h; exact hv
      · cases h)
    N24
abbrev A25_0 := List D × ByteArray × Int
inductive O25_0 where
  | x0 (o20 : ByteArray) (o21 : Int)
  | x1 (o25 : ByteArray)
def l25_0 : LoopS A25_0 O25_0 where
  n := 47
  ks := [0, 4, 5]
  kso := [2, 3, 4]
  m := 0
  mt := 0
  decV := fun vs bs ts => match vs, bs, ts with
    | [.d (.slice v3), .d (.val (.string v4)), .d (.val (.int .i64 v5))], [], [] => some (v3, v4, v5)
    | _, _, _ => none
  encV := fun (v3, v4, v5) => [.d (.slice v3), .d (.val (.string v4)), .d (.val (.int .i64 v5))]
  encB := fun (v3, v4, v5) => []
  tk := fun _ => []
  decO := fun ex vs bs ts => match ex, vs, bs, ts with
    | .ret, [.d (.val (.string o20)), .d (.val (.int .i64 o21)), .undef], [], [] => some (.x0 o20 o21)
    | .normal, [.undef, .undef, .d (.val (.string o25))], [], [] => some (.x1 o25)
    | _, _, _, _ => none
  exO := fun x => match x with
    | .x0 o20 o21 => .ret
    | .x1 o25 => .normal
  outV := fun x => match x with
    | .x0 o20 o21 => [.d (.val (.string o20)), .d (.val (.int .i64 o21)), .undef]
    | .x1 o25 => [.undef, .undef, .d (.val (.string o25))]
  outB := fun x => match x with
    | .x0 o20 o21 => []
    | .x1 o25 => []
  tkO := fun x => match x with
    | .x0 o20 o21 => []
    | .x1 o25 => []
  elim := fun x k => match x with
    | .x0 o20 o21 => k .ret [.d (.val (.string o20)), .d (.val (.int .i64 o21)), .undef] [] []
    | .x1 o25 => k .normal [.undef, .undef, .d (.val (.string o25))] [] []
theorem k25_0 : l25_0.Ok where
  ok1 := by kernel_rfl
  ok2 := by kernel_rfl
  dec := by
    intro vs bs ts a h
    simp only [l25_0] at h ⊢
    split at h
    · cases h; exact ⟨rfl, rfl⟩
    · cases h
  out := by
    intro ex vs bs ts o h
    simp only [l25_0] at h ⊢
    split at h
    · cases h; exact ⟨rfl, rfl, rfl⟩
    · cases h; exact ⟨rfl, rfl, rfl⟩
    · cases h
  len := fun _ => ⟨rfl, rfl⟩
  elim := fun β o k => by cases o <;> rfl
def L25_0 {σ : Type} : Nat → A25_0 → σ → Option (O25_0 × σ)
  | 0, _, _ => none
  | n+1, (v3, v4, v5), s => (bif (decide (v5 < ((v3.length : Nat) : Int))) then ((lidx v3 v5).bind fun d6 => ask (d6.cells.length = 6) ((cellAt 0 d6).bind fun x7 => (asInt .i64 x7).bind fun x8 => ((cellAt 1 d6).bind fun x9 => (asInt .i64 x9).bind fun x10 => ((cellAt 2 d6).bind fun x11 => (asInt .i64 x11).bind fun x12 => ((cellAt 3 d6).bind fun x13 => (asInt .i64 x13).bind fun x14 => ((cellAt 4 d6).bind fun x15 => (asStr x15).bind fun x16 => ((cellAt 5 d6).bind fun x17 => (asInt .i64 x17).bind fun x18 => ((n23 (x8, x10, x12, x14, x16, x18)).bind fun y19 => (bif (y19.2 != 0) then (some (O25_0.x0 (⟨#[]⟩ : ByteArray) 2, s)) else ((lidx v3 v5).bind fun d22 => ask (d22.cells.length = 6) ((cellAt 0 d22).bind fun x23 => (asInt .i64 x23).bind fun x24 => (bif (x24 == 0) then (bif (decide ((w64 (v5 + 1)) < ((v3.length : Nat) : Int))) then (some (O25_0.x0 (⟨#[]⟩ : ByteArray) 2, s)) else (bif (decide (v5 > 0)) then (ask (catOk v4 (⟨#[32]⟩ : ByteArray)) (ask (catOk (v4 ++ (⟨#[32]⟩ : ByteArray)) y19.1) (L25_0 n (v3, ((v4 ++ (⟨#[32]⟩ : ByteArray)) ++ y19.1), (w64 (v5 + 1))) s))) else (ask (catOk v4 y19.1) (L25_0 n (v3, (v4 ++ y19.1), (w64 (v5 + 1))) s)))) else (bif (decide (v5 > 0)) then (ask (catOk v4 (⟨#[32]⟩ : ByteArray)) (ask (catOk (v4 ++ (⟨#[32]⟩ : ByteArray)) y19.1) (L25_0 n (v3, ((v4 ++ (⟨#[32]⟩ : ByteArray)) ++ y19.1), (w64 (v5 + 1))) s))) else (ask (catOk v4 y19.1) (L25_0 n (v3, (v4 ++ y19.1), (w64 (v5 + 1))) s))))))))))))))) else (some (O25_0.x1 v4, s)))
def d25 (ds : List D) : Option (List D) := match ds with
  | [.slice a0] => some a0
  | _ => none
def r25 (v : AV) : Option (ByteArray × Int) := match toPR v with
  | some (.many [.val (.string a1), .val (.int .i64 a2)]) => some (a1, a2)
  | _ => none
def n25 : List D → Option (ByteArray × Int) := fun a0 => ((L25_0 1000000000000 (a0, (⟨#[]⟩ : ByteArray), 0) ()).bind fun p26 => match p26.1 with | .x0 z27 z28 => (some (z27, z28)) | .x1 z29 => (some (z29, 0)))
def e25 : PureE := mkE d25 n25 (fun (a1, a2) => .many [.val (.string a1), .val (.int .i64 a2)])
def g25 {σ : Type} : Nat → Option (SegE σ)
  | 0 => some (l25_0.seg σ (L25_0 1000000000000))
  | _ => none
theorem E25_0 {σ : Type} (Y : Yd σ) : ∀ n a (s : σ), L25_0 (n + 1) a s = evK (cfgOf Tryd.prog (tabsS9 gl) tS11) (toldOf tS11) Y (inlN (cfgOf Tryd.prog (tabsS9 gl) tS11) (toldOf tS11) Y) g25 25 (loopAt Tryd.f25 0) ((l25_0.toT σ).enc a s) (fun ex st' => l25_0.next (cfgOf Tryd.prog (tabsS9 gl) tS11) 25 0 (L25_0 n) ex st') := by
  intro n ⟨v3, v4, v5⟩ s
  kernel_rfl
theorem Q25_0 {σ : Type} (hl : LibFits2 gl) (Y : Yd σ) (rnd : Bool) : SegOk (cfgOf Tryd.prog (tabsS9 gl) tS11) (evFn (cfgOf Tryd.prog (tabsS9 gl) tS11) 9) 25 rnd Y (l25_0.seg σ (L25_0 1000000000000)) (.block 0 (.loop (loopAt Tryd.f25 0))) :=
  told_loop (okS11 hl) k25_0 (by kernel_rfl) (by kernel_rfl) (fun _ _ => rfl) (segs_no (by kernel_rfl)) (E25_0 Y)
theorem N25 : ∀ a, n25 a = bodyK (cfgOf Tryd.prog (tabsS9 gl) tS11) (toldOf tS11) noY (inlN (cfgOf Tryd.prog (tabsS9 gl) tS11) (toldOf tS11) noY) g25 25 Tryd.f25 (((fun a0 => [.slice a0] : (List D) → List D) a).map .d) [] [] () (fun v _ _ _ => r25 v) := by
  intro a0
  kernel_rfl
noncomputable def t25 : Tab := (25, e25) :: tS11
theorem ok25 (hl : LibFits2 gl) : TabOk Tryd.prog gl t25 :=
  told_fn (okS11 hl) mixed (oddOkS9 hl) Tryd.func25 (by kernel_rfl) (by kernel_rfl) (by kernel_rfl) (fun p hp e he => by
    have hq : segsOf (σ := Unit) (g25 (σ := Unit)) (bodyOf Tryd.f25) = [(0, .loop (loopAt Tryd.f25 0))] := by kernel_rfl
    rw [hq] at hp
    simp only [List.mem_cons, List.not_mem_nil, or_false] at hp
    subst hp
    cases he
    exact Q25_0 hl _ _)
    (args := fun a0 => [.slice a0]) (res := r25)
    (fun ds a h => by
      unfold d25 at h
      split at h
      · cases h; rfl
      · cases h)
    (fun v r h => by
      unfold r25 at h
      split at h
      · rename_i hv; cases h; exact hv
      · cases h)
    N25
noncomputable def tS12 : Tab := (24, e24) :: (25, e25) :: tS11
theorem okS12 (hl : LibFits2 gl) : TabOk Tryd.prog gl tS12 :=
  TabOk.cons (TabOk.cons (okS11 hl) ((ok25 hl).fair (25, e25) (List.mem_cons_self (l := tS11))) ((ok25 hl).spec (25, e25) (List.mem_cons_self (l := tS11)))) ((ok24 hl).fair (24, e24) (List.mem_cons_self (l := tS11))) ((ok24 hl).spec (24, e24) (List.mem_cons_self (l := tS11)))
def d21 (ds : List D) : Option (Unit) := match ds with
  | [] => some ()
  | _ => none
def r21 (v : AV) : Option (Bool) := match toPR v with
  | some (.one (.val (.bool a0))) => some a0
  | _ => none
def n21 : Unit → Option (Bool) := fun () => ((n18 (⟨#[120, 39, 32, 60, 61, 32, 49, 48, 32, 47, 47, 32, 121]⟩ : ByteArray)).bind fun y1 => ((n18 (⟨#[97, 32, 48, 48, 55]⟩ : ByteArray)).bind fun y2 => ((n24 ([.agg [.val (.int .i64 1), .val (.int .i64 0), .val (.int .i64 0), .val (.int .i64 0), .val (.string (⟨#[97]⟩ : ByteArray)), .val (.int .i64 0)], .agg [.val (.int .i64 4), .val (.int .i64 0), .val (.int .i64 0), .val (.int .i64 0), .val (.string (⟨#[61, 61]⟩ : ByteArray)), .val (.int .i64 0)], .agg [.val (.int .i64 3), .val (.int .i64 0), .val (.int .i64 0), .val (.int .i64 0), .val (.string (⟨#[98]⟩ : ByteArray)), .val (.int .i64 0)]] : List D)).bind fun y3 => (bif (bif ((y1.2.1 == 0) && (((y1.2.2.1 == 0) && ((y1.2.2.2.1 == 0) && ((y1.2.2.2.2 == 0) && true))) && true)) then (((y1.1.length : Nat) : Int) == 4) else false) then ((lidx y1.1 0).bind fun d4 => ask (d4.cells.length = 6) ((cellAt 4 d4).bind fun x5 => (asStr x5).bind fun x6 => (bif (sEq x6 (⟨#[120, 39]⟩ : ByteArray)) then ((lidx y1.1 1).bind fun d7 => ask (d7.cells.length = 6) ((cellAt 4 d7).bind fun x8 => (asStr x8).bind fun x9 => (bif (sEq x9 (⟨#[60, 61]⟩ : ByteArray)) then ((lidx y1.1 2).bind fun d10 => ask (d10.cells.length = 6) ((cellAt 5 d10).bind fun x11 => (asInt .i64 x11).bind fun x12 => (bif (x12 == 10) then (some (bif (bif ((y2.2.1 == 22) && (((y2.2.2.1 == 2) && ((y2.2.2.2.1 == 1) && ((y2.2.2.2.2 == 3) && true))) && true)) then (sEq y3.1 (⟨#[97, 32, 61, 61, 32, 35, 98]⟩ : ByteArray)) else false) then (y3.2 == 0) else false)) else (some false)))) else (some false)))) else (some false)))) else (some false)))))
def e21 : PureE := mkE d21 n21 (fun a0 => .one (.val (.bool a0)))
def g21 {σ : Type} : Nat → Option (SegE σ)
  | _ => none
theorem N21 : ∀ a, n21 a = bodyK (cfgOf Tryd.prog (tabsS9 gl) tS12) (toldOf tS12) noY (inlN (cfgOf Tryd.prog (tabsS9 gl) tS12) (toldOf tS12) noY) g21 21 Tryd.f21 (((fun () => [] : (Unit) → List D) a).map .d) [] [] () (fun v _ _ _ => r21 v) := by
  intro a
  kernel_rfl
noncomputable def t21 : Tab := (21, e21) :: tS12
theorem ok21 (hl : LibFits2 gl) : TabOk Tryd.prog gl t21 :=
  told_fn (okS12 hl) mixed (oddOkS9 hl) Tryd.func21 (by kernel_rfl) (by kernel_rfl) (by kernel_rfl) (segs_no (by kernel_rfl))
    (args := fun () => []) (res := r21)
    (fun ds a h => by
      unfold d21 at h
      split at h
      · cases h; rfl
      · cases h)
    (fun v r h => by
      unfold r21 at h
      split at h
      · rename_i hv; cases h; exact hv
      · cases h)
    N21
noncomputable def tS13 : Tab := (21, e21) :: tS12
theorem okS13 (hl : LibFits2 gl) : TabOk Tryd.prog gl tS13 :=
  TabOk.cons (okS12 hl) ((ok21 hl).fair (21, e21) (List.mem_cons_self (l := tS12))) ((ok21 hl).spec (21, e21) (List.mem_cons_self (l := tS12)))
def d4 (ds : List D) : Option (Int × Int × Int × Int × ByteArray × Int × List D) := match ds with
  | [.agg [.val (.int .i64 a0), .val (.int .i64 a1), .val (.int .i64 a2), .val (.int .i64 a3), .val (.string a4), .val (.int .i64 a5)], .slice a6] => some (a0, a1, a2, a3, a4, a5, a6)
  | _ => none
def r4 (v : AV) : Option (Bool) := match toPR v with
  | some (.one (.val (.bool a7))) => some a7
  | _ => none
def n4 : Int × Int × Int × Int × ByteArray × Int × List D → Option (Bool) := fun (a0, a1, a2, a3, a4, a5, a6) => ((n22 (a0, a1, a2, a3, a4, a5)).bind fun y8 => ((n23 (a0, a1, a2, a3, a4, a5)).bind fun y9 => ((n24 a6).bind fun y10 => ((n25 a6).bind fun y11 => (bif (bif (bif (bif (sEq y8.1 y9.1) then (y8.2 == y9.2) else false) then (sEq y10.1 y11.1) else false) then (y10.2 == y11.2) else false) then ((n21 ()).bind fun y12 => (some y12)) else (some false))))))
def e4 : PureE := mkE d4 n4 (fun a7 => .one (.val (.bool a7)))
def g4 {σ : Type} : Nat → Option (SegE σ)
  | _ => none
theorem N4 : ∀ a, n4 a = bodyK (cfgOf Tryd.prog (tabsS9 gl) tS13) (toldOf tS13) noY (inlN (cfgOf Tryd.prog (tabsS9 gl) tS13) (toldOf tS13) noY) g4 4 Tryd.f4 (((fun (a0, a1, a2, a3, a4, a5, a6) => [.agg [.val (.int .i64 a0), .val (.int .i64 a1), .val (.int .i64 a2), .val (.int .i64 a3), .val (.string a4), .val (.int .i64 a5)], .slice a6] : (Int × Int × Int × Int × ByteArray × Int × List D) → List D) a).map .d) [] [] () (fun v _ _ _ => r4 v) := by
  intro a
  obtain ⟨a0, a1, a2, a3, a4, a5, a6⟩ := a
  kernel_rfl
noncomputable def t4 : Tab := (4, e4) :: tS13
theorem ok4 (hl : LibFits2 gl) : TabOk Tryd.prog gl t4 :=
  told_fn (okS13 hl) mixed (oddOkS9 hl) Tryd.func4 (by kernel_rfl) (by kernel_rfl) (by kernel_rfl) (segs_no (by kernel_rfl))
    (args := fun (a0, a1, a2, a3, a4, a5, a6) => [.agg [.val (.int .i64 a0), .val (.int .i64 a1), .val (.int .i64 a2), .val (.int .i64 a3), .val (.string a4), .val (.int .i64 a5)], .slice a6]) (res := r4)
    (fun ds a h => by
      unfold d4 at h
      split at h
      · cases h; rfl
      · cases h)
    (fun v r h => by
      unfold r4 at h
      split at h
      · rename_i hv; cases h; exact hv
      · cases h)
    N4
abbrev A6_0 := List D × List D × ByteArray × ByteArray × Int
inductive O6_0 where
  | x0 (o24 : Bool)
  | x1 (o30 : ByteArray) (o31 : ByteArray)
def l6_0 : LoopS A6_0 O6_0 where
  n := 89
  ks := [0, 1, 5, 7, 8]
  kso := [4, 5, 7]
  m := 0
  mt := 0
  decV := fun vs bs ts => match vs, bs, ts with
    | [.d (.slice v5), .d (.slice v6), .d (.val (.string v7)), .d (.val (.string v8)), .d (.val (.int .i64 v9))], [], [] => some (v5, v6, v7, v8, v9)
    | _, _, _ => none
  encV := fun (v5, v6, v7, v8, v9) => [.d (.slice v5), .d (.slice v6), .d (.val (.string v7)), .d (.val (.string v8)), .d (.val (.int .i64 v9))]
  encB := fun (v5, v6, v7, v8, v9) => []
  tk := fun _ => []
  decO := fun ex vs bs ts => match ex, vs, bs, ts with
    | .ret, [.d (.val (.bool o24)), .undef, .undef], [], [] => some (.x0 o24)
    | .normal, [.undef, .d (.val (.string o30)), .d (.val (.string o31))], [], [] => some (.x1 o30 o31)
    | _, _, _, _ => none
  exO := fun x => match x with
    | .x0 o24 => .ret
    | .x1 o30 o31 => .normal
  outV := fun x => match x with
    | .x0 o24 => [.d (.val (.bool o24)), .undef, .undef]
    | .x1 o30 o31 => [.undef, .d (.val (.string o30)), .d (.val (.string o31))]
  outB := fun x => match x with
    | .x0 o24 => []
    | .x1 o30 o31 => []
  tkO := fun x => match x with
    | .x0 o24 => []
    | .x1 o30 o31 => []
  elim := fun x k => match x with
    | .x0 o24 => k .ret [.d (.val (.bool o24)), .undef, .undef] [] []
    | .x1 o30 o31 => k .normal [.undef, .d (.val (.string o30)), .d (.val (.string o31))] [] []
theorem k6_0 : l6_0.Ok where
  ok1 := by kernel_rfl
  ok2 := by kernel_rfl
  dec := by
    intro vs bs ts a h
    simp only [l6_0] at h ⊢
    split at h
    · cases h; exact ⟨rfl, rfl⟩
    · cases h
  out := by
    intro ex vs bs ts o h
    simp only [l6_0] at h ⊢
    split at h
    · cases h; exact ⟨rfl, rfl, rfl⟩
    · cases h; exact ⟨rfl, rfl, rfl⟩
    · cases h
  len := fun _ => ⟨rfl, rfl⟩
  elim := fun β o k => by cases o <;> rfl
def L6_0 {σ : Type} : Nat → A6_0 → σ → Option (O6_0 × σ)
  | 0, _, _ => none
  | n+1, (v5, v6, v7, v8, v9), s => (bif (decide (v9 < ((v5.length : Nat) : Int))) then ((lidx v5 v9).bind fun d10 => ask (d10.cells.length = 6) ((cellAt 0 d10).bind fun x11 => (asInt .i64 x11).bind fun x12 => ((cellAt 1 d10).bind fun x13 => (asInt .i64 x13).bind fun x14 => ((cellAt 2 d10).bind fun x15 => (asInt .i64 x15).bind fun x16 => ((cellAt 3 d10).bind fun x17 => (asInt .i64 x17).bind fun x18 => ((cellAt 4 d10).bind fun x19 => (asStr x19).bind fun x20 => ((cellAt 5 d10).bind fun x21 => (asInt .i64 x21).bind fun x22 => ((n22 (x12, x14, x16, x18, x20, x22)).bind fun y23 => (bif (y23.2 != 0) then (some (O6_0.x0 false, s)) else (bif (decide (v9 < ((v6.length : Nat) : Int))) then ((lidx v6 v9).bind fun d25 => ask (d25.cells.length = 1) ((cellAt 0 d25).bind fun x26 => (asInt .i64 x26).bind fun x27 => (ask (catOk v8 y23.1) ((n27 x27).bind fun y28 => (ask (catOk (v8 ++ y23.1) y28) (L6_0 n (v5, v6, v7, ((v8 ++ y23.1) ++ y28), (w64 (v9 + 1))) s)))))) else (ask (catOk v8 y23.1) ((n27 0).bind fun y29 => (ask (catOk (v8 ++ y23.1) y29) (L6_0 n (v5, v6, v7, ((v8 ++ y23.1) ++ y29), (w64 (v9 + 1))) s)))))))))))))) else (some (O6_0.x1 v7 v8, s)))
def d6 (ds : List D) : Option (List D × List D) := match ds with
  | [.slice a0, .slice a1] => some (a0, a1)
  | _ => none
def r6 (v : AV) : Option (Bool) := match toPR v with
  | some (.one (.val (.bool a2))) => some a2
  | _ => none
def n6 : List D × List D → Option (Bool) := fun (a0, a1) => ((n24 a0).bind fun y3 => (bif (bif (y3.2 != 0) then true else (((a0.length : Nat) : Int) == 0)) then ((n21 ()).bind fun y4 => (some y4)) else ((L6_0 1000000000000 (a0, a1, y3.1, (⟨#[]⟩ : ByteArray), 0) ()).bind fun p32 => match p32.1 with | .x0 z33 => (some z33) | .x1 z34 z35 => ((n18 z34).bind fun y36 => ((n18 z35).bind fun y37 => ((n26 y36.1).bind fun y38 => ((n26 y37.1).bind fun y39 => ((n20 (y38, y39)).bind fun y40 => (bif ((y36.2.1 == 0) && (((y36.2.2.1 == 0) && ((y36.2.2.2.1 == 0) && ((y36.2.2.2.2 == 0) && true))) && true)) then (bif (bif ((y37.2.1 == 0) && (((y37.2.2.1 == 0) && ((y37.2.2.2.1 == 0) && ((y37.2.2.2.2 == 0) && true))) && true)) then y40 else false) then ((n21 ()).bind fun y41 => (some y41)) else (some false)) else (some false))))))))))
def e6 : PureE := mkE d6 n6 (fun a2 => .one (.val (.bool a2)))
def g6 {σ : Type} : Nat → Option (SegE σ)
  | 0 => some (l6_0.seg σ (L6_0 1000000000000))
  | _ => none
theorem E6_0 {σ : Type} (Y : Yd σ) : ∀ n a (s : σ), L6_0 (n + 1) a s = evK (cfgOf Tryd.prog (tabsS9 gl) tS13) (toldOf tS13) Y (inlN (cfgOf Tryd.prog (tabsS9 gl) tS13) (toldOf tS13) Y) g6 6 (loopAt Tryd.f6 0) ((l6_0.toT σ).enc a s) (fun ex st' => l6_0.next (cfgOf Tryd.prog (tabsS9 gl) tS13) 6 0 (L6_0 n) ex st') := by
  intro n ⟨v5, v6, v7, v8, v9⟩ s
  kernel_rfl
theorem Q6_0 {σ : Type} (hl : LibFits2 gl) (Y : Yd σ) (rnd : Bool) : SegOk (cfgOf Tryd.prog (tabsS9 gl) tS13) (evFn (cfgOf Tryd.prog (tabsS9 gl) tS13) 9) 6 rnd Y (l6_0.seg σ (L6_0 1000000000000)) (.block 0 (.loop (loopAt Tryd.f6 0))) :=
  told_loop (okS13 hl) k6_0 (by kernel_rfl) (by kernel_rfl) (fun _ _ => rfl) (segs_no (by kernel_rfl)) (E6_0 Y)
theorem N6 : ∀ a, n6 a = bodyK (cfgOf Tryd.prog (tabsS9 gl) tS13) (toldOf tS13) noY (inlN (cfgOf Tryd.prog (tabsS9 gl) tS13) (toldOf tS13) noY) g6 6 Tryd.f6 (((fun (a0, a1) => [.slice a0, .slice a1] : (List D × List D) → List D) a).map .d) [] [] () (fun v _ _ _ => r6 v) := by
  intro a
  obtain ⟨a0, a1⟩ := a
  kernel_rfl
noncomputable def t6 : Tab := (6, e6) :: tS13
theorem ok6 (hl : LibFits2 gl) : TabOk Tryd.prog gl t6 :=
  told_fn (okS13 hl) mixed (oddOkS9 hl) Tryd.func6 (by kernel_rfl) (by kernel_rfl) (by kernel_rfl) (fun p hp e he => by
    have hq : segsOf (σ := Unit) (g6 (σ := Unit)) (bodyOf Tryd.f6) = [(0, .loop (loopAt Tryd.f6 0))] := by kernel_rfl
    rw [hq] at hp
    simp only [List.mem_cons, List.not_mem_nil, or_false] at hp
    subst hp
    cases he
    exact Q6_0 hl _ _)
    (args := fun (a0, a1) => [.slice a0, .slice a1]) (res := r6)
    (fun ds a h => by
      unfold d6 at h
      split at h
      · cases h; rfl
      · cases h)
    (fun v r h => by
      unfold r6 at h
      split at h
      · rename_i hv; cases h; exact hv
      · cases h)
    N6
noncomputable def tS14 : Tab := (4, e4) :: (6, e6) :: tS13
theorem okS14 (hl : LibFits2 gl) : TabOk Tryd.prog gl tS14 :=
  TabOk.cons (TabOk.cons (okS13 hl) ((ok6 hl).fair (6, e6) (List.mem_cons_self (l := tS13))) ((ok6 hl).spec (6, e6) (List.mem_cons_self (l := tS13)))) ((ok4 hl).fair (4, e4) (List.mem_cons_self (l := tS13))) ((ok4 hl).spec (4, e4) (List.mem_cons_self (l := tS13)))
abbrev AO26_0 := List D × List D × Int × Nat
inductive OO26_0 where
  | x0 (o19 : List D) (q20 : Nat)
def lO26_0 : LoopS AO26_0 OO26_0 where
  n := 23
  ks := [0, 3, 4]
  kso := [3]
  m := 0
  mt := 2
  decV := fun vs bs ts => match vs, bs, ts with
    | [.d (.slice v2), .osl 1 v3, .d (.val (.int .i64 v4))], [], [k5, _] => some (v2, v3, v4, k5)
    | _, _, _ => none
  encV := fun (v2, v3, v4, k5) => [.d (.slice v2), .osl 1 v3, .d (.val (.int .i64 v4))]
  encB := fun (v2, v3, v4, k5) => []
  tk := fun (v2, v3, v4, k5) => [k5, v3.length]
  decO := fun ex vs bs ts => match ex, vs, bs, ts with
    | .normal, [.osl 1 o19], [], [q20, _] => some (.x0 o19 q20)
    | _, _, _, _ => none
  exO := fun x => match x with
    | .x0 o19 q20 => .normal
  outV := fun x => match x with
    | .x0 o19 q20 => [.osl 1 o19]
  outB := fun x => match x with
    | .x0 o19 q20 => []
  tkO := fun x => match x with
    | .x0 o19 q20 => [q20, o19.length]
  elim := fun x k => match x with
    | .x0 o19 q20 => k .normal [.osl 1 o19] [] [q20, o19.length]
theorem kO26_0 : lO26_0.Ok where
  ok1 := by kernel_rfl
  ok2 := by kernel_rfl
  dec := by
    intro vs bs ts a h
    simp only [lO26_0] at h ⊢
    split at h
    · cases h; exact ⟨rfl, rfl⟩
    · cases h
  out := by
    intro ex vs bs ts o h
    simp only [lO26_0] at h ⊢
    split at h
    · cases h; exact ⟨rfl, rfl, rfl⟩
    · cases h
  len := fun _ => ⟨rfl, rfl⟩
  elim := fun β o k => by cases o <;> rfl
def LO26_0 {σ : Type} : Nat → AO26_0 → σ → Option (OO26_0 × σ)
  | 0, _, _ => none
  | n+1, (v2, v3, v4, k5), s => (bif (decide (v4 < ((v2.length : Nat) : Int))) then ((lidx v2 v4).bind fun d6 => ask (d6.cells.length = 6) ((cellAt 0 d6).bind fun x7 => (asInt .i64 x7).bind fun x8 => ((cellAt 1 d6).bind fun x9 => (asInt .i64 x9).bind fun x10 => ((cellAt 2 d6).bind fun x11 => (asInt .i64 x11).bind fun x12 => ((cellAt 3 d6).bind fun x13 => (asInt .i64 x13).bind fun x14 => ((cellAt 4 d6).bind fun x15 => (asStr x15).bind fun x16 => ((cellAt 5 d6).bind fun x17 => (asInt .i64 x17).bind fun x18 => (ask (addOk v3.length v3 ([.agg [.val (.int .i64 x8), .val (.int .i64 0), .val (.int .i64 0), .val (.int .i64 0), .val (.string x16), .val (.int .i64 x18)]] : List D) 6 56) (ask (([k5, (v3.length + ([.agg [.val (.int .i64 x8), .val (.int .i64 0), .val (.int .i64 0), .val (.int .i64 0), .val (.string x16), .val (.int .i64 x18)]] : List D).length)] : List Nat) = [k5, (v3 ++ ([.agg [.val (.int .i64 x8), .val (.int .i64 0), .val (.int .i64 0), .val (.int .i64 0), .val (.string x16), .val (.int .i64 x18)]] : List D)).length]) (LO26_0 n (v2, (v3 ++ ([.agg [.val (.int .i64 x8), .val (.int .i64 0), .val (.int .i64 0), .val (.int .i64 0), .val (.string x16), .val (.int .i64 x18)]] : List D)), (w64 (v4 + 1)), k5) s)))))))))) else (ask (([k5, v3.length] : List Nat) = [k5, v3.length]) (some (OO26_0.x0 v3 k5, s))))
def dO26 (ds : List D) : Option (List D) := match ds with
  | [.slice a0] => some a0
  | _ => none
def rO26 (v : AV) (tk : List Nat) : Option (List D) := match v with
  | .osl j r1 => (tk[j]?).bind fun n => ask (n = r1.length) (some r1)
  | .nsl => some []
  | _ => none
def wO26 : (List D) → List D := fun r1 => r1
def xO26 : (List D) → List D := fun r1 => []
def nO26 : List D → Option (List D) := fun a0 => (ask (([0, 0] : List Nat) = [0, ([] : List D).length]) ((LO26_0 1000000000000 (a0, ([] : List D), 0, 0) ()).bind fun p21 => match p21.1 with | .x0 z22 z23 => (ask (z22.length = z22.length) (some z22))))
def gO26 {σ : Type} : Nat → Option (SegE σ)
  | 0 => some (lO26_0.seg σ (LO26_0 1000000000000))
  | _ => none
theorem EO26_0 {σ : Type} (Y : Yd σ) : ∀ n a (s : σ), LO26_0 (n + 1) a s = evK (cfgOf Tryd.prog (tabsS9 gl) tS10) (toldOf tS10) Y (inlN (cfgOf Tryd.prog (tabsS9 gl) tS10) (toldOf tS10) Y) gO26 26 (loopAt Tryd.f26 0) ((lO26_0.toT σ).enc a s) (fun ex st' => lO26_0.next (cfgOf Tryd.prog (tabsS9 gl) tS10) 26 0 (LO26_0 n) ex st') := by
  intro n ⟨v2, v3, v4, k5⟩ s
  kernel_rfl
theorem QO26_0 {σ : Type} (hl : LibFits2 gl) (Y : Yd σ) (rnd : Bool) : SegOk (cfgOf Tryd.prog (tabsS9 gl) tS10) (evFn (cfgOf Tryd.prog (tabsS9 gl) tS10) 9) 26 rnd Y (lO26_0.seg σ (LO26_0 1000000000000)) (.block 0 (.loop (loopAt Tryd.f26 0))) :=
  told_loop (okS10 hl) kO26_0 (by kernel_rfl) (by kernel_rfl) (fun _ _ => rfl) (segs_no (by kernel_rfl)) (EO26_0 Y)
theorem NO26 : ∀ a, nO26 a = bodyK (cfgOf Tryd.prog (tabsS9 gl) tS10) (toldOf tS10) noY (inlN (cfgOf Tryd.prog (tabsS9 gl) tS10) (toldOf tS10) noY) gO26 26 Tryd.f26 (((fun a0 => [.slice a0] : (List D) → List D) a).map .d) [] [] () (fun v _ tk _ => rO26 v tk) := by
  intro a0
  kernel_rfl
theorem omO26 (hl : LibFits2 gl) : OddSound Tryd.prog gl (fun g => bif Nat.beq g 26 then some (ownE dO26 nO26 wO26 xO26) else (tabsS9 gl).odd g) :=
  told_own (t := tabsS9 gl) (okS10 hl) mixed (oddOkS9 hl) Tryd.func26 (by kernel_rfl) (by kernel_rfl) (row := wO26) (rest := xO26) (args := fun a0 => [.slice a0]) (res := rO26) (by kernel_rfl) (fun p hp e he => by
    have hq : segsOf (σ := Unit) (gO26 (σ := Unit)) (bodyOf Tryd.f26) = [(0, .loop (loopAt Tryd.f26 0))] := by kernel_rfl
    rw [hq] at hp
    simp only [List.mem_cons, List.not_mem_nil, or_false] at hp
    subst hp
    cases he
    exact QO26_0 hl _ _)
    (fun ds a h => by
      unfold dO26 at h
      split at h
      · cases h; rfl
      · cases h)
    (fun v tk o h => by
      unfold rO26 at h
      split at h
      · obtain ⟨n, h1, h2⟩ := bind_some h
        obtain ⟨h3, h4⟩ := ask_some h2
        cases h4
        exact ⟨.inl ⟨_, rfl, h1.trans (congrArg some h3)⟩, rfl⟩
      · cases h; exact ⟨.inr ⟨rfl, rfl⟩, rfl⟩
      · cases h)
    NO26
noncomputable def tabsS15 (gl : Nat → Option (List D)) : Tabs := { tabsS9 gl with odd := fun g => bif Nat.beq g 26 then some (ownE dO26 nO26 wO26 xO26) else ((tabsS9 gl).odd g) }
theorem oddOkS15 (hl : LibFits2 gl) : OddSound Tryd.prog gl (tabsS15 gl).odd := OddSound.join (omO26 hl) ((oddOkS9 hl))
noncomputable abbrev tS15 : Tab := tS14
theorem okS15 (hl : LibFits2 gl) : TabOk Tryd.prog gl tS15 := okS14 hl
def d5 (ds : List D) : Option (List D) := match ds with
  | [.slice a0] => some a0
  | _ => none
def r5 (v : AV) : Option (Bool) := match toPR v with
  | some (.one (.val (.bool a1))) => some a1
  | _ => none
def n5 : List D → Option (Bool) := fun a0 => ((n24 a0).bind fun y2 => (bif (y2.2 != 0) then ((n21 ()).bind fun y3 => (some y3)) else ((n18 y2.1).bind fun y4 => ((nO26 a0).bind fun y5 => (bif (((y5.length : Nat) : Int) == 0) then (ask (addOk y5.length y5 ([.agg [.val (.int .i64 0), .val (.int .i64 0), .val (.int .i64 0), .val (.int .i64 0), .val (.string (⟨#[]⟩ : ByteArray)), .val (.int .i64 0)]] : List D) 6 56) ((nO26 y4.1).bind fun y6 => ((n20 (y6, (y5 ++ ([.agg [.val (.int .i64 0), .val (.int .i64 0), .val (.int .i64 0), .val (.int .i64 0), .val (.string (⟨#[]⟩ : ByteArray)), .val (.int .i64 0)]] : List D)))).bind fun y7 => (bif (bif ((y4.2.1 == 0) && (((y4.2.2.1 == 0) && ((y4.2.2.2.1 == 0) && ((y4.2.2.2.2 == 0) && true))) && true)) then y7 else false) then ((n21 ()).bind fun y8 => (some y8)) else (some false))))) else ((lidx y5 (w64 (((y5.length : Nat) : Int) - 1))).bind fun d9 => ask (d9.cells.length = 6) ((cellAt 0 d9).bind fun x10 => (asInt .i64 x10).bind fun x11 => (bif (x11 != 0) then (ask (addOk y5.length y5 ([.agg [.val (.int .i64 0), .val (.int .i64 0), .val (.int .i64 0), .val (.int .i64 0), .val (.string (⟨#[]⟩ : ByteArray)), .val (.int .i64 0)]] : List D) 6 56) ((nO26 y4.1).bind fun y12 => ((n20 (y12, (y5 ++ ([.agg [.val (.int .i64 0), .val (.int .i64 0), .val (.int .i64 0), .val (.int .i64 0), .val (.string (⟨#[]⟩ : ByteArray)), .val (.int .i64 0)]] : List D)))).bind fun y13 => (bif (bif ((y4.2.1 == 0) && (((y4.2.2.1 == 0) && ((y4.2.2.2.1 == 0) && ((y4.2.2.2.2 == 0) && true))) && true)) then y13 else false) then ((n21 ()).bind fun y14 => (some y14)) else (some false))))) else ((nO26 y4.1).bind fun y15 => ((n20 (y15, y5)).bind fun y16 => (bif (bif ((y4.2.1 == 0) && (((y4.2.2.1 == 0) && ((y4.2.2.2.1 == 0) && ((y4.2.2.2.2 == 0) && true))) && true)) then y16 else false) then ((n21 ()).bind fun y17 => (some y17)) else (some false))))))))))))
def e5 : PureE := mkE d5 n5 (fun a1 => .one (.val (.bool a1)))
def g5 {σ : Type} : Nat → Option (SegE σ)
  | _ => none
theorem N5 : ∀ a, n5 a = bodyK (cfgOf Tryd.prog (tabsS15 gl) tS15) (toldOf tS15) noY (inlN (cfgOf Tryd.prog (tabsS15 gl) tS15) (toldOf tS15) noY) g5 5 Tryd.f5 (((fun a0 => [.slice a0] : (List D) → List D) a).map .d) [] [] () (fun v _ _ _ => r5 v) := by
  intro a0
  kernel_rfl
noncomputable def t5 : Tab := (5, e5) :: tS15
theorem ok5 (hl : LibFits2 gl) : TabOk Tryd.prog gl t5 :=
  told_fn (okS15 hl) mixed (oddOkS15 hl) Tryd.func5 (by kernel_rfl) (by kernel_rfl) (by kernel_rfl) (segs_no (by kernel_rfl))
    (args := fun a0 => [.slice a0]) (res := r5)
    (fun ds a h => by
      unfold d5 at h
      split at h
      · cases h; rfl
      · cases h)
    (fun v r h => by
      unfold r5 at h
      split at h
      · rename_i hv; cases h; exact hv
      · cases h)
    N5
end
end Ev
