/- What functions of the program compute, as plain Lean functions, each with its proof by a proved reader; plain laws about them (EvA). -/
import GoSem.Dispatch
import Derived.Laws.Sem
namespace Ev
open Go
inductive D where
  | val (v : Value)
  | bytes (b : ByteArray)
  | slice (es : List D)
  | agg (cs : List D)
instance : Inhabited D := ⟨.slice []⟩
inductive AV where
  | d (x : D)
  | nsl
  | osl (t : Nat) (es : List D)
  | obs (t : Nat) (b : ByteArray)
  | ptr (i off : Nat)
  | ept (x : D) (off : Nat)
  | gptr (g off : Nat)
  | func (fn : Fn) (first caps : List AV)
  | ifc (t : TypeId) (x : AV)
  | agg (cs : List AV)
  | tup (vs : List AV)
  | msl (i n z : Nat)
  | rsl (i z n : Nat)
  | rpt (i z k off : Nat)
  | fsl (i t z n : Nat)
  | iter (i : Nat)
  | msb (i off n : Nat)
  | rsb (i z off n : Nat)
  | mpv (i : Nat)
  | yld
  | undef
instance : Inhabited AV := ⟨.undef⟩
inductive Box where
  | cells (ty : Option TypeId) (cs : List AV)
  | map (es : List (Value × Value))
  | iter (s : ByteArray) (pos : Nat)
  | row (z : Nat) (es : List D)
  | gone
inductive Out where
  | ret (v : AV)
  | panic (v : AV)
inductive PR where
  | one (d : D)
  | many (ds : List D)
  | errs (ds : List D) (t : TypeId)
def PR.av : PR → AV
  | .one d => .d d
  | .many ds => .tup (ds.map .d)
  | .errs ds t => .tup (ds.map .d ++ [.ifc t .undef])
structure OddE where
  run : {β : Type} → List AV → List Box → List Nat → (AV → List Box → List Nat → Option β) → Option β
  fair : ∀ (β : Type) (as : List AV) (bs : List Box) (ts : List Nat) (k : AV → List Box → List Nat → Option β) (r : β), run as bs ts k = some r → ∃ v b t, run as bs ts (fun v b t => some (v, b, t)) = some (v, b, t) ∧ k v b t = some r
  quiet : Bool := false
  calm : quiet = true → ∀ as bs ts v b t, run as bs ts (fun v b t => some (v, b, t)) = some (v, b, t) → b = bs ∧ t = ts := by intro h; cases h
  tok : Bool := false
  still : tok = true → ∀ as bs ts v b t, run as bs ts (fun v b t => some (v, b, t)) = some (v, b, t) → b = bs := by intro h; cases h
structure MethP where
  run : {β : Type} → List AV → List Box → List Nat → (Out → List Box → List Nat → Option β) → Option β
  fair : ∀ (β : Type) (as : List AV) (bs : List Box) (ts : List Nat) (k : Out → List Box → List Nat → Option β) (r : β), run as bs ts k = some r → ∃ o b t, run as bs ts (fun o b t => some (o, b, t)) = some (o, b, t) ∧ k o b t = some r
structure Cfg where
  P : Program
  ext : FuncId → Option (List D → Option PR)
  keep : FuncId → Bool
  thaw : FuncId → Bool := fun _ => false
  glob : Nat → Option (List D) := fun _ => none
  live : FuncId → Nat → Option (List Nat) := fun _ _ => none
  own : FuncId → Nat → List (Nat × Nat × Bool) := fun _ _ => []
  out : FuncId → Nat → Option (List Nat) := fun _ _ => none
  fin : FuncId → Bool := fun _ => false
  join : FuncId → Nat → List Nat := fun _ _ => []
  lim : Nat := 1000000000000
  odd : FuncId → Option OddE := fun _ => none
  raw : FuncId → Nat → Bool := fun _ _ => false
  deep : TypeId → Bool := fun _ => false
  dfr : FuncId → Bool := fun _ => false
  rowA : TypeId → Bool := fun _ => false
  meth : FuncId → Option MethP := fun _ => none
  drl : FuncId → Nat → Bool := fun _ _ => false
def firstReg : Code → Nat
  | .region id _ _ => id
  | .seq a _ => firstReg a
  | .block _ a => firstReg a
  | _ => 1000000
def allD : List AV → Option (List D)
  | [] => some []
  | .d x :: r => match allD r with | some ds => some (x :: ds) | none => none
  | _ => none
def mkAgg (cs : List AV) : AV := match allD cs with | some ds => .d (.agg ds) | none => .agg cs
def cellConst : Value → AV
  | .slice A n c => if A.isNone = true ∧ n = 0 ∧ c = 0 then .nsl else .undef
  | .func fn x y => if x.isEmpty = true ∧ y.isEmpty = true then .func fn [] [] else .undef
  | .agg _ => .undef
  | .tuple _ => .undef
  | v => .d (.val v)
def ofConst : Value → AV
  | .agg cs => if cs.toList.all Value.oneCell' then mkAgg (cs.toList.map cellConst) else .undef
  | v => cellConst v
def ofVal : Value → AV
  | .agg cs => if cs.toList.all Value.oneCell' then .d (.agg (cs.toList.map .val)) else .undef
  | .tuple _ => .undef
  | v => .d (.val v)
def D.cells : D → List D
  | .agg cs => cs
  | x => [x]
def AV.cells : AV → Option (List AV)
  | .d (.agg cs) => some (cs.map .d)
  | .agg cs => some cs
  | .tup _ => none
  | .undef => none
  | x => some [x]
def AV.aggCells : AV → Option (List AV)
  | .d (.agg cs) => some (cs.map .d)
  | .agg cs => some cs
  | _ => none
def valsOf : List D → Option (List Value)
  | [] => some []
  | .val v :: r => match valsOf r with | some vs => some (v :: vs) | none => none
  | _ => none
def D.toVal : D → Option Value
  | .val v => some v
  | .agg cs => match valsOf cs with | some vs => some (.agg vs.toArray) | none => none
  | _ => none
def AV.toVal : AV → Option Value
  | .d x => x.toVal
  | _ => none
mutual
def AV.toD : AV → Option D
  | .d x => some x
  | .nsl => some (.slice [])
  | .osl _ es => some (.slice es)
  | .obs _ b => some (.bytes b)
  | .agg cs => match toDs cs with | some ds => some (.agg ds) | none => none
  | _ => none
def toDs : List AV → Option (List D)
  | [] => some []
  | x :: r => match x.toD, toDs r with | some y, some ds => some (y :: ds) | _, _ => none
end
def AV.demote (x : AV) : AV := match x.toD with | some y => .d y | none => x
mutual
def AV.refs : AV → List Nat
  | .ptr i _ | .msl i _ _ | .iter i | .rsl i _ _ | .rpt i _ _ _ | .fsl i _ _ _ | .msb i _ _ | .mpv i | .rsb i _ _ _ => [i]
  | .func _ a b => refsL a ++ refsL b
  | .ifc _ x => x.refs
  | .agg cs => refsL cs
  | .tup cs => refsL cs
  | _ => []
def refsL : List AV → List Nat
  | [] => []
  | x :: r => x.refs ++ refsL r
end
mutual
def AV.tks : AV → List Nat
  | .osl t _ | .obs t _ | .fsl _ t _ _ => [t]
  | .func _ a b => tksL a ++ tksL b
  | .ifc _ x => x.tks
  | .agg cs => tksL cs
  | .tup cs => tksL cs
  | _ => []
def tksL : List AV → List Nat
  | [] => []
  | x :: r => x.tks ++ tksL r
end
mutual
def AV.ren (b t : Nat → Nat) : AV → AV
  | .ptr i o => .ptr (b i) o
  | .msl i n z => .msl (b i) n z
  | .rsl i z n => .rsl (b i) z n
  | .rpt i z k o => .rpt (b i) z k o
  | .fsl i k z n => .fsl (b i) (t k) z n
  | .iter i => .iter (b i)
  | .msb i o n => .msb (b i) o n
  | .rsb i z o n => .rsb (b i) z o n
  | .mpv i => .mpv (b i)
  | .osl k es => .osl (t k) es
  | .obs k es => .obs (t k) es
  | .func fn x y => .func fn (renL b t x) (renL b t y)
  | .ifc ty x => .ifc ty (x.ren b t)
  | .agg cs => .agg (renL b t cs)
  | .tup cs => .tup (renL b t cs)
  | x => x
def renL (b t : Nat → Nat) : List AV → List AV
  | [] => []
  | x :: r => x.ren b t :: renL b t r
end
def Box.refs : Box → List Nat
  | .cells _ cs => refsL cs
  | _ => []
def Box.tks : Box → List Nat
  | .cells _ cs => tksL cs
  | _ => []
def Box.ren (b t : Nat → Nat) : Box → Box
  | .cells ty cs => .cells ty (renL b t cs)
  | x => x
def addNew (l : List Nat) : List Nat → List Nat
  | [] => l
  | x :: r => addNew (if l.contains x then l else l ++ [x]) r
def reach (boxes : List Box) : Nat → List Nat → List Nat
  | 0, seen => seen
  | n + 1, seen =>
    let more := addNew seen (seen.flatMap fun i => (boxes.getD i .gone).refs)
    if more.length = seen.length then seen else reach boxes n more
def indexOf (x : Nat) : List Nat → Nat
  | [] => 0
  | y :: r => if x = y then 0 else indexOf x r + 1
def semPure (P : Program) {α : Type} : Sem α → Option α
  | .pure a => some a
  | .program k => semPure P (k P)
  | _ => none
def isAggT (P : Program) (t : TypeId) : Bool := match P.underlying t with | some (.struct _) | some (.array ..) => true | _ => false
def zeroOf (P : Program) (t : TypeId) : Option AV := match P.info? t with | some i => i.zero.map ofConst | none => none
def partA (P : Program) (t : TypeId) (cs : List AV) (off : Nat) : Option AV :=
  if (P.underlying t).isNone then none else
  if isAggT P t then (if off + P.cellsOf t ≤ cs.length then some (mkAgg ((cs.drop off).take (P.cellsOf t))) else none) else cs[off]?
def isByte (P : Program) (t : TypeId) : Bool := match P.underlying t with | some (.int .u8) => true | _ => false
def byteT (P : Program) (t : TypeId) : Bool := isByte P t && P.cellsOf t == 1
def splice (cs : List AV) (off : Nat) : List AV → List AV
  | [] => cs
  | v :: r => splice (cs.set off v) (off + 1) r
def operand (env : List AV) : Operand → AV
  | .tmp t => env.getD t .undef
  | .const v => ofConst v
  | .global g => .gptr g 0
  | .func f => .func (.func f) [] []
def asIdx : AV → Option Int
  | .d (.val (.int _ n)) => some n
  | _ => none
def bytesOf : AV → Option ByteArray
  | .d (.bytes b) | .obs _ b => some b
  | .d (.slice []) | .nsl => some .empty
  | _ => none
def elemsOf : AV → Option (List D)
  | .d (.slice es) | .osl _ es => some es
  | .nsl => some []
  | _ => none
def toBytes : List D → Option ByteArray
  | [] => some .empty
  | .val (.int .u8 n) :: r => match toBytes r with | some b => if 0 ≤ n ∧ n < 256 then some (⟨#[n.toNat.toUInt8]⟩ ++ b) else none | none => none
  | _ => none
def slen : AV → Option Nat
  | .d (.bytes b) | .obs _ b => some b.size
  | .d (.slice es) | .osl _ es => some es.length
  | .nsl => some 0
  | .msl _ n _ => some n
  | .rsl _ _ n | .fsl _ _ _ n => some n
  | .msb _ _ n => some n
  | .rsb _ _ _ n => some n
  | _ => none
def hasSize (size : Nat) : List D → Bool
  | [] => true
  | x :: _ => x.cells.length == size
def fitsA (size : Nat) : AV → Bool
  | .d (.slice es) | .osl _ es => hasSize size es
  | .d (.bytes _) | .obs _ _ => size == 1
  | .nsl => true
  | .rsl _ z _ | .fsl _ _ z _ => z == size
  | _ => false
def maxBytes : Nat := 140737488355328
abbrev Res := AV × List Box × List Nat
def resB (b : List Box) (k : List Nat) : Option AV → Option Res
  | some x => some (x, b, k)
  | none => none
def sameT (P : Program) : TypeDesc → AV → AV → Option Bool
  | .pointer e, .ptr i off, .ptr j off' => if (P.info? e).isSome = true ∧ i = j then (if off = off' then some true else if P.cellsOf e ≠ 0 then some false else none) else none
  | .pointer _, .ptr .., .d (.val (.pointer none)) => some false
  | .pointer _, .d (.val (.pointer none)), .ptr .. => some false
  | .func .., .func .., .d (.val .nilFunc) => some false
  | .func .., .d (.val .nilFunc), .func .. => some false
  | .func .., .yld, .d (.val .nilFunc) => some false
  | .interface _, .ifc .., .d (.val .nilIface) => some false
  | .interface _, .d (.val .nilIface), .ifc .. => some false
  | _, _, _ => none
def evBin (P : Program) (op : BinOp) (t : TypeId) (ox oy : Operand) (x y : AV) : Option AV :=
  match x.toVal, y.toVal with
  | some vx, some vy => match semPure P (do eqGuard op t ox oy vx vy; binOp op t vx vy) with | some v => some (ofVal v) | none => none
  | _, _ => match P.underlying t with
    | some d => match op, sameT P d x y with
      | .eql, some b => some (.d (.val (.bool b)))
      | .neq, some b => some (.d (.val (.bool !b)))
      | _, _ => none
    | none => none
def evPick : AV → AV → AV → Option AV
  | .d (.val (.bool b)), .d (.val (.bool x)), .d (.val (.bool y)) => some (.d (.val (.bool (bif b then x else y))))
  | .d (.val (.bool true)), x, _ => some x
  | .d (.val (.bool false)), _, y => some y
  | _, _, _ => none
def evAlloc (P : Program) (t : TypeId) (boxes : List Box) (toks : List Nat) : Option Res := match (zeroOf P t).bind AV.cells with
  | some z => some (.ptr boxes.length 0, boxes ++ [.cells (some t) z], toks)
  | none => none
def evBox (x : AV) (boxes : List Box) (toks : List Nat) : Option Res := match x.cells with
  | some z => some (.ptr boxes.length 0, boxes ++ [.cells none z], toks)
  | none => none
def fillA (place : Nat → Option (Nat × Nat)) (ρ : Operand → AV) : List AV → List (Nat × Operand) → Option (List AV)
  | cs, [] => some cs
  | cs, (i, x) :: r => match place i, (ρ x).cells with
    | some (off, size), some vs => if vs.length = size ∧ off + size ≤ cs.length then fillA place ρ (splice cs off vs) r else none
    | _, _ => none
def placeOf (P : Program) (t : TypeId) : Option (Nat → Option (Nat × Nat)) := match P.underlying t with
  | some (.struct fs) => match semPure P (fs.mapM fun f => do pure (f.offset, ← Go.sizeOf f.type)) with
    | some places => some fun i => places[i]?
    | none => none
  | some (.array _ e) => if (P.info? e).isSome then some fun i => some (i * P.cellsOf e, P.cellsOf e) else none
  | _ => none
def evBuild (P : Program) (t : TypeId) (ρ : Operand → AV) (parts : List (Nat × Operand)) : Option AV := match (zeroOf P t).bind AV.cells, placeOf P t with
  | some z, some pl => match fillA pl ρ z parts with
    | some cs => some (mkAgg cs)
    | none => none
  | _, _ => none
def listD (ρ : Operand → AV) (size : Nat) : Nat → List (Nat × Operand) → Option (List D)
  | _, [] => some []
  | n, (i, x) :: r => match (ρ x).toD, listD ρ size (n + 1) r with
    | some d, some ds => if i = n ∧ d.cells.length = size then some (d :: ds) else none
    | _, _ => none
def okElem (P : Program) (e : TypeId) : Bool := match P.info? e with
  | some i => match i.zero with
    | some z => z.cells.size == i.size && decide (0 < i.size) && decide (0 < i.bytes)
    | none => false
  | none => false
def newRowA (P : Program) (e : TypeId) (es : List D) (boxes : List Box) (toks : List Nat) : Option Res :=
  if isByte P e then match toBytes es with
    | some b => if P.cellsOf e = 1 then some (.obs toks.length b, boxes, toks ++ [b.size]) else none
    | none => none
  else some (.osl toks.length es, boxes, toks ++ [es.length])
def evBuildSlice (P : Program) (t : TypeId) (len : Nat) (ρ : Operand → AV) (parts : List (Nat × Operand)) (boxes : List Box) (toks : List Nat) : Option Res := match P.underlying t with
  | some (.slice e) => match listD ρ (P.cellsOf e) 0 parts with
    | some es => if es.length = len ∧ len * P.cellsOf e ≤ 2 ^ 24 ∧ okElem P e = true then newRowA P e es boxes toks else none
    | none => none
  | _ => none
def evLoad (P : Program) (t : TypeId) (boxes : List Box) : AV → Option AV
  | .ptr i off => match boxes[i]? with
    | some (.cells _ cs) => partA P t cs off
    | _ => none
  | .ept x off => partA P t (x.cells.map .d) off
  | .rpt i z k off => match boxes[i]? with
    | some (.row z' es) => match es[k]? with
      | some d => if z' = z ∧ d.cells.length = z then partA P t (d.cells.map .d) off else none
      | none => none
    | _ => none
  | _ => none
def spliceD (cs : List D) (off : Nat) : List D → List D
  | [] => cs
  | v :: r => spliceD (cs.set off v) (off + 1) r
def D.put (d : D) (off : Nat) (vs : List D) : D := match d with
  | .agg cs => .agg (spliceD cs off vs)
  | x => (spliceD [x] off vs).headD x
def evStore (P : Program) (t : TypeId) (x : AV) (boxes : List Box) (toks : List Nat) : AV → Option Res
  | .ptr i off => match boxes[i]?, x.cells with
    | some (.cells ty cs), some vs => if vs.length = P.cellsOf t ∧ off + vs.length ≤ cs.length ∧ (P.info? t).isSome = true then some (.undef, boxes.set i (.cells ty (splice cs off vs)), toks) else none
    | _, _ => none
  | .rpt i z k off => match boxes[i]?, x.toD with
    | some (.row z' es), some y => match es[k]? with
      | some d => if z' = z ∧ d.cells.length = z ∧ 0 < z ∧ y.cells.length = P.cellsOf t ∧ off + y.cells.length ≤ z ∧ (P.info? t).isSome = true then some (.undef, boxes.set i (.row z (es.set k (d.put off y.cells))), toks) else none
      | none => none
    | _, _ => none
  | _ => none
def evNilCheck : AV → Option AV
  | .ptr i off => some (.ptr i off)
  | .ept x off => some (.ept x off)
  | .gptr g off => some (.gptr g off)
  | .rpt i z k off => some (.rpt i z k off)
  | .func (.func f) a b => some (.func (.func f) a b)
  | .yld => some .yld
  | _ => none
def evUn (P : Program) (op : UnOp) (x : AV) : Option AV := match x.toVal with
  | some vx => match semPure P (Op.unary op vx) with | some r => some (ofVal r) | none => none
  | none => none
def evConvert (P : Program) (src dst : TypeId) (x : AV) (boxes : List Box) (toks : List Nat) : Option Res := match P.underlying src, P.underlying dst with
  | some .string, some (.slice e) => if isByte P e then match x with
      | .d (.val (.string s)) => some (.d (.bytes s), boxes, toks)
      | _ => none else none
  | some (.slice e), some .string => if isByte P e then match bytesOf x with
      | some b => some (.d (.val (.string b)), boxes, toks)
      | none => none else none
  | _, _ => match x.toVal with
    | some vx => resB boxes toks (match semPure P (convert src dst vx) with | some r => some (ofVal r) | none => none)
    | none => none
def optIdx (ρ : Operand → AV) (d : Int) : Option Operand → Option Int
  | none => some d
  | some o => asIdx (ρ o)
def cutA (x : AV) (l h : Nat) : Option AV := match x with
  | .d (.bytes b) | .obs _ b => some (.d (.bytes (b.extract l h)))
  | .d (.slice es) | .osl _ es => some (.d (.slice ((es.take h).drop l)))
  | .nsl => some .nsl
  | _ => none
def evSlice (P : Program) (t : TypeId) (ρ : Operand → AV) (x : Operand) (lo hi mx : Option Operand) : Option AV := match P.underlying t with
  | some .string => match ρ x, mx with
    | .d (.val (.string s)), none => match optIdx ρ 0 lo, optIdx ρ s.size hi with
      | some l, some h => if 0 ≤ l ∧ l ≤ h ∧ h ≤ s.size then some (.d (.val (.string (s.extract l.toNat h.toNat)))) else none
      | _, _ => none
    | _, _ => none
  | some (.slice e) => match slen (ρ x) with
    | some n => match optIdx ρ 0 lo, optIdx ρ n hi, optIdx ρ n mx with
      | some l, some h, some m => if 0 ≤ l ∧ l ≤ h ∧ h ≤ n ∧ h ≤ m ∧ m ≤ n ∧ (fitsA (P.cellsOf e) (ρ x) = true ∧ (P.info? e).isSome = true ∧ (mx.isSome = true → hi.isSome = true)) then cutA (ρ x) l.toNat h.toNat else none
      | _, _, _ => none
    | none => none
  | _ => none
def evFieldAddr (P : Program) (s : TypeId) (f : Nat) (x : AV) : Option AV := match P.underlying s with
  | some (.struct fs) => match fs[f]? with
    | some f => if P.cellsOf f.type = 0 then none else match x with
      | .ptr i off => some (.ptr i (off + f.offset))
      | .ept d off => some (.ept d (off + f.offset))
      | .gptr g off => some (.gptr g (off + f.offset))
      | .rpt i z k off => some (.rpt i z k (off + f.offset))
      | _ => none
    | none => none
  | _ => none
def evField (P : Program) (s : TypeId) (f : Nat) (x : AV) : Option AV := match P.underlying s with
  | some (.struct fs) => match fs[f]?, x.aggCells with
    | some f, some cs => partA P f.type cs f.offset
    | _, _ => none
  | _ => none
def elemAt (x : AV) (k : Nat) : Option D := match x with
  | .d (.bytes b) | .obs _ b => match b[k]? with | some c => some (.val (.int .u8 c.toNat)) | none => none
  | .d (.slice es) | .osl _ es => es[k]?
  | _ => none
def evIndexAddr (P : Program) (t : TypeId) (x i : AV) : Option AV := match P.underlying t, asIdx i with
  | some (.array n e), some k => if 0 ≤ k ∧ k < n ∧ (P.info? e).isSome = true then match x with
      | .ptr b off => some (.ptr b (off + k.toNat * P.cellsOf e))
      | .ept d off => some (.ept d (off + k.toNat * P.cellsOf e))
      | .gptr g off => some (.gptr g (off + k.toNat * P.cellsOf e))
      | _ => none
    else none
  | some (.slice e), some k => if 0 ≤ k then match x with
    | .msl i n _ => if k.toNat < n ∧ (P.info? e).isSome = true then some (.ptr i (k.toNat * P.cellsOf e)) else none
    | .msb i off n => if k.toNat < n ∧ (P.info? e).isSome = true then some (.ptr i (off + k.toNat * P.cellsOf e)) else none
    | .rsl i z n => if k.toNat < n ∧ (P.info? e).isSome = true ∧ P.cellsOf e = z then some (.rpt i z k.toNat 0) else none
    | .rsb i z off n => if k.toNat < n ∧ (P.info? e).isSome = true ∧ P.cellsOf e = z then some (.rpt i z (off + k.toNat) 0) else none
    | x => match elemAt x k.toNat with
      | some d => if d.cells.length = P.cellsOf e ∧ (P.info? e).isSome = true then some (.ept d 0) else none
      | none => none
    else none
  | _, _ => none
def evIndex (P : Program) (t : TypeId) (x i : AV) : Option AV := match P.underlying t, asIdx i with
  | some (.array n e), some k => match x.aggCells with
    | some cs => if 0 ≤ k ∧ k < n then partA P e cs (k.toNat * P.cellsOf e) else none
    | none => none
  | some .string, some k => match x with
    | .d (.val (.string s)) => if 0 ≤ k then match s[k.toNat]? with | some c => some (.d (.val (.int .u8 c.toNat))) | none => none else none
    | _ => none
  | _, _ => none
def evRange (P : Program) (t : TypeId) (x : AV) (boxes : List Box) (toks : List Nat) : Option Res := match P.underlying t, x with
  | some .string, .d (.val (.string s)) => some (.iter boxes.length, boxes ++ [.iter s 0], toks)
  | _, _ => none
def evNext (x : AV) (boxes : List Box) (toks : List Nat) : Option Res := match x with
  | .iter i => match boxes[i]? with
    | some (.iter s pos) =>
      if pos < s.size then
        some (.tup [.d (.val (.bool true)), .d (.val (goInt pos)), .d (.val (.int .i32 (Utf8.decode s pos).1))], boxes.set i (.iter s (pos + (Utf8.decode s pos).2)), toks)
      else some (.tup [.d (.val (.bool false))], boxes, toks)
    | _ => none
  | _ => none
def evExtract (i : Nat) : AV → Option AV
  | .tup vs => vs[i]?
  | _ => none
def evLen (P : Program) (t : TypeId) (x : AV) : Option AV := match P.underlying t with
  | some (.array n _) => some (.d (.val (goInt n)))
  | some .string => match x with
    | .d (.val (.string s)) => some (.d (.val (goInt s.size)))
    | _ => none
  | some (.slice _) => match slen x with
    | some n => some (.d (.val (goInt n)))
    | none => none
  | _ => none
def valsOfA : List AV → Option (List Value)
  | [] => some []
  | x :: r => match x.toVal, valsOfA r with | some v, some vs => some (v :: vs) | _, _ => none
def evMaxMin (P : Program) (f : Array Value → Sem Value) (xs : List AV) : Option AV := match valsOfA xs with
  | some vs => match semPure P (f vs.toArray) with | some r => some (ofVal r) | none => none
  | none => none
def moreBytes (y : AV) : Option ByteArray := match y with
  | .d (.val (.string s)) => some s
  | y => bytesOf y
def evAppend (P : Program) (t : TypeId) (x y : AV) (boxes : List Box) (toks : List Nat) : Option Res := match P.underlying t with
  | some (.slice e) =>
    if isByte P e then match moreBytes y with
      | some b => if b.size = 0 then (match slen x with | some _ => some (x, boxes, toks) | none => none) else match x with
        | .nsl => if b.size * P.bytesOf e ≤ maxBytes ∧ okElem P e = true ∧ P.cellsOf e = 1 then some (.obs toks.length b, boxes, toks ++ [b.size]) else none
        | .obs t a => if toks[t]? = some a.size ∧ (a.size + b.size) * P.bytesOf e ≤ maxBytes ∧ okElem P e = true ∧ P.cellsOf e = 1 then some (.obs t (a ++ b), boxes, toks.set t (a.size + b.size)) else none
        | _ => none
      | none => none
    else match elemsOf y with
      | some b => if b.isEmpty then (match slen x with | some _ => if (P.info? e).isSome = true then some (x, boxes, toks) else none | none => none) else
        if hasSize (P.cellsOf e) b = true ∧ fitsA (P.cellsOf e) x = true then match x with
        | .nsl => if b.length * P.bytesOf e ≤ maxBytes ∧ okElem P e = true then some (.osl toks.length b, boxes, toks ++ [b.length]) else none
        | .osl t a => if toks[t]? = some a.length ∧ (a.length + b.length) * P.bytesOf e ≤ maxBytes ∧ okElem P e = true ∧ True then some (.osl t (a ++ b), boxes, toks.set t (a.length + b.length)) else none
        | _ => none
        else none
      | none => none
  | _ => none
def evFogB (P : Program) (e : TypeId) (x y : AV) (boxes : List Box) (toks : List Nat) : Option Res := match moreBytes y with
  | some b => if b.size = 0 then none else if P.cellsOf e = 1 then match x with
    | .rsl i z n => match boxes[i]? with
      | some (.row _ _) => if z = 1 ∧ (n + b.size) * P.bytesOf e ≤ maxBytes ∧ okElem P e = true then some (.fsl i toks.length z (n + b.size), boxes.set i (.row z []), toks ++ [n + b.size]) else none
      | _ => none
    | .fsl i t z n => match boxes[i]? with
      | some (.row _ _) => if z = 1 ∧ toks[t]? = some n ∧ (n + b.size) * P.bytesOf e ≤ maxBytes ∧ okElem P e = true then some (.fsl i t z (n + b.size), boxes.set i (.row z []), toks.set t (n + b.size)) else none
      | _ => none
    | _ => none
    else none
  | none => none
def evFogA (P : Program) (t : TypeId) (x y : AV) (boxes : List Box) (toks : List Nat) : Option Res := match P.underlying t with
  | some (.slice e) =>
    if isByte P e then evFogB P e x y boxes toks else match elemsOf y with
      | some b => if b.isEmpty then none else
        if hasSize (P.cellsOf e) b = true ∧ fitsA (P.cellsOf e) x = true then match x with
        | .rsl i z n => match boxes[i]? with
          | some (.row _ _) => if (n + b.length) * P.bytesOf e ≤ maxBytes ∧ okElem P e = true then some (.fsl i toks.length z (n + b.length), boxes.set i (.row z []), toks ++ [n + b.length]) else none
          | _ => none
        | .fsl i t z n => match boxes[i]? with
          | some (.row _ _) => if toks[t]? = some n ∧ (n + b.length) * P.bytesOf e ≤ maxBytes ∧ okElem P e = true then some (.fsl i t z (n + b.length), boxes.set i (.row z []), toks.set t (n + b.length)) else none
          | _ => none
        | _ => none
        else none
      | none => none
  | _ => none
def intArg (P : Program) : Option TypeId → Bool
  | some u => (match P.underlying u with | some (.int _) | none => true | _ => false)
  | none => true
def nilOwn (P : Program) (t : TypeId) : Operand → Option Bool
  | .const (.slice A n c) => if A.isNone = true ∧ n = 0 ∧ c = 0 then (match P.underlying t with | some (.slice e) => some (isByte P e) | _ => none) else none
  | _ => none
def evMkI (P : Program) (t : TypeId) (x : AV) : Option AV := match P.underlying t, x with
  | some (.int _), .d (.val (.int k n)) => some (.d (.val (.iface t (.int k n))))
  | _, _ => none
def evPlain (P : Program) (o : Oper) (env : List AV) (boxes : List Box) (toks : List Nat) : Option Res :=
  match o.op with
  | .move x => some (operand env x, boxes, toks)
  | .assign x => match nilOwn P o.type x with
    | some true => some (.obs toks.length .empty, boxes, toks ++ [0])
    | some false => some (.osl toks.length [], boxes, toks ++ [0])
    | none => some (operand env x, boxes, toks)
  | .pick c a b => resB boxes toks (evPick (operand env c) (operand env a) (operand env b))
  | .alloc t => evAlloc P t boxes toks
  | .box _ x => evBox (operand env x) boxes toks
  | .build t parts => resB boxes toks (evBuild P t (operand env) parts.toList)
  | .buildSlice t len parts => evBuildSlice P t len (operand env) parts.toList boxes toks
  | .load t a => resB boxes toks (evLoad P t boxes (operand env a))
  | .store t a x => evStore P t (operand env x) boxes toks (operand env a)
  | .nilCheck x => resB boxes toks (evNilCheck (operand env x))
  | .binOp op t x y _ => resB boxes toks (evBin P op t x y (operand env x) (operand env y))
  | .unOp op _ x => resB boxes toks (evUn P op (operand env x))
  | .convert src dst x => evConvert P src dst (operand env x) boxes toks
  | .makeInterface t x => resB boxes toks (evMkI P t (operand env x))
  | .makeFunc fn first caps => some (.func fn (first.toList.map (operand env)) (caps.toList.map (operand env)), boxes, toks)
  | .slice t x lo hi mx => resB boxes toks (evSlice P t (operand env) x lo hi mx)
  | .fieldAddr s x f => resB boxes toks (evFieldAddr P s f (operand env x))
  | .field s x f => resB boxes toks (evField P s f (operand env x))
  | .indexAddr t x i => resB boxes toks (evIndexAddr P t (operand env x) (operand env i))
  | .index t x i => resB boxes toks (evIndex P t (operand env x) (operand env i))
  | .range t x => evRange P t (operand env x) boxes toks
  | .next it true => evNext (operand env it) boxes toks
  | .extract x i => resB boxes toks (evExtract i (operand env x))
  | .call c => match c.callee, c.argTypes[0]?, c.args[0]?, c.args[1]? with
    | .builtin .len, some t, some x, _ => resB boxes toks (evLen P t (operand env x))
    | .builtin .max, _, _, _ => resB boxes toks (evMaxMin P (Builtin.max_ c.argTypes o.type) (c.args.toList.map (operand env)))
    | .builtin .min, _, _, _ => resB boxes toks (evMaxMin P (Builtin.min_ c.argTypes o.type) (c.args.toList.map (operand env)))
    | .builtin .append, some t, some x, some y => if intArg P c.argTypes[1]? then none else evAppend P t (operand env x) (operand env y) boxes toks
    | _, _, _, _ => none
  | _ => none
def listA (ρ : Operand → AV) (size : Nat) : Nat → List (Nat × Operand) → Option (List AV)
  | _, [] => some []
  | n, (i, x) :: r => match (ρ x).cells, listA ρ size (n + 1) r with
    | some vs, some cs => if i = n ∧ vs.length = size then some (vs ++ cs) else none
    | _, _ => none
def evDeep (P : Program) (t : TypeId) (len : Nat) (ρ : Operand → AV) (parts : List (Nat × Operand)) (boxes : List Box) (toks : List Nat) : Option Res := match P.underlying t with
  | some (.slice e) => match listA ρ (P.cellsOf e) 0 parts with
    | some cs => if parts.length = len ∧ len * P.cellsOf e ≤ 2 ^ 24 ∧ okElem P e = true then some (.msl boxes.length len (P.cellsOf e), boxes ++ [.cells none cs], toks) else none
    | none => none
  | _ => none
def evFog (P : Program) (o : Oper) (env : List AV) (boxes : List Box) (toks : List Nat) : Option Res := match o.op with
  | .call c => match c.callee, c.argTypes[0]?, c.args[0]?, c.args[1]? with
    | .builtin .append, some t, some x, some y => if intArg P c.argTypes[1]? then none else evFogA P t (operand env x) (operand env y) boxes toks
    | _, _, _, _ => none
  | _ => none
def ofVal2 : Value → AV
  | .tuple us => .tup (us.toList.map ofVal)
  | v => ofVal v
def entriesOf (es : List (Value × Value)) : List MapEntry := es.map fun p => { key := p.1, val := p.2, born := 0 }
def nilCmp (P : Program) (t : TypeId) (x y : AV) : Option Bool := match P.underlying t with
  | some (.slice _) => match x, y with
    | .nsl, .nsl => some true
    | .d (.slice (_ :: _)), .nsl | .osl _ (_ :: _), .nsl | .msl .., .nsl | .msb .., .nsl => some false
    | .d (.bytes b), .nsl | .obs _ b, .nsl => if b.size = 0 then none else some false
    | _, _ => none
  | _ => none
def cutRow (byt : Bool) (x : AV) (z l h : Nat) : Option AV := match x with
  | .rsl i z' n => if h ≤ n ∧ z' = z then (if l < h then some (.rsb i z l (h - l)) else some (.d (if byt then .bytes .empty else .slice []))) else none
  | .rsb i z' off n => if h ≤ n ∧ z' = z then (if l < h then some (.rsb i z (off + l) (h - l)) else some (.d (if byt then .bytes .empty else .slice []))) else none
  | .msl i n _ => if h ≤ n ∧ (l < n ∨ l = 0) then some (.msb i (l * z) (h - l)) else none
  | .msb i off n => if h ≤ n ∧ (l < n ∨ l = 0) then some (.msb i (off + l * z) (h - l)) else none
  | _ => none
def rowBytes (n : Nat) (es : List D) : Option ByteArray := if es.length = n then toBytes es else none
def partBytes (off n : Nat) (es : List D) : Option ByteArray := if off + n ≤ es.length then toBytes ((es.drop off).take n) else none
def bytesD (b : ByteArray) : List D := b.data.toList.map fun x => .val (.int .u8 x.toNat)
def evRowN (P : Program) (t : TypeId) (x y : AV) (boxes : List Box) (toks : List Nat) : Option Res := match P.underlying t, x, moreBytes y with
  | some (.slice e), .nsl, some b => if isByte P e = true ∧ okElem P e = true ∧ P.cellsOf e = 1 ∧ b.size * P.bytesOf e ≤ maxBytes then (if b.size = 0 then some (.d (.bytes .empty), boxes, toks) else some (.rsb boxes.length 1 0 b.size, boxes ++ [.row 1 (bytesD b)], toks)) else none
  | _, _, _ => none
def evRowA (P : Program) (o : Oper) (env : List AV) (boxes : List Box) (toks : List Nat) : Option Res := match o.op with
  | .call c => match c.callee, c.argTypes[0]?, c.args[0]?, c.args[1]? with
    | .builtin .append, some t, some x, some y => if intArg P c.argTypes[1]? then none else evRowN P t (operand env x) (operand env y) boxes toks
    | _, _, _, _ => none
  | _ => none
def timesL {α : Type} (zs : List α) : Nat → List α
  | 0 => []
  | n + 1 => zs ++ timesL zs n
def evRest (P : Program) (o : Oper) (env : List AV) (boxes : List Box) (toks : List Nat) : Option Res := match o.op with
  | .makeInterface t x => match (operand env x).toVal with
    | some v => match semPure P (Instr.makeInterface t v) with
      | some u => some (ofVal u, boxes, toks)
      | none => none
    | none => none
  | .typeAssert x xt t ok => match (operand env x).toVal with
    | some v => match semPure P (Instr.typeAssert v xt t ok) with
      | some u => some (ofVal2 u, boxes, toks)
      | none => none
    | none => none
  | .binOp op t x y _ => match op, nilCmp P t (operand env x) (operand env y) with
    | .eql, some b => some (.d (.val (.bool b)), boxes, toks)
    | .neq, some b => some (.d (.val (.bool !b)), boxes, toks)
    | _, _ => none
  | .slice t x lo hi none => match P.underlying t, optIdx (operand env) 0 lo with
    | some (.slice e), some l => match slen (operand env x) with
      | some n => match optIdx (operand env) n hi with
        | some h => if 0 ≤ l ∧ l ≤ h ∧ (P.info? e).isSome = true then (match cutRow (isByte P e) (operand env x) (P.cellsOf e) l.toNat h.toNat with | some v => some (v, boxes, toks) | none => none) else none
        | none => none
      | none => none
    | _, _ => none
  | .makeMap _ none => some (.mpv boxes.length, boxes ++ [.map []], toks)
  | .insert t m k x => match operand env m, (operand env k).toVal, (operand env x).toVal with
    | .mpv i, some kv, some xv => match boxes[i]?, P.underlying t with
      | some (.map es), some (.map kt _) => match semPure P (Instr.checkKey false 10000 kt kv), P.underlying kt with
        | some _, some kd => match Instr.findNow kd kv (entriesOf es) 0 with
          | some none => some (.undef, boxes.set i (.map (es ++ [(kv, xv)])), toks)
          | _ => none
        | _, _ => none
      | _, _ => none
    | _, _, _ => none
  | .lookup t m k false => match operand env m, (operand env k).toVal with
    | .mpv i, some kv => match boxes[i]?, P.underlying t with
      | some (.map es), some (.map kt et) => match semPure P (Instr.checkKey es.isEmpty 10000 kt kv), P.underlying kt with
        | some _, some kd => match Instr.findNow kd kv (entriesOf es) 0 with
          | some (some (_, v)) => some (ofVal v, boxes, toks)
          | some none => match zeroOf P et with
            | some z => some (z, boxes, toks)
            | none => none
          | none => none
        | _, _ => none
      | _, _ => none
    | _, _ => none
  | .convert src dst x => match P.underlying src, P.underlying dst, operand env x with
    | some (.slice e), some .string, .rsl i z n => if isByte P e = true ∧ z = 1 then (match boxes[i]? with
      | some (.row z' es) => if z' = 1 then (match rowBytes n es with | some b => some (.d (.val (.string b)), boxes, toks) | none => none) else none
      | _ => none) else none
    | some (.slice e), some .string, .rsb i z off n => if isByte P e = true ∧ z = 1 then (match boxes[i]? with
      | some (.row z' es) => if z' = 1 then (match partBytes off n es with | some b => some (.d (.val (.string b)), boxes, toks) | none => none) else none
      | _ => none) else none
    | _, _, _ => none
  | .call c => match c.callee, c.argTypes[0]?, c.args[0]? with
    | .builtin .clear, some t, some x => match P.underlying t, operand env x with
      | some (.slice e), .msb i off n => match boxes[i]?, (zeroOf P e).bind AV.cells with
        | some (.cells ty cs), some z => if z.length = P.cellsOf e ∧ 0 < n ∧ 0 < P.cellsOf e ∧ off + n * P.cellsOf e ≤ cs.length ∧ (P.info? e).isSome = true then some (.tup [], boxes.set i (.cells ty (splice cs off (timesL z n))), toks) else none
        | _, _ => none
      | _, _ => none
    | _, _, _ => none
  | _ => none
end Ev
