/- What functions of the program compute, as plain Lean functions, each with its proof by a proved reader; plain laws about them (EvB). -/
import Derived.Test.YtohmflkolmobmaaGreatDoorEvA
namespace Ev
open Go
abbrev Yd (σ : Type) := List D → σ → Option (Bool × σ)
abbrev Hd := (σ : Type) → Yd σ → FuncId → List AV → List Box → List Nat → σ → Option (Out × List Box × List Nat × σ)
inductive Ex where
  | normal
  | exit (id : Nat)
  | ret
  | panic (v : AV)
def wantedA (all : List Oper) (env : List AV) (o : Oper) : Option Bool :=
  match o.guard with
  | none => some true
  | some (j, want) => match all[j]? with
    | some q => match q.dst with
      | some t => match env.getD t .undef with
        | .d (.val (.bool b)) => some (b == want)
        | .tup [] => some false
        | _ => none
      | none => none
    | none => none
def putA (env : List AV) (dst : Option Tmp) (v : AV) : List AV := match dst with | some t => env.set t v | none => env
def datas : List AV → Option (List D)
  | [] => some []
  | x :: r => match x.toD, datas r with | some y, some ds => some (y :: ds) | _, _ => none
def noY : Yd Unit := fun _ _ => none
def errsOf : List AV → Option (List D × TypeId)
  | [] => none
  | [.ifc t _] => some ([], t)
  | x :: r => match x.toD, errsOf r with | some d, some (ds, t) => some (d :: ds, t) | _, _ => none
def bytesFirst (P : Program) (ats : Array TypeId) : Bool := match ats[0]? with
  | some t => match P.underlying t with | some (.slice e) => isByte P e | _ => false
  | none => false
def toPR : AV → Option PR
  | .tup vs => match datas vs with | some ds => some (.many ds) | none => match errsOf vs with | some (ds, t) => some (.errs ds t) | none => none
  | x => match x.toD with | some d => some (.one d) | none => none
section
variable {σ : Type} (C : Cfg) (H : Hd) (Y : Yd σ)
def pureCall (f : FuncId) (ds : List D) : Option PR := match H Unit noY f (ds.map .d) [] [] () with
  | some (.ret v, _, _, _) => toPR v
  | _ => none
def allIn (l : List Nat) (m : List Nat) : Bool := l.all m.contains
def distinct : List Nat → Bool
  | [] => true
  | x :: r => !r.contains x && distinct r
def putBack {α : Type} (l : List α) : List (Nat × α) → List α
  | [] => l
  | (i, x) :: r => putBack (l.set i x) r
def notGone : Box → Bool
  | .gone => false
  | _ => true
def lentB (args : List AV) (boxes : List Box) : List Nat := reach boxes (boxes.length + 1) (addNew [] (refsL args))
def lentT (args : List AV) (bs : List Box) : List Nat := addNew [] (tksL args ++ bs.flatMap Box.tks)
def lendOk (rs ts : List Nat) (args : List AV) (bs : List Box) (boxes : List Box) (toks : List Nat) : Bool :=
  distinct rs && distinct ts && rs.all (fun i => decide (i < boxes.length)) && ts.all (fun i => decide (i < toks.length)) && allIn (refsL args) rs && allIn (bs.flatMap Box.refs) rs && allIn (tksL args) ts && allIn (bs.flatMap Box.tks) ts && bs.all notGone
def backIdx (rs : List Nat) (n i : Nat) : Nat := if i < rs.length then rs.getD i 0 else n + (i - rs.length)
def merge {α : Type} (l : List α) (rs : List Nat) (b : List α) (keep : Bool) : List α := putBack l (rs.zip (b.take rs.length)) ++ (if keep then b.drop rs.length else [])
def _root_.Ev.Out.val : Out → AV
  | .ret v => v
  | .panic v => v
def _root_.Ev.Out.ren (b t : Nat → Nat) : Out → Out
  | .ret v => .ret (v.ren b t)
  | .panic v => .panic (v.ren b t)
def lend (σ : Type) (Y : Yd σ) (f : FuncId) (args : List AV) (boxes : List Box) (toks : List Nat) (s : σ) : Option (Out × List Box × List Nat × σ) :=
  let rs := lentB args boxes
  let lent := rs.map fun i => boxes.getD i .gone
  let ts := lentT args lent
  if lendOk rs ts args lent boxes toks then
    match H σ Y f (renL (indexOf · rs) (indexOf · ts) args) (lent.map (Box.ren (indexOf · rs) (indexOf · ts))) (ts.map fun t => toks.getD t 0) s with
    | some (o, bs, tk, s') =>
      let v := o.val
      let bb := backIdx rs boxes.length
      let bt := backIdx ts toks.length
      let keepB := (v.refs ++ (bs.take rs.length).flatMap Box.refs).any (rs.length ≤ ·)
      let keepT := (v.tks ++ (if keepB then bs else bs.take rs.length).flatMap Box.tks).any (ts.length ≤ ·)
      some (o.ren bb bt, merge boxes rs (bs.map (Box.ren bb bt)) keepB, merge toks ts tk keepT, s')
    | none => none
  else none
structure St (σ : Type) where
  env : List AV
  boxes : List Box
  toks : List Nat
  s : σ
def tryPure (f : FuncId) (as : List AV) : Option PR := if C.keep f then none else match datas as with | some ds => pureCall H f ds | none => none
def flatD : D → Bool
  | .val _ => true
  | .agg cs => cs.all fun | .val _ => true | .slice [] => true | _ => false
  | _ => false
def thawRes (v : AV) (tk : List Nat) (boxes : List Box) : Option (AV × List Box) := match v with
  | .osl t (e :: es) =>
    if tk[t]? = some (es.length + 1) ∧ (e :: es).all flatD = true ∧ (e :: es).all (fun x => x.cells.length == e.cells.length) = true ∧ 0 < e.cells.length then
      some (.msl boxes.length (es.length + 1) e.cells.length, boxes ++ [.cells none (((e :: es).flatMap D.cells).map .d)])
    else none
  | _ => none
def flatAs : List AV → Bool
  | [] => true
  | .d x :: r => flatD x && flatAs r
  | _ => false
def thawCall (f : FuncId) (ds : List D) (boxes : List Box) : Option (AV × List Box) := match H Unit noY f (ds.map .d) [] [] () with
  | some (.ret (.tup (.nsl :: r)), _, _, _) => if flatAs r = true then some (.tup (.nsl :: r), boxes) else none
  | some (.ret (.tup (v :: r)), _, tk, _) => if flatAs r = true then (match thawRes v tk boxes with | some (v, b) => some (.tup (v :: r), b) | none => none) else none
  | some (.ret v, _, tk, _) => thawRes v tk boxes
  | _ => none
def globLoad (o : Oper) (env : List AV) : Option AV := match o.op with
  | .load t a => match operand env a with
    | .gptr g off => match C.glob g with
      | some cs => partA C.P t (cs.map .d) off
      | none => none
    | _ => none
  | _ => none
def rowApp (ats : Array TypeId) : Bool := match ats[0]? with | some t => C.rowA t | none => false
def skipPlain (o : Oper) : Bool := match o.op with
  | .buildSlice t _ _ => C.deep t
  | .call { callee := .builtin .append, argTypes, .. } => rowApp C argTypes
  | _ => false
def plainOf (o : Oper) (env : List AV) (boxes : List Box) (toks : List Nat) : Option Res := bif skipPlain C o then none else evPlain C.P o env boxes toks
def evMore (o : Oper) (env : List AV) (boxes : List Box) (toks : List Nat) : Option Res := match o.op with
  | .buildSlice t len parts => bif C.deep t then evDeep C.P t len (operand env) parts.toList boxes toks else none
  | .call { callee := .builtin .append, argTypes, .. } => bif rowApp C argTypes then evRowA C.P o env boxes toks else match evFog C.P o env boxes toks with
    | some r => some r
    | none => evRest C.P o env boxes toks
  | _ => match evFog C.P o env boxes toks with
    | some r => some r
    | none => evRest C.P o env boxes toks
def evOp (draw : Bool) (o : Oper) (st : St σ) : Option (Ex × St σ) :=
  let put (v : AV) (b : List Box) (t : List Nat) (s : σ) : Option (Ex × St σ) := some (.normal, { env := putA st.env o.dst v, boxes := b, toks := t, s })
  match o.op with
  | .call { callee := .value g, args, argTypes := ats } =>
    let as := args.toList.map (operand st.env)
    match operand st.env g with
    | .func (.func f) first caps =>
      let as := first ++ as
      match C.odd f with
      | some g => if draw && !g.quiet && !(g.tok && bytesFirst C.P ats) then none else match g.run (as ++ caps) st.boxes st.toks (fun v b t => some (v, b, t)) with
        | some (v, b, t) => put v b t st.s
        | none => none
      | none =>
      if C.thaw f then (if draw then none else match datas (as ++ caps) with
        | some ds => match thawCall H f ds st.boxes with
          | some (v, b) => put v b st.toks st.s
          | none => none
        | none => none) else
      match tryPure C H f (as ++ caps) with
      | some r => put r.av st.boxes st.toks st.s
      | none => if draw then none else match lend H σ Y f ((if C.keep f then as else as.map AV.demote) ++ caps) st.boxes st.toks st.s with
        | some (.ret v, b, t, s) => put v b t s
        | some (.panic (.d (.val u)), b, t, s) => some (.panic (.d (.val u)), { st with boxes := b, toks := t, s })
        | _ => none
    | .yld => if draw then none else match datas as with
      | some ds => match Y ds st.s with
        | some (b, s) => put (.d (.val (.bool b))) st.boxes st.toks s
        | none => none
      | none => none
    | _ => none
  | .panic x => if draw then none else match operand st.env x with
    | .d (.val (.iface t v)) => some (.panic (.d (.val (.iface t v))), st)
    | _ => none
  | _ => match globLoad C o st.env with
    | some v => put v st.boxes st.toks st.s
    | none => match plainOf C o st.env st.boxes st.toks with
      | some (v, b, t) => put v b t st.s
      | none => if draw then none else match evMore C o st.env st.boxes st.toks with
        | some (v, b, t) => put v b t st.s
        | none => none
def step1 (draw : Bool) (all : List Oper) (o : Oper) (st : St σ) : Option (Ex × St σ) := match wantedA all st.env o with
  | some true => evOp C H Y draw o st
  | some false => some (.normal, { st with env := putA st.env o.dst (.tup []) })
  | none => none
def guardedBy (all : List Oper) (c : Tmp) : List Oper → List Nat
  | [] => []
  | q :: r => match q.guard with
    | some (j, _) => match all[j]? with
      | some g => match g.dst, q.dst with
        | some c', some d => if c' = c then d :: guardedBy all c r else guardedBy all c r
        | _, _ => guardedBy all c r
      | none => guardedBy all c r
    | none => guardedBy all c r
def forgets (all : List Oper) (o : Oper) : List Nat := match o.op with
  | .pick (.tmp c) _ _ => (guardedBy all c all).filter fun d => o.dst != some d
  | _ => []
def forgetL (ds : List Nat) (env : List AV) : List AV := ds.foldl (fun e d => e.set d .undef) env
def forgetSt (draw : Bool) (all : List Oper) (o : Oper) (st : St σ) : St σ := if draw then st else { st with env := forgetL (forgets all o) st.env }
def evOps (draw : Bool) (all : List Oper) : List Oper → St σ → Option (Ex × St σ)
  | [], st => some (.normal, st)
  | o :: r, st => match step1 C H Y draw all o st with
    | some (.normal, st) => evOps draw all r (forgetSt draw all o st)
    | x => x
inductive Class where
  | pure | reads | writes | toks | looks | calls
  deriving DecidableEq
def classOf (P : Program) : Op → Class
  | .load .. => .reads
  | .store .. | .alloc _ | .box .. | .range .. | .next .. => .writes
  | .buildSlice .. | .call { callee := .builtin .append, .. } | .assign (.const (.slice _ _ _)) => .toks
  | .call { callee := .value _, argTypes, .. } => bif bytesFirst P argTypes then .calls else .looks
  | _ => .pure
def Class.tk : Class → Bool
  | .toks | .calls => true
  | _ => false
def Class.lk : Class → Bool
  | .looks | .calls => true
  | _ => false
def Class.clash : Class → Class → Bool
  | .writes, .writes | .reads, .writes | .writes, .reads | .toks, .toks | .looks, .writes | .writes, .looks | .looks, .toks | .toks, .looks => true
  | .calls, .writes | .writes, .calls | .calls, .toks | .toks, .calls | .calls, .looks | .looks, .calls | .calls, .calls => true
  | _, _ => false
def tmpOf : Operand → List Nat
  | .tmp t => [t]
  | _ => []
def looks (all : List Oper) (o : Oper) : List Nat := o.op.operands.toList.flatMap tmpOf ++ (match o.guard with | some (j, _) => (match all[j]? with | some q => q.dst.toList | none => []) | none => [])
def edge (i : Nat) (o : Oper) : Bool := o.after.toList.any fun e => e.on == i && Region.binds .any e
def edgeT (all : List Oper) : Nat → Nat → Oper → Bool
  | 0, i, o => edge i o
  | n + 1, i, o => edge i o || o.after.toList.any fun e => Region.binds .any e && (match all[e.on]? with | some c => edgeT all n i c | none => false)
def offOf : AV → Nat → AV → Nat → Bool
  | .ptr b o, n, .ptr b' o', n' => b != b' || decide (o + n ≤ o') || decide (o' + n' ≤ o)
  | .ept _ _, _, .ptr _ _, _ => true
  | _, _, _, _ => false
def noDst (t : Nat) (l : List Oper) : Bool := l.all fun o => match o.dst with | some u => u != t | none => true
def farOff (P : Program) (env : List AV) (la lb : List Oper) (a b : Oper) : Bool := match a.op, b.op with
  | .load t (.tmp x), .store t' (.tmp y) _ => noDst x la && noDst y lb && offOf (env.getD x .undef) (max 1 (P.cellsOf t)) (env.getD y .undef) (P.cellsOf t')
  | .store t' (.tmp y) _, .load t (.tmp x) => noDst y la && noDst x lb && offOf (env.getD x .undef) (max 1 (P.cellsOf t)) (env.getD y .undef) (P.cellsOf t')
  | .load _ _, .alloc _ => true
  | _, _ => false
def apartD (all : List Oper) (a b : Oper) : Bool :=
  (match a.dst with | some t => !(looks all b).contains t && (match b.dst with | some u => t != u | none => true) | none => true) &&
  (match b.dst with | some t => !(looks all a).contains t | none => true)
def freeOf (P : Program) (env : List AV) (all : List Oper) (i : Nat) (la : List Oper) (a : Oper) : List Oper → Bool
  | [] => true
  | b :: r => (apartD all a b && (!(classOf P a.op).clash (classOf P b.op) || farOff P env la (b :: r) a b) || edgeT all 4 i b) && freeOf P env all i la a r
def drawOk (P : Program) (env : List AV) (all : List Oper) : Nat → List Oper → Bool
  | _, [] => true
  | i, a :: r => a.after.toList.all (fun e => !Region.binds .any e || decide (e.on < i)) && freeOf P env all i (a :: r) a r && drawOk P env all (i + 1) r
def isAlloc (o : Oper) : Bool := o.guard.isNone && o.dst.isSome && (match o.op with | .alloc _ => true | _ => false)
def two (all : List Oper) (i : Nat) (la : List Oper) (a b : Oper) (r : List Oper) : Bool := isAlloc a && isAlloc b && Nat.beq (r.length + 2) la.length && apartD all a b && r.all (edgeT all 4 i)
def freeOf2 (P : Program) (env : List AV) (all : List Oper) (i : Nat) (la : List Oper) (a : Oper) : List Oper → Bool
  | [] => true
  | b :: r => (apartD all a b && (!(classOf P a.op).clash (classOf P b.op) || farOff P env la (b :: r) a b) || edgeT all 4 i b || two all i la a b r) && freeOf2 P env all i la a r
def draw2 (P : Program) (env : List AV) (all : List Oper) : Nat → List Oper → Bool
  | _, [] => true
  | i, a :: r => a.after.toList.all (fun e => !Region.binds .any e || decide (e.on < i)) && freeOf2 P env all i (a :: r) a r && draw2 P env all (i + 1) r
def splitCall : List Oper → Option (List Oper × Oper × Operand × List Operand × List Oper)
  | [] => none
  | o :: r => match o.op with
    | .call { callee := .value g, args, .. } => if o.guard.isNone then some ([], o, g, args.toList, r) else none
    | _ => match splitCall r with
      | some (a, c, g, as, b) => some (o :: a, c, g, as, b)
      | none => none
def callArgs {σ : Type} (C : Cfg) (g : Operand) (args : List Operand) (st : St σ) : Option (FuncId × List AV) := match operand st.env g with
  | .func (.func f) first caps => if (C.odd f).isNone && !C.thaw f then some (f, (if C.keep f then first ++ args.map (operand st.env) else (first ++ args.map (operand st.env)).map AV.demote) ++ caps) else none
  | _ => none
def lightCls : Op → Class
  | .load .. => .reads
  | .store .. | .alloc _ | .box .. | .range .. | .next .. => .writes
  | .buildSlice .. | .call { callee := .builtin .append, .. } | .assign (.const (.slice _ _ _)) => .toks
  | .call { callee := .value _, .. } => .looks
  | _ => .pure
def lightOk (env : List AV) (nb : Nat) (rs : List Nat) (all : List Oper) (oc : Oper) : Nat → List Oper → Bool
  | _, [] => true
  | n, o :: r => (edge n oc || ((match lightCls o.op with
      | .pure => true
      | .reads => (match o.op with
        | .load _ (.tmp x) => (match env.getD x .undef with | .ptr i _ => decide (i < nb) && !rs.contains i | _ => false) && noDst x (o :: r)
        | _ => false)
      | _ => false) && apartD all o oc)) && lightOk env nb rs all oc (n + 1) r
def evDrawL {σ : Type} (C : Cfg) (H : Hd) (Y : Yd σ) (ops : List Oper) (st : St σ) : Option (Ex × St σ) := match splitCall ops with
  | some (A, oc, g, args, B) => match evOps C H Y true ops A st with
    | some (.normal, stA) => match callArgs C g args stA with
      | some (f, as) =>
        if lightOk stA.env stA.boxes.length (lentB as stA.boxes) ops oc 0 A && B.all (edge A.length) && drawOk C.P stA.env ops 0 ops then (match lend H σ Y f as stA.boxes stA.toks stA.s with
          | some (.ret v, b, t, s) => match evOps C H Y true ops B { env := putA stA.env oc.dst v, boxes := b, toks := t, s } with
            | some (.normal, stf) => if drawOk C.P stf.env ops 0 ops then some (.normal, stf) else none
            | _ => none
          | some (.panic (.d (.val u)), b, t, s) => some (.panic (.d (.val u)), { env := stA.env.map fun _ => .undef, boxes := b, toks := t, s })
          | _ => none) else none
      | none => none
    | _ => none
  | none => none
def gcA (m mt : Nat) (x : AV) : AV := if x.refs.all (fun i => decide (i < m)) then (if x.tks.all (fun i => decide (i < mt)) then x else match x.toD with | some y => .d y | none => .undef) else .undef
def gcBox (m mt : Nat) : Box → Box
  | .cells ty cs => .cells ty (cs.map (gcA m mt))
  | b => b
def gcSt (m mt : Nat) (st : St σ) : St σ := { env := st.env.map (gcA m mt), boxes := (st.boxes.take m).map (gcBox m mt), toks := st.toks.take mt, s := st.s }
def cleanFrom : List Nat → Nat → List AV → List AV
  | _, _, [] => []
  | [], i, _ :: r => .undef :: cleanFrom [] (i + 1) r
  | k :: ks, i, x :: r => if i = k then x :: cleanFrom ks (i + 1) r else .undef :: cleanFrom (k :: ks) (i + 1) r
def cleanSt (ks : Option (List Nat)) (st : St σ) : St σ := match ks with
  | some ks => { st with env := cleanFrom ks 0 st.env }
  | none => st
def ownSt : List (Nat × Nat × Bool) → St σ → St σ
  | [], st => st
  | (i, off, byt) :: r, st => match st.boxes[i]? with
    | some (.cells ty cs) => match cs[off]? with
      | some .nsl => ownSt r { st with boxes := st.boxes.set i (.cells ty (cs.set off (if byt then .obs st.toks.length .empty else .osl st.toks.length []))), toks := st.toks ++ [0] }
      | _ => ownSt r st
    | _ => ownSt r st
def leaveSt (ks : Option (List Nat)) (m mt : Nat) (st : St σ) : St σ := match ks with
  | some ks => gcSt m mt (cleanSt (some ks) st)
  | none => st
def hookSt (C : Cfg) (f id : Nat) (st : St σ) : St σ := ownSt (C.own f id) (cleanSt (C.live f id) st)
def setParams (env : List AV) : List Tmp → List AV → List AV
  | p :: ps, x :: xs => setParams (env.set p x) ps xs
  | _, _ => env
def loopN (body : St σ → Option (Ex × St σ)) (m mt : Nat) : Nat → St σ → Option (Ex × St σ)
  | 0, _ => none
  | n + 1, st => match body st with
    | some (.normal, st) => loopN body m mt n (gcSt m mt st)
    | some (.exit j, st) => some (.exit j, gcSt m mt st)
    | x => x
end
def isPanic : Ex → Bool
  | .panic _ => true
  | _ => false
def roundY {σ : Type} (evA evB : St σ → Option (Ex × St σ)) (env : List AV) (ps : List Tmp) (m mt : Nat) : Yd (List Box × List Nat × σ × Option Ex) := fun xs q => match q with
  | (bs, tk, s, none) => if xs.length = ps.length then match evA { env := setParams env ps (xs.map .d), boxes := bs, toks := tk, s } with
    | some (.normal, st1) => match evB st1 with
      | some (.normal, st2) => some (true, (gcSt m mt st2).boxes, (gcSt m mt st2).toks, st2.s, none)
      | some (.panic _, _) => none
      | some (e, st2) => some (false, (gcSt m mt st2).boxes, (gcSt m mt st2).toks, st2.s, some e)
      | none => none
    | _ => none
    else none
  | _ => none
mutual
def noYld : AV → Bool
  | .yld => false
  | .func _ a b => noYldL a && noYldL b
  | .ifc _ x => noYld x
  | .agg cs => noYldL cs
  | .tup cs => noYldL cs
  | _ => true
def noYldL : List AV → Bool
  | [] => true
  | x :: r => noYld x && noYldL r
end
def noYldB : Box → Bool
  | .cells _ cs => noYldL cs
  | _ => true
def panicO : Option Ex → Bool
  | some (.panic _) => true
  | _ => false
def evIter {σ : Type} (H : Hd) (evA evB : St σ → Option (Ex × St σ)) (g : Operand) (ps : List Tmp) (st : St σ) : Option (Ex × St σ) := match operand st.env g with
  | .func (.func f) [] caps =>
    let rs := lentB caps st.boxes
    let lent := rs.map fun i => st.boxes.getD i .gone
    if lendOk rs [] caps lent st.boxes st.toks && noYldL caps && lent.all noYldB then
      match H _ (roundY evA evB st.env ps st.boxes.length st.toks.length) f (.yld :: renL (indexOf · rs) id caps) (lent.map (Box.ren (indexOf · rs) id)) [] (putBack st.boxes (rs.map fun i => (i, .gone)), st.toks, st.s, none) with
      | some (.ret _, bs, _, (bs1, tk1, s1, e)) =>
        if ((bs.take rs.length).flatMap Box.refs).any (rs.length ≤ ·) || !((bs.take rs.length).flatMap Box.tks).isEmpty || !(bs.take rs.length).all noYldB || panicO e then none else
        some (e.getD .normal, { env := st.env, boxes := merge bs1 rs (bs.map (Box.ren (backIdx rs 0) id)) false, toks := tk1, s := s1 })
      | _ => none
    else none
  | _ => none
def panSt {σ : Type} (C : Cfg) (f : FuncId) (m mt : Nat) (st : St σ) : St σ := { env := st.env.map fun _ => .undef, boxes := if C.dfr f then (st.boxes.take m).map (gcBox m mt) else (st.boxes.take m).map fun _ => .gone, toks := st.toks.take mt, s := st.s }
def evCode (C : Cfg) (H : Hd) (f : FuncId) (lim : Nat) : (rnd : Bool) → (σ : Type) → (Y : Yd σ) → Code → St σ → Option (Ex × St σ)
  | _, _, _, .skip, st => some (.normal, st)
  | _, _, Y, .region id ops false, st => evOps C H Y false ops.toList ops.toList (hookSt C f id st)
  | _, _, Y, .region id ops true, st => match evOps C H Y true ops.toList ops.toList (hookSt C f id st) with
    | some (.normal, st') => if drawOk C.P st'.env ops.toList 0 ops.toList || draw2 C.P st'.env ops.toList 0 ops.toList then some (.normal, st') else none
    | _ => evDrawL C H Y ops.toList (hookSt C f id st)
  | r, σ, Y, .seq a b, st => match evCode C H f lim r σ Y a st with
    | some (.normal, st) => evCode C H f lim r σ Y b st
    | x => x
  | r, σ, Y, .cond c a b, st => match operand st.env c with
    | .d (.val (.bool true)) => evCode C H f lim r σ Y a st
    | .d (.val (.bool false)) => evCode C H f lim r σ Y b st
    | _ => none
  | r, σ, Y, .block id c, st => match evCode C H f lim r σ Y c st with
    | some (.exit j, st') => if j = id then some (.normal, leaveSt (C.out f id) st.boxes.length st.toks.length st') else some (.exit j, leaveSt (C.out f id) st.boxes.length st.toks.length st')
    | some (.panic v, st') => some (.panic v, panSt C f st.boxes.length st.toks.length st')
    | some (ex, st') => some (ex, leaveSt (C.out f id) st.boxes.length st.toks.length st')
    | none => none
  | r, σ, Y, .loop c, st => loopN (evCode C H f lim r σ Y c) (bif C.raw f (firstReg c) then 1000000000 + st.boxes.length else st.boxes.length) (bif C.raw f (firstReg c) then 1000000000 + st.toks.length else st.toks.length) lim st
  | r, σ, Y, .rangeFunc g ps assign body, st => if r then none else evIter H (evCode C H f lim true σ Y assign) (evCode C H f lim true σ Y body) g ps.toList st
  | _, _, _, .exit id, st => some (.exit id, st)
  | _, _, _, .ret, st => some (.ret, st)
  | _, _, _, _, _ => none
def resultA (P : Program) (env : List AV) (boxes : List Box) : ResultVar → Option AV
  | .tmp t => env[t]?
  | .cell a ty => match env.getD a .undef with
    | .ptr i off => match boxes[i]? with
      | some (.cells _ cs) => partA P ty cs off
      | _ => none
    | _ => none
def resultsA (P : Program) (env : List AV) (boxes : List Box) : List ResultVar → Option (List AV)
  | [] => some []
  | r :: l => match resultA P env boxes r, resultsA P env boxes l with | some v, some vs => some (v :: vs) | _, _ => none
def single : List AV → AV
  | [x] => x
  | l => .tup l
def finAt (C : Cfg) (f : FuncId) (boxes : List Box) (toks : List Nat) : Bool := C.fin f && !(boxes.isEmpty && toks.isEmpty)
def evBody (C : Cfg) (H : Hd) (f : FuncId) (lim : Nat) (fn : Func) (σ : Type) (Y : Yd σ) (args : List AV) (boxes : List Box) (toks : List Nat) (s : σ) : Option (Out × List Box × List Nat × σ) :=
  match fn.body with
  | some c => match evCode C H f lim false σ Y c { env := args ++ List.replicate (fn.ntmps - args.length) (.tup []), boxes, toks, s } with
    | some (.normal, st) | some (.ret, st) => match resultsA C.P st.env st.boxes fn.results.toList with
      | some vs => if finAt C f boxes toks then some (.ret (single (vs.map (gcA boxes.length toks.length))), (st.boxes.take boxes.length).map (gcBox boxes.length toks.length), st.toks.take toks.length, st.s) else some (.ret (single vs), st.boxes, st.toks, st.s)
      | none => none
    | some (.panic v, st) => some (.panic v, (st.boxes.take boxes.length).map (fun _ => .gone), st.toks.take toks.length, st.s)
    | _ => none
  | none => none
def enters (fn : Func) : Bool := fn.body.isSome && !(fn.name == "runtime.NumGoroutine")
def splitDefer : List Oper → Option (List Oper × Oper × Operand × List Oper)
  | [] => none
  | o :: r => match o.op with
    | .defer { callee := .value g, args, .. } => if args.isEmpty && o.guard.isNone && o.dst.isNone then some ([], o, g, r) else none
    | _ => match splitDefer r with
      | some (a, d, g, b) => some (o :: a, d, g, b)
      | none => none
def isDefer (o : Oper) : Bool := match o.op with
  | .defer _ => true
  | _ => false
def hasDefer : Code → Bool
  | .region _ ops _ => ops.toList.any isDefer
  | .seq a b => hasDefer a || hasDefer b
  | _ => false
def evPre (C : Cfg) (H : Hd) (f : FuncId) (σ : Type) (Y : Yd σ) : Code → St σ → Option (St σ)
  | .skip, st => some st
  | .region id ops false, st => match evOps C H Y false ops.toList ops.toList (hookSt C f id st) with
    | some (.normal, st1) => some st1
    | _ => none
  | .seq a b, st => match evPre C H f σ Y a st with
    | some st1 => evPre C H f σ Y b st1
    | none => none
  | _, _ => none
def evCodeD (C : Cfg) (H : Hd) (f : FuncId) (lim : Nat) (σ : Type) (Y : Yd σ) : Code → St σ → Option (Ex × St σ × FuncId × List AV)
  | .region id ops false, st => match splitDefer ops.toList with
    | some (pre, _, g, post) => match evOps C H Y false ops.toList pre (hookSt C f id st) with
      | some (.normal, st1) => match operand st1.env g with
        | .func (.func fd) [] caps => match evOps C H Y false ops.toList post st1 with
          | some (.normal, st2) => some (.normal, st2, fd, caps)
          | _ => none
        | _ => none
      | _ => none
    | none => none
  | .seq a b, st => if hasDefer a then (match evCodeD C H f lim σ Y a st with
      | some (.normal, st1, fd, caps) => match evCode C H f lim false σ Y b st1 with
        | some (ex, st2) => some (ex, st2, fd, caps)
        | none => none
      | _ => none)
    else (match evPre C H f σ Y a st with
      | some st1 => evCodeD C H f lim σ Y b st1
      | none => none)
  | _, _ => none
def evPlains {σ : Type} (C : Cfg) : List Oper → St σ → Option (St σ)
  | [], st => some st
  | o :: r, st => if o.guard.isNone then (match plainOf C o st.env st.boxes st.toks with
    | some (v, b, t) => evPlains C r { env := putA st.env o.dst v, boxes := b, toks := t, s := st.s }
    | none => none) else none
def simpleC : Code → Bool
  | .skip | .ret | .region _ _ _ => true
  | .seq a b | .cond _ a b => simpleC a && simpleC b
  | _ => false
def evCodeR (C : Cfg) (H : Hd) (f : FuncId) (lim : Nat) (σ : Type) (Y : Yd σ) (rv : AV) : Code → St σ → Option (Ex × St σ)
  | .region _ ops false, st => match ops.toList with
    | o :: r => match o.op with
      | .call { callee := .builtin .recover, .. } => if o.guard.isNone then (match evPlains C r { st with env := putA st.env o.dst rv } with
        | some st' => some (.normal, st')
        | none => none) else none
      | _ => none
    | [] => none
  | .seq a b, st => if simpleC b then (match evCodeR C H f lim σ Y rv a st with
    | some (.normal, st1) => evCode C H f lim false σ Y b st1
    | _ => none) else none
  | _, _ => none
def evFinD (C : Cfg) (H : Hd) (f : FuncId) (lim : Nat) (fn : Func) (σ : Type) (Y : Yd σ) (m mt : Nat) (st : St σ) (fd : FuncId) (caps : List AV) (rv : AV) : Option (Out × List Box × List Nat × σ) := match C.P.funcs[fd]? with
  | some fnd => match fnd.body with
    | some cd => if enters fnd && fnd.results.isEmpty then (match evCodeR C H fd lim σ Y rv cd { env := caps ++ List.replicate (fnd.ntmps - caps.length) (.tup []), boxes := st.boxes, toks := st.toks, s := st.s } with
      | some (.normal, st2) | some (.ret, st2) => match resultsA C.P st.env st2.boxes fn.results.toList with
        | some vs => if C.fin f then some (.ret (single (vs.map (gcA m mt))), (st2.boxes.take m).map (gcBox m mt), st2.toks.take mt, st2.s) else some (.ret (single vs), st2.boxes, st2.toks, st2.s)
        | none => none
      | _ => none) else none
    | none => none
  | none => none
def evBodyD (C : Cfg) (H : Hd) (f : FuncId) (lim : Nat) (fn : Func) (σ : Type) (Y : Yd σ) (args : List AV) (boxes : List Box) (toks : List Nat) (s : σ) : Option (Out × List Box × List Nat × σ) :=
  match fn.body with
  | some c => match evCodeD C H f lim σ Y c { env := args ++ List.replicate (fn.ntmps - args.length) (.tup []), boxes, toks, s } with
    | some (.normal, st, fd, caps) | some (.ret, st, fd, caps) => evFinD C H f lim fn σ Y boxes.length toks.length st fd caps (.d (.val .nilIface))
    | some (.panic v, st, fd, caps) => evFinD C H f lim fn σ Y boxes.length toks.length st fd caps v
    | _ => none
  | none => none
def evFn (C : Cfg) : Nat → Hd
  | 0 => fun _ _ _ _ _ _ _ => none
  | k + 1 => fun σ Y f args boxes toks s => match C.ext f with
    | some g => match datas args with
      | some ds => match g ds with | some r => some (.ret r.av, boxes, toks, s) | none => none
      | none => none
    | none => match C.meth f with
    | some g => match g.run args boxes toks (fun o b t => some (o, b, t)) with | some q => some (q.1, q.2.1, q.2.2, s) | none => none
    | none => match C.P.funcs[f]? with
      | some fn => if enters fn then (if C.dfr f then evBodyD C (evFn C k) f C.lim fn σ Y args boxes toks s else evBody C (evFn C k) f C.lim fn σ Y args boxes toks s) else none
      | none => none
def run (C : Cfg) (k : Nat) (f : FuncId) (args : List D) : Option PR := pureCall (evFn C k) f args
end Ev
