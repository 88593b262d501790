/- What functions of the program compute, as plain Lean functions, each with its proof by a proved reader; plain laws about them (EvK). -/
import Derived.Test.YtohmflkolmobmaaGreatDoorEvB
import Derived.Test.YtohmflkolmobmaaGreatDoorEvFo
import Derived.Test.YtohmflkolmobmaaGreatDoorEvEq
namespace Ev
open Go
def lidx (es : List D) (i : Int) : Option D := if 0 ≤ i then es[i.toNat]? else none
def sidx (s : ByteArray) (i : Int) : Option UInt8 := if 0 ≤ i then s[i.toNat]? else none
def cellAt (i : Nat) (d : D) : Option D := d.cells[i]?
def asInt (k : IntKind) : D → Option Int
  | .val (.int k' n) => if k' = k then some n else none
  | _ => none
def asBool : D → Option Bool
  | .val (.bool b) => some b
  | _ => none
def asStr : D → Option ByteArray
  | .val (.string s) => some s
  | _ => none
def asRow : D → Option (List D)
  | .slice es => some es
  | _ => none
def asBytes : D → Option ByteArray
  | .bytes b => some b
  | _ => none
def ask (p : Prop) [Decidable p] {β : Type} (x : Option β) : Option β := if p then x else none
def catOk (a b : ByteArray) : Prop := Nat.ble (a.size + b.size) 9223372036854775807 = true
instance (a b : ByteArray) : Decidable (catOk a b) := inferInstanceAs (Decidable (_ = true))
def cutOk (l h : Int) (n : Nat) : Prop := 0 ≤ l ∧ l ≤ h ∧ h ≤ n
instance (l h : Int) (n : Nat) : Decidable (cutOk l h n) := inferInstanceAs (Decidable (_ ∧ _))
def cutRowOk (l h m : Int) (n : Nat) (fit : Bool) : Prop := 0 ≤ l ∧ l ≤ h ∧ h ≤ n ∧ h ≤ m ∧ m ≤ n ∧ fit = true
instance (l h m : Int) (n : Nat) (fit : Bool) : Decidable (cutRowOk l h m n fit) := inferInstanceAs (Decidable (_ ∧ _))
def rowIn (j : Int) (n : Nat) : Prop := 0 ≤ j ∧ j.toNat < n
instance (j : Int) (n : Nat) : Decidable (rowIn j n) := inferInstanceAs (Decidable (_ ∧ _))
def addOk (n : Nat) (a b : List D) (z w : Nat) : Prop := n = a.length ∧ hasSize z b = true ∧ hasSize z a = true ∧ (a.length + b.length) * w ≤ maxBytes
instance (n : Nat) (a b : List D) (z w : Nat) : Decidable (addOk n a b z w) := inferInstanceAs (Decidable (_ ∧ _))
def fogOk (n' n m w : Nat) : Prop := n' = n ∧ (n + m) * w ≤ maxBytes
instance (n' n m w : Nat) : Decidable (fogOk n' n m w) := inferInstanceAs (Decidable (_ ∧ _))
def addBOk (n : Nat) (a b : ByteArray) (w : Nat) : Prop := n = a.size ∧ (a.size + b.size) * w ≤ maxBytes
instance (n : Nat) (a b : ByteArray) (w : Nat) : Decidable (addBOk n a b w) := inferInstanceAs (Decidable (_ ∧ _))
def newBOk (b : ByteArray) (w : Nat) : Prop := b.size ≠ 0 ∧ b.size * w ≤ maxBytes
instance (b : ByteArray) (w : Nat) : Decidable (newBOk b w) := inferInstanceAs (Decidable (_ ∧ _))
def isFog : AV → Bool
  | .rsl .. | .fsl .. => true
  | _ => false
section
variable {β : Type}
def bcons (n : Int) (b : ByteArray) : ByteArray := ⟨#[n.toNat.toUInt8]⟩ ++ b
def byteOk (n : Int) : Prop := 0 ≤ n ∧ n < 256
instance (n : Int) : Decidable (byteOk n) := inferInstanceAs (Decidable (_ ∧ _))
def bytesK : List D → (ByteArray → Option β) → Option β
  | [], k => k .empty
  | .val (.int .u8 n) :: r, k => ask (byteOk n) (bytesK r fun b => k (bcons n b))
  | _, _ => none
def buildSliceK (P : Program) (t : TypeId) (len : Nat) (ρ : Operand → AV) (parts : List (Nat × Operand)) (boxes : List Box) (toks : List Nat) (k : AV → List Box → List Nat → Option β) : Option β := match P.underlying t with
  | some (.slice e) => match listD ρ (P.cellsOf e) 0 parts with
    | some es => if es.length = len ∧ len * P.cellsOf e ≤ 2 ^ 24 ∧ okElem P e = true then
        (if isByte P e then (if P.cellsOf e = 1 then bytesK es fun b => k (.obs toks.length b) boxes (toks ++ [b.size]) else none) else k (.osl toks.length es) boxes (toks ++ [es.length]))
      else none
    | none => none
  | _ => none
def leafTs (P : Program) : Nat → TypeId → List TypeId
  | 0, t => [t]
  | n + 1, t => match P.underlying t with
    | some (.struct fs) => fs.toList.flatMap fun f => leafTs P n f.type
    | some (.array k e) => (List.replicate k (leafTs P n e)).flatten
    | _ => [t]
def leafK (P : Program) (t : TypeId) (d : D) (k : D → Option β) : Option β := match P.underlying t with
  | some (.int q) => (asInt q d).bind fun n => k (.val (.int q n))
  | some .bool => (asBool d).bind fun b => k (.val (.bool b))
  | some .string => (asStr d).bind fun s => k (.val (.string s))
  | some (.slice e) => if isByte P e then (asBytes d).bind fun b => k (.bytes b) else (asRow d).bind fun es => k (.slice es)
  | _ => none
def cellsK (P : Program) (d : D) : Nat → List TypeId → (List D → Option β) → Option β
  | _, [], k => k []
  | i, t :: ts, k => (cellAt i d).bind fun c => leafK P t c fun c => cellsK P d (i + 1) ts fun cs => k (c :: cs)
def loadK (P : Program) (t : TypeId) (d : D) (off : Nat) (k : AV → Option β) : Option β :=
  if (P.underlying t).isSome = true then
    if isAggT P t then
      if (leafTs P 8 t).length = P.cellsOf t ∧ 0 < P.cellsOf t then cellsK P d off (leafTs P 8 t) fun cs => k (.d (.agg cs)) else none
    else (cellAt off d).bind fun c => leafK P t c fun c => k (.d c)
  else none
end
abbrev PureE := {β : Type} → List D → (PR → Option β) → Option β
abbrev MethE := (σ : Type) → {β : Type} → List AV → List Box → List Nat → σ → (AV → List Box → List Nat → σ → Option β) → Option β
abbrev SegE (σ : Type) := {β : Type} → St σ → (Ex → St σ → Option β) → Option β
structure Told where
  pure : FuncId → Option PureE
  meth : FuncId → Option MethE
section
variable {σ β : Type} (C : Cfg) (T : Told) (Y : Yd σ)
def putSt (st : St σ) (dst : Option Tmp) (v : AV) (b : List Box) (t : List Nat) (s : σ) : St σ := { env := putA st.env dst v, boxes := b, toks := t, s }
noncomputable def putV (st : St σ) (dst : Option Tmp) (v : AV) (k : St σ → Option β) : Option β := match dst with
  | some t => fA v fun v => setK v st.env t fun e => k { env := e, boxes := st.boxes, toks := st.toks, s := st.s }
  | none => k st
noncomputable def putW (st : St σ) (dst : Option Tmp) (v : AV) (b : List Box) (t : List Nat) (s : σ) (k : St σ → Option β) : Option β := match dst with
  | some i => fA v fun v => setK v st.env i fun e => k { env := e, boxes := b, toks := t, s := s }
  | none => k { env := st.env, boxes := b, toks := t, s := s }
def deepOp : Op → Bool
  | .alloc _ | .box .. | .store .. | .buildSlice .. | .range .. | .assign _ => true
  | _ => false
noncomputable def putK (st : St σ) (dst : Option Tmp) (v : AV) (b : List Box) (t : List Nat) (s : σ) (k : St σ → Option β) : Option β := match dst with
  | some i => fA v fun v => setK v st.env i fun e => fBs b fun b => fSp t fun t => k { env := e, boxes := b, toks := t, s := s }
  | none => fBs b fun b => fSp t fun t => k { env := st.env, boxes := b, toks := t, s := s }
def sliceK (t : TypeId) (ρ : Operand → AV) (x : Operand) (lo hi mx : Option Operand) (k : AV → Option β) : Option β := match C.P.underlying t with
  | some .string => match ρ x, mx with
    | .d (.val (.string s)), none => match optIdx ρ 0 lo, optIdx ρ s.size hi with
      | some l, some h => ask (cutOk l h s.size) (k (.d (.val (.string (s.extract l.toNat h.toNat)))))
      | _, _ => none
    | _, _ => none
  | some (.slice e) => match slen (ρ x) with
    | some n => match optIdx ρ 0 lo, optIdx ρ n hi, optIdx ρ n mx with
      | some l, some h, some m => ask (cutRowOk l h m n (fitsA (C.P.cellsOf e) (ρ x))) (if (C.P.info? e).isSome = true ∧ (mx.isSome = true → hi.isSome = true) then match cutA (ρ x) l.toNat h.toNat with | some v => k v | none => none else none)
      | _, _, _ => none
    | none => none
  | _ => none
def indexK (t : TypeId) (x i : AV) (k : AV → Option β) : Option β := match C.P.underlying t, asIdx i with
  | some .string, some j => match x with
    | .d (.val (.string s)) => (sidx s j).bind fun c => k (.d (.val (.int .u8 c.toNat)))
    | _ => none
  | some (.array ..), some j => match evIndex C.P t x i with
    | some v => k v
    | none => none
  | _, _ => none
def indexAddrK (t : TypeId) (x i : AV) (k : AV → Option β) : Option β := match C.P.underlying t, asIdx i with
  | some (.slice e), some j => match x with
    | .d (.bytes b) | .obs _ b => if C.P.cellsOf e = 1 ∧ (C.P.info? e).isSome = true then (sidx b j).bind fun c => k (.ept (.val (.int .u8 c.toNat)) 0) else none
    | .d (.slice es) | .osl _ es => if (C.P.info? e).isSome = true then (lidx es j).bind fun d => ask (d.cells.length = C.P.cellsOf e) (k (.ept d 0)) else none
    | .rsl i z n => if (C.P.info? e).isSome = true ∧ C.P.cellsOf e = z then ask (rowIn j n) (k (.rpt i z j.toNat 0)) else none
    | .rsb i z off n => if (C.P.info? e).isSome = true ∧ C.P.cellsOf e = z then ask (rowIn j n) (k (.rpt i z (off + j.toNat) 0)) else none
    | _ => none
  | _, _ => match evIndexAddr C.P t x i with
    | some v => k v
    | none => none
def nextK (x : AV) (boxes : List Box) (toks : List Nat) (k : AV → List Box → List Nat → Option β) : Option β := match x with
  | .iter i => match boxes[i]? with
    | some (.iter s pos) =>
      bif decide (pos < s.size) then
        k (.tup [.d (.val (.bool true)), .d (.val (goInt pos)), .d (.val (.int .i32 (Utf8.decode s pos).1))]) (boxes.set i (.iter s (pos + (Utf8.decode s pos).2))) toks
      else k (.tup [.d (.val (.bool false))]) boxes toks
    | _ => none
  | _ => none
def appendK (t : TypeId) (x y : AV) (boxes : List Box) (toks : List Nat) (k : AV → List Box → List Nat → Option β) : Option β := match C.P.underlying t with
  | some (.slice e) =>
    if isByte C.P e then match moreBytes y with
      | some b => match x with
        | .obs t a => match toks[t]? with
          | some n => if okElem C.P e = true ∧ C.P.cellsOf e = 1 then ask (addBOk n a b (C.P.bytesOf e)) (k (.obs t (a ++ b)) boxes (toks.set t (a.size + b.size))) else none
          | none => none
        | .nsl => if okElem C.P e = true ∧ C.P.cellsOf e = 1 then ask (newBOk b (C.P.bytesOf e)) (k (.obs toks.length b) boxes (toks ++ [b.size])) else none
        | _ => none
      | none => none
    else match elemsOf y with
      | some b => match x with
        | .osl t a => match toks[t]? with
          | some n => if okElem C.P e = true ∧ (C.P.info? e).isSome = true then ask (addOk n a b (C.P.cellsOf e) (C.P.bytesOf e)) (k (.osl t (a ++ b)) boxes (toks.set t (a.length + b.length))) else none
          | none => none
        | .nsl => match b with
          | [] => none
          | c :: r => if okElem C.P e = true then ask (addOk 0 [] (c :: r) (C.P.cellsOf e) (C.P.bytesOf e)) (k (.osl toks.length (c :: r)) boxes (toks ++ [(c :: r).length])) else none
        | _ => none
      | none => none
  | _ => none
def fogK (t : TypeId) (x y : AV) (boxes : List Box) (toks : List Nat) (k : AV → List Box → List Nat → Option β) : Option β := match C.P.underlying t with
  | some (.slice e) =>
    if isByte C.P e then match moreBytes y with
      | some b => if b.size = 0 then none else if okElem C.P e = true ∧ C.P.cellsOf e = 1 then match x with
        | .rsl i z n => match boxes[i]? with
          | some (.row _ _) => if z = 1 then ask (fogOk n n b.size (C.P.bytesOf e)) (k (.fsl i toks.length z (n + b.size)) (boxes.set i (.row z [])) (toks ++ [n + b.size])) else none
          | _ => none
        | .fsl i t z n => match boxes[i]?, toks[t]? with
          | some (.row _ _), some n' => if z = 1 then ask (fogOk n' n b.size (C.P.bytesOf e)) (k (.fsl i t z (n + b.size)) (boxes.set i (.row z [])) (toks.set t (n + b.size))) else none
          | _, _ => none
        | _ => none
        else none
      | none => none
    else match elemsOf y with
      | some b => if b.isEmpty then none else if okElem C.P e = true ∧ hasSize (C.P.cellsOf e) b = true ∧ fitsA (C.P.cellsOf e) x = true then match x with
        | .rsl i z n => match boxes[i]? with
          | some (.row _ _) => ask (fogOk n n b.length (C.P.bytesOf e)) (k (.fsl i toks.length z (n + b.length)) (boxes.set i (.row z [])) (toks ++ [n + b.length]))
          | _ => none
        | .fsl i t z n => match boxes[i]?, toks[t]? with
          | some (.row _ _), some n' => ask (fogOk n' n b.length (C.P.bytesOf e)) (k (.fsl i t z (n + b.length)) (boxes.set i (.row z [])) (toks.set t (n + b.length)))
          | _, _ => none
        | _ => none
        else none
      | none => none
  | _ => none
def eqK (P : Program) (t : TypeId) (xs ys : List D) : Option Bool := match valsOf xs, valsOf ys with
  | some vx, some vy => if P.eqGuardType P.depth t = false then eqV P 10000 t (.agg vx.toArray) (.agg vy.toArray) else none
  | _, _ => none
def binK (P : Program) (op : BinOp) (t : TypeId) (ox oy : Operand) (x y : AV) (k : AV → Option β) : Option β := match op, x, y with
  | .add, .d (.val (.string a)), .d (.val (.string b)) => ask (catOk a b) (k (.d (.val (.string (a ++ b)))))
  | .quo, .d (.val (.int q a)), .d (.val (.int q' b)) => if q = q' then ask (b ≠ 0) (k (.d (.val (.int q (q.wrap (a.tdiv b)))))) else none
  | .rem, .d (.val (.int q a)), .d (.val (.int q' b)) => if q = q' then ask (b ≠ 0) (k (.d (.val (.int q (a.tmod b))))) else none
  | .shl, .d (.val (.int q a)), .d (.val (.int _ b)) => ask (0 ≤ b) (k (.d (.val (.int q (q.wrap (a * 2 ^ (min b.toNat q.bits)))))))
  | .shr, .d (.val (.int q a)), .d (.val (.int _ b)) => ask (0 ≤ b) (k (.d (.val (.int q (a.fdiv (2 ^ (min b.toNat q.bits)))))))
  | .eql, .d (.agg xs), .d (.agg ys) => match eqK P t xs ys with
    | some b => k (.d (.val (.bool b)))
    | none => none
  | .neq, .d (.agg xs), .d (.agg ys) => match eqK P t xs ys with
    | some b => k (.d (.val (.bool !b)))
    | none => none
  | op, x, y => match evBin P op t ox oy x y with
    | some v => k v
    | none => none
def isBools : AV → AV → Bool
  | .d (.val (.bool _)), .d (.val (.bool _)) => true
  | _, _ => false
abbrev InlE (σ β : Type) := FuncId → List AV → List Box → List Nat → σ → (AV → List Box → List Nat → σ → Option β) → Option β
abbrev InlP (σ β : Type) := FuncId → List AV → List Box → List Nat → σ → (Out → List Box → List Nat → σ → Option β) → Option β
def retK (k : AV → List Box → List Nat → σ → Option β) : Out → List Box → List Nat → σ → Option β
  | .ret v, b, t, s => k v b t s
  | .panic _, _, _, _ => none
def lookL (kd : IntKind) (n : Int) : List (Value × Value) → Option β → (Value → Option β) → Option β
  | [], kz, _ => kz
  | (.int q m, v) :: r, kz, k => if kd = q then (bif n == m then k v else lookL kd n r kz k) else none
  | _ :: _, _, _ => none
def lookK (t : TypeId) (m x : AV) (boxes : List Box) (k : AV → Option β) : Option β := match m, x with
  | .mpv i, .d (.val (.int kd n)) => match boxes[i]?, C.P.underlying t with
    | some (.map es), some (.map kt et) => match C.P.underlying kt with
      | some (.int _) => lookL kd n es (match zeroOf C.P et with | some z => k z | none => none) (fun v => k (ofVal v))
      | _ => none
    | _, _ => none
  | _, _ => none
def isRsl : AV → Bool
  | .rsl .. | .rsb .. => true
  | _ => false
def convRK (src dst : TypeId) (x : AV) (boxes : List Box) (k : AV → Option β) : Option β := match C.P.underlying src, C.P.underlying dst, x with
  | some (.slice e), some .string, .rsl i z n => if isByte C.P e = true ∧ z = 1 then (match boxes[i]? with
    | some (.row z' es) => if z' = 1 then (rowBytes n es).bind fun b => k (.d (.val (.string b))) else none
    | _ => none) else none
  | some (.slice e), some .string, .rsb i z off n => if isByte C.P e = true ∧ z = 1 then (match boxes[i]? with
    | some (.row z' es) => if z' = 1 then (partBytes off n es).bind fun b => k (.d (.val (.string b))) else none
    | _ => none) else none
  | _, _, _ => none
def sliceRK (t : TypeId) (ρ : Operand → AV) (x : Operand) (lo hi : Option Operand) (k : AV → Option β) : Option β := match C.P.underlying t, slen (ρ x) with
  | some (.slice e), some n => match optIdx ρ 0 lo, optIdx ρ n hi with
    | some l, some h => if (C.P.info? e).isSome = true then (match ρ x with
      | .rsl i z _ => if z = C.P.cellsOf e then ask (cutOk l h n) (bif Nat.blt l.toNat h.toNat then k (.rsb i z l.toNat (h.toNat - l.toNat)) else k (.d (if isByte C.P e then .bytes .empty else .slice []))) else none
      | .rsb i z off _ => if z = C.P.cellsOf e then ask (cutOk l h n) (bif Nat.blt l.toNat h.toNat then k (.rsb i z (off + l.toNat) (h.toNat - l.toNat)) else k (.d (if isByte C.P e then .bytes .empty else .slice []))) else none
      | _ => none) else none
    | _, _ => none
  | _, _ => none
def rowAK (t : TypeId) (x y : AV) (boxes : List Box) (k : AV → List Box → Option β) : Option β := match C.P.underlying t, x, moreBytes y with
  | some (.slice e), .nsl, some b => if isByte C.P e = true ∧ okElem C.P e = true ∧ C.P.cellsOf e = 1 then (bif Nat.beq b.size 0 then k (.d (.bytes .empty)) boxes else ask (newBOk b (C.P.bytesOf e)) (k (.rsb boxes.length 1 0 b.size) (boxes ++ [.row 1 (bytesD b)]))) else none
  | _, _, _ => none
def lendK (inl : InlE σ β) (f : FuncId) (args : List AV) (boxes : List Box) (toks : List Nat) (s : σ) (k : AV → List Box → List Nat → σ → Option β) : Option β :=
  let rs := lentB args boxes
  let lent := rs.map fun i => boxes.getD i .gone
  let ts := lentT args lent
  if lendOk rs ts args lent boxes toks then
    inl f (renL (indexOf · rs) (indexOf · ts) args) (lent.map (Box.ren (indexOf · rs) (indexOf · ts))) (ts.map fun t => toks.getD t 0) s fun v bs tk s' =>
      let bb := backIdx rs boxes.length
      let bt := backIdx ts toks.length
      let keepB := (v.refs ++ (bs.take rs.length).flatMap Box.refs).any (rs.length ≤ ·)
      let keepT := (v.tks ++ (if keepB then bs else bs.take rs.length).flatMap Box.tks).any (ts.length ≤ ·)
      k (v.ren bb bt) (merge boxes rs (bs.map (Box.ren bb bt)) keepB) (merge toks ts tk keepT) s'
  else none
def lendP (inl : InlP σ β) (f : FuncId) (args : List AV) (boxes : List Box) (toks : List Nat) (s : σ) (k : Out → List Box → List Nat → σ → Option β) : Option β :=
  let rs := lentB args boxes
  let lent := rs.map fun i => boxes.getD i .gone
  let ts := lentT args lent
  if lendOk rs ts args lent boxes toks then
    inl f (renL (indexOf · rs) (indexOf · ts) args) (lent.map (Box.ren (indexOf · rs) (indexOf · ts))) (ts.map fun t => toks.getD t 0) s fun o bs tk s' =>
      let bb := backIdx rs boxes.length
      let bt := backIdx ts toks.length
      let keepB := (o.val.refs ++ (bs.take rs.length).flatMap Box.refs).any (rs.length ≤ ·)
      let keepT := (o.val.tks ++ (if keepB then bs else bs.take rs.length).flatMap Box.tks).any (ts.length ≤ ·)
      k (o.ren bb bt) (merge boxes rs (bs.map (Box.ren bb bt)) keepB) (merge toks ts tk keepT) s'
  else none
noncomputable def evKOp (inl : InlP σ β) (draw : Bool) (o : Oper) (st : St σ) (k : St σ → Option β) (kp : Value → St σ → Option β) : Option β :=
  let plain (_ : Unit) : Option β := match globLoad C o st.env with
    | some v => putV st o.dst v k
    | none => match plainOf C o st.env st.boxes st.toks with
      | some (v, b, t) => if deepOp o.op then putK st o.dst v b t st.s k else putW st o.dst v b t st.s k
      | none => none
  match o.op with
  | .call { callee := .value g, args, argTypes := ats } =>
    let as := args.toList.map (operand st.env)
    match operand st.env g with
    | .func (.func f) first caps =>
      let as := first ++ as
      match C.odd f with
      | some g => if draw && !g.quiet && !(g.tok && bytesFirst C.P ats) then none else g.run (as ++ caps) st.boxes st.toks fun v b t => putK st o.dst v b t st.s k
      | none =>
      if C.thaw f then none else
      match T.pure f with
      | some e => if C.keep f then none else match datas (as ++ caps) with
        | some ds => e ds fun r => putV st o.dst r.av k
        | none => none
      | none => if draw then none else if C.keep f || (datas (as ++ caps)).isNone then
          let as' := (if C.keep f then as else as.map AV.demote) ++ caps
          lendP inl f as' st.boxes st.toks st.s fun q b t s => match q with
            | .ret v => putK st o.dst v b t s k
            | .panic (.d (.val u)) => fBs b fun b => fSp t fun t => kp u { st with boxes := b, toks := t, s := s }
            | .panic _ => none
        else none
    | .yld => if draw then none else match datas as with
      | some ds => (Y ds st.s).bind fun p => k (putSt st o.dst (.d (.val (.bool p.1))) st.boxes st.toks p.2)
      | none => none
    | _ => none
  | .panic x => if draw then none else match operand st.env x with
    | .d (.val (.iface t v)) => kp (.iface t v) st
    | _ => none
  | .load t a => match operand st.env a with
    | .ept d off => loadK C.P t d off fun v => putV st o.dst v k
    | .rpt i z j off => match st.boxes[i]? with
      | some (.row z' es) => if z' = z then (es[j]?).bind fun d => ask (d.cells.length = z) (loadK C.P t d off fun v => putV st o.dst v k) else none
      | _ => none
    | _ => plain ()
  | .store t a x => match operand st.env a with
    | .rpt i z j off => match st.boxes[i]?, (operand st.env x).toD with
      | some (.row z' es), some y => if z' = z ∧ 0 < z ∧ y.cells.length = C.P.cellsOf t ∧ off + y.cells.length ≤ z ∧ (C.P.info? t).isSome = true then (es[j]?).bind fun d => ask (d.cells.length = z) (putK st o.dst .undef (st.boxes.set i (.row z (es.set j (d.put off y.cells)))) st.toks st.s k) else none
      | _, _ => none
    | _ => plain ()
  | .binOp op t x y _ => binK C.P op t x y (operand st.env x) (operand st.env y) fun v => putV st o.dst v k
  | .index t x i => indexK C t (operand st.env x) (operand st.env i) fun v => putV st o.dst v k
  | .indexAddr t x i => indexAddrK C t (operand st.env x) (operand st.env i) fun v => putV st o.dst v k
  | .slice t x lo hi mx => if isRsl (operand st.env x) then (if draw || mx.isSome then none else sliceRK C t (operand st.env) x lo hi fun v => putV st o.dst v k) else sliceK C t (operand st.env) x lo hi mx fun v => putV st o.dst v k
  | .buildSlice t len parts => if C.deep t then none else buildSliceK C.P t len (operand st.env) parts.toList st.boxes st.toks fun v b t => putK st o.dst v b t st.s k
  | .next it true => nextK (operand st.env it) st.boxes st.toks fun v b t => putK st o.dst v b t st.s k
  | .pick c a b => match operand st.env c with
    | .d (.val (.bool x)) => if isBools (operand st.env a) (operand st.env b) then plain () else bif x then putV st o.dst (operand st.env a) k else putV st o.dst (operand st.env b) k
    | _ => none
  | .call { callee := .builtin .append, args, argTypes } => match argTypes[0]?, args[0]?, args[1]? with
    | some t, some x, some y => if intArg C.P argTypes[1]? then none else if C.rowA t then (if draw then none else rowAK C t (operand st.env x) (operand st.env y) st.boxes fun v b => putK st o.dst v b st.toks st.s k) else if isFog (operand st.env x) then (if draw then none else fogK C t (operand st.env x) (operand st.env y) st.boxes st.toks fun v b t => putK st o.dst v b t st.s k) else appendK C t (operand st.env x) (operand st.env y) st.boxes st.toks fun v b t => putK st o.dst v b t st.s k
    | _, _, _ => none
  | .convert src dst x => if isRsl (operand st.env x) then (if draw then none else convRK C src dst (operand st.env x) st.boxes fun v => putK st o.dst v st.boxes st.toks st.s k) else plain ()
  | .makeInterface t x => match evMkI C.P t (operand st.env x) with
    | some v => putV st o.dst v k
    | none => if draw then none else match evRest C.P o st.env st.boxes st.toks with
      | some (v, b, t) => putK st o.dst v b t st.s k
      | none => none
  | .typeAssert _ _ _ _ => if draw then none else match evRest C.P o st.env st.boxes st.toks with
    | some (v, b, t) => putK st o.dst v b t st.s k
    | none => none
  | .makeMap _ none => if draw then none else match evRest C.P o st.env st.boxes st.toks with
    | some (v, b, t) => putK st o.dst v b t st.s k
    | none => none
  | .insert _ _ _ _ => if draw then none else match evRest C.P o st.env st.boxes st.toks with
    | some (v, b, t) => putK st o.dst v b t st.s k
    | none => none
  | .lookup t m x false => if draw then none else lookK C t (operand st.env m) (operand st.env x) st.boxes fun v => putK st o.dst v st.boxes st.toks st.s k
  | _ => plain ()
noncomputable def stepK (inl : InlP σ β) (draw : Bool) (all : List Oper) (o : Oper) (st : St σ) (k : St σ → Option β) (kp : Value → St σ → Option β) : Option β := match o.guard with
  | none => evKOp C T Y inl draw o st k kp
  | some (j, want) => match all[j]? with
    | some q => match q.dst with
      | some t => match st.env.getD t .undef with
        | .d (.val (.bool b)) => bif b then (if want then evKOp C T Y inl draw o { st with env := st.env.set t (.d (.val (.bool true))) } k kp else k { st with env := putA (st.env.set t (.d (.val (.bool true)))) o.dst (.tup []) })
          else (if want then k { st with env := putA (st.env.set t (.d (.val (.bool false)))) o.dst (.tup []) } else evKOp C T Y inl draw o { st with env := st.env.set t (.d (.val (.bool false))) } k kp)
        | .tup [] => k { st with env := putA st.env o.dst (.tup []) }
        | _ => none
      | none => none
    | none => none
def quietOp (o : Oper) : Bool := (match o.op with | .call { callee := .builtin .append, .. } | .call { callee := .value _, .. } | .call { callee := .invoke .., .. } | .panic _ | .store .. | .alloc _ | .box .. | .range .. | .next .. | .buildSlice .. | .assign _ => false | _ => true) && o.dst.isSome
def quietEnv (st : St σ) : List Oper → List AV → Option (List AV)
  | [], env => some env
  | o :: r, env => match globLoad C o env with
    | some v => quietEnv st r (putA env o.dst v)
    | none => match evPlain C.P o env st.boxes st.toks with
      | some (v, _, _) => quietEnv st r (putA env o.dst v)
      | none => none
def groupOf (c : Tmp) (g : Option (Nat × Bool)) : List Oper → Option (List Oper × Oper × List Oper)
  | [] => none
  | o :: r => match o.op with
    | .pick (.tmp c') _ _ => if c' = c then (if o.guard.isNone && o.dst.isSome then some ([], o, r) else none) else none
    | _ => if o.guard == g && quietOp o then (match groupOf c g r with | some (a, p, b) => some (o :: a, p, b) | none => none) else none
noncomputable def joinK (all : List Oper) (j : Nat) (want : Bool) (c : Tmp) (l : List Oper) (st : St σ) (k : List Oper → St σ → Option β) : Option β := match groupOf c (some (j, want)) l with
  | some (G, p, rest) => match p.op, st.env.getD c .undef, quietEnv C st G st.env with
    | .pick _ x y, .d (.val (.bool b)), some env1 => match operand env1 (if want then x else y), operand (forgetL (forgets all p) st.env) (if want then y else x) with
      | .d (.val (.bool e1)), .d (.val (.bool e0)) =>
        if G.all (fun o => match o.dst with | some d => (forgets all p).contains d && d != c | none => false) && p.dst != some c && !(forgets all p).contains c then
          fSp (forgetL (forgets all p) (putA st.env p.dst (.d (.val (.bool (bif want then (bif b then e1 else e0) else (bif b then e0 else e1))))))) fun env => k rest { st with env := env }
        else none
      | _, _ => none
    | _, _, _ => none
  | none => none
def joinAt (jn : List Nat) (i : Nat) (all : List Oper) (o : Oper) : Option (Nat × Bool × Tmp) := if jn.contains i then (match o.guard with
  | some (j, want) => match all[j]? with
    | some q => match q.dst with
      | some c => some (j, want, c)
      | none => none
    | none => none
  | none => none) else none
noncomputable def opsK (inl : InlP σ β) (draw : Bool) (jn : List Nat) (all : List Oper) : Nat → List Oper → St σ → (St σ → Option β) → (Value → St σ → Option β) → Option β
  | 0, _, _, _, _ => none
  | _ + 1, [], st, k, _ => k st
  | n + 1, o :: r, st, k, kp => match (if draw then none else joinAt jn (all.length - (r.length + 1)) all o) with
    | some (j, want, c) => joinK C all j want c (o :: r) st fun rest st => opsK inl draw jn all n rest st k kp
    | none => stepK C T Y inl draw all o st (fun st => match forgets all o with
      | [] => opsK inl draw jn all n r st k kp
      | d :: ds => fSp (forgetL (if draw then [] else d :: ds) st.env) fun env => opsK inl draw jn all n r { st with env := env } k kp) kp
def lendable (g : Operand) (args : List Operand) (st : St σ) : Bool := match operand st.env g with
  | .func (.func f) first caps => C.keep f || (datas (first ++ args.map (operand st.env) ++ caps)).isNone
  | _ => false
noncomputable def drawLK (inl : InlP σ β) (ops : List Oper) (st : St σ) (k : Ex → St σ → Option β) : Option β := match splitCall ops with
  | some (A, oc, g, args, B) => opsK C T Y inl true [] ops (A.length + 1) A st (fun stA => match callArgs C g args stA with
    | some (f, as) => if lendable C g args stA && (lightOk stA.env stA.boxes.length (lentB as stA.boxes) ops oc 0 A && B.all (edge A.length) && drawOk C.P stA.env ops 0 ops) then
        lendP inl f as stA.boxes stA.toks stA.s fun q b t s => match q with
          | .ret v => putK stA oc.dst v b t s fun st1 => opsK C T Y inl true [] ops (B.length + 1) B st1 (fun stf => if drawOk C.P stf.env ops 0 ops then k .normal stf else none) (fun _ _ => none)
          | .panic (.d (.val u)) => fBs b fun b => fSp t fun t => k (.panic (.d (.val u))) { env := stA.env.map fun _ => .undef, boxes := b, toks := t, s := s }
          | .panic _ => none
        else none
    | none => none) (fun _ _ => none)
  | none => none
def litSt (st : St σ) (c : Operand) (b : Bool) : St σ := match c with
  | .tmp t => { st with env := st.env.set t (.d (.val (.bool b))) }
  | _ => st
noncomputable def unrollK (body : St σ → (Ex → St σ → Option β) → Option β) (m mt : Nat) : Nat → St σ → (Ex → St σ → Option β) → Option β
  | 0, _, _ => none
  | n + 1, st, k => body st fun ex st' => match ex with
    | .normal => fSt (gcSt m mt st') fun st' => unrollK body m mt n st' k
    | .exit j => k (.exit j) (gcSt m mt st')
    | .ret => k .ret st'
    | .panic v => k (.panic v) st'
noncomputable def evK (inl : InlP σ β) (seg : Nat → Option (SegE σ)) (f : FuncId) : Code → St σ → (Ex → St σ → Option β) → Option β
  | .skip, st, k => k .normal st
  | .region id ops draw, st, k => if draw && C.drl f id then fSt (hookSt C f id st) fun st => drawLK C T Y inl ops.toList st k else
      fSt (hookSt C f id st) fun st => opsK C T Y inl draw (C.join f id) ops.toList (ops.toList.length + 1) ops.toList st (fun st' => if draw then (if drawOk C.P st'.env ops.toList 0 ops.toList || draw2 C.P st'.env ops.toList 0 ops.toList then k .normal st' else none) else k .normal st') (fun u st' => if draw then none else k (.panic (.d (.val u))) st')
  | .seq a b, st, k => evK inl seg f a st fun ex st' => match ex with
    | .normal => evK inl seg f b st' k
    | .exit j => k (.exit j) st'
    | .ret => k .ret st'
    | .panic v => k (.panic v) st'
  | .cond c a b, st, k => match operand st.env c with
    | .d (.val (.bool x)) => bif x then evK inl seg f a (litSt st c true) k else evK inl seg f b (litSt st c false) k
    | _ => none
  | .block id c, st, k => match seg id with
    | some e => e st k
    | none => evK inl seg f c st fun ex st' => match ex with
      | .exit j => if j = id then k .normal (leaveSt (C.out f id) st.boxes.length st.toks.length st') else k (.exit j) (leaveSt (C.out f id) st.boxes.length st.toks.length st')
      | .normal => k .normal (leaveSt (C.out f id) st.boxes.length st.toks.length st')
      | .ret => k .ret (leaveSt (C.out f id) st.boxes.length st.toks.length st')
      | .panic v => k (.panic v) (panSt C f st.boxes.length st.toks.length st')
  | .loop c, st, k => unrollK (fun st k => evK inl seg f c st k) (bif C.raw f (firstReg c) then 1000000000 + st.boxes.length else st.boxes.length) (bif C.raw f (firstReg c) then 1000000000 + st.toks.length else st.toks.length) C.lim st k
  | .exit id, st, k => k (.exit id) st
  | .ret, st, k => k .ret st
  | _, _, _ => none
noncomputable def bodyK (inl : InlP σ β) (seg : Nat → Option (SegE σ)) (f : FuncId) (fn : Func) (args : List AV) (boxes : List Box) (toks : List Nat) (s : σ) (k : Out → List Box → List Nat → σ → Option β) : Option β := match fn.body with
  | some c => evK C T Y inl seg f c { env := args ++ List.replicate (fn.ntmps - args.length) (.tup []), boxes, toks, s } fun ex st => match ex with
    | .normal | .ret => match resultsA C.P st.env st.boxes fn.results.toList with
      | some vs => if finAt C f boxes toks then k (.ret (single (vs.map (gcA boxes.length toks.length)))) ((st.boxes.take boxes.length).map (gcBox boxes.length toks.length)) (st.toks.take toks.length) st.s else k (.ret (single vs)) st.boxes st.toks st.s
      | none => none
    | .panic v => k (.panic v) ((st.boxes.take boxes.length).map fun _ => .gone) (st.toks.take toks.length) st.s
    | _ => none
  | none => none
noncomputable def inlK (segs : FuncId → Nat → Option (SegE σ)) : Nat → InlP σ β
  | 0 => fun _ _ _ _ _ _ => none
  | d + 1 => fun f args boxes toks s k => if (C.ext f).isSome then none else match C.meth f with
    | some e => e.run args boxes toks fun o b t => k o b t s
    | none => match C.P.funcs[f]? with
      | some fn => if enters fn && !C.dfr f then bodyK C T Y (inlK segs d) (segs f) f fn args boxes toks s k else none
      | none => none
end
end Ev
