/- What functions of the program compute, as plain Lean functions, each with its proof by a proved reader; plain laws about them (EvRg). -/
import Derived.Test.YtohmflkolmobmaaGreatDoorEvS
set_option linter.unusedSimpArgs false
set_option linter.unusedVariables false
namespace Ev
open Go
variable {σ β : Type} {C : Cfg} {T : Told} {H : Hd} {Y : Yd σ}
structure RangeS (Pi Xi α Ω : Type) where
  n : Nat
  ks : List Nat
  ps : List Tmp
  ks0 : List Nat
  m : Nat
  mt : Nat
  decE : List AV → Option Pi
  encE : Pi → List AV
  decX : List D → Option Xi
  encX : Xi → List D
  decB : List Box → List Nat → Option α
  encB : α → List Box
  tk : α → List Nat
  decO : Ex → List Box → List Nat → Option Ω
  exO : Ω → Ex
  outB : Ω → List Box
  tkO : Ω → List Nat
  elim : {β : Type} → Ω → (Ex → List Box → List Nat → Option β) → Option β
structure RangeS.Ok {Pi Xi α Ω : Type} (l : RangeS Pi Xi α Ω) : Prop where
  ok1 : okKs l.n l.ks = true
  ok2 : okKs l.n l.ps = true
  ok3 : l.ks.all (fun k => l.ps.contains k || l.ks0.contains k) = true
  decE : ∀ vs p, l.decE vs = some p → vs = l.encE p
  decX : ∀ xs x, l.decX xs = some x → xs = l.encX x
  lenX : ∀ x, (l.encX x).length = l.ps.length
  decB : ∀ bs ts a, l.decB bs ts = some a → bs = l.encB a
  lenB : ∀ a, (l.encB a).length = l.m ∧ (l.tk a).length = l.mt
  decO : ∀ ex bs ts o, l.decO ex bs ts = some o → ex = l.exO o ∧ bs = l.outB o
  exO : ∀ o, l.exO o ≠ .normal ∧ isPanic (l.exO o) = false
  elim : ∀ (β : Type) (o : Ω) (k : Ex → List Box → List Nat → Option β), l.elim o k = k (l.exO o) (l.outB o) (l.tkO o)
section
variable {Pi Xi α Ω : Type} (l : RangeS Pi Xi α Ω)
def RangeS.next : Ex → St σ → Option (Bool × ((α ⊕ Ω) × σ))
  | .normal, st => (l.decB (gcSt l.m l.mt st).boxes (gcSt l.m l.mt st).toks).bind fun a => ask ((gcSt l.m l.mt st).toks = l.tk a) (some (true, (Sum.inl a, st.s)))
  | .exit j, st => (l.decO (.exit j) (gcSt l.m l.mt st).boxes (gcSt l.m l.mt st).toks).bind fun o => ask ((gcSt l.m l.mt st).toks = l.tkO o) (some (false, (Sum.inr o, st.s)))
  | .ret, st => (l.decO .ret (gcSt l.m l.mt st).boxes (gcSt l.m l.mt st).toks).bind fun o => ask ((gcSt l.m l.mt st).toks = l.tkO o) (some (false, (Sum.inr o, st.s)))
  | .panic _, _ => none
def rangeLeft (C : Cfg) (f bid : Nat) (st : St σ) (rs : List Nat) (lent' : List Box) (bs : List Box) (tk : List Nat) (s : σ) : St σ := leaveSt (C.out f bid) st.boxes.length st.toks.length { env := st.env, boxes := merge bs rs (lent'.map (Box.ren (backIdx rs 0) id)) false, toks := tk, s }
def lentClean (rs : List Nat) (lent' : List Box) : Bool := lent'.length == rs.length && (lent'.flatMap Box.refs).all (fun i => decide (i < rs.length)) && (lent'.flatMap Box.tks).isEmpty && lent'.all noYldB
noncomputable def RangeS.seg (C : Cfg) (f bid : Nat) (g : Operand) {ι : Type} (it : FuncId) (itDec : List AV → List Box → Option ι) (encL : ι → List Box) (I : ι → (σ : Type) → Yd σ → σ → Option (ι × σ)) (σ : Type) (W : Pi → Yd ((α ⊕ Ω) × σ)) : SegE σ := fun st k =>
  match operand st.env g with
  | .func (.func f') [] caps =>
    let rs := lentB caps st.boxes
    let lent := rs.map fun i => st.boxes.getD i .gone
    let lent' := lent.map (Box.ren (indexOf · rs) id)
    if f' = it ∧ (lendOk rs [] caps lent st.boxes st.toks && noYldL caps && lent.all noYldB) = true ∧ st.env.length = l.n ∧ st.boxes.length = l.m ∧ st.toks.length = l.mt then
      (itDec (renL (indexOf · rs) id caps) lent').bind fun i =>
      (l.decE (l.ks0.map fun k => st.env.getD k .undef)).bind fun p =>
      (l.decB (putBack st.boxes (rs.map fun i => (i, .gone))) st.toks).bind fun a =>
      ask (st.toks = l.tk a) ((I i ((α ⊕ Ω) × σ) (W p) (.inl a, st.s)).bind fun q => if lentClean rs (encL q.1) then match q.2.1 with
        | .inl a' => k .normal (rangeLeft C f bid st rs (encL q.1) (l.encB a') (l.tk a') q.2.2)
        | .inr o => l.elim o fun ex bs tk => match ex with
          | .exit j => if j = bid then k .normal (rangeLeft C f bid st rs (encL q.1) bs tk q.2.2) else k (.exit j) (rangeLeft C f bid st rs (encL q.1) bs tk q.2.2)
          | .ret => k .ret (rangeLeft C f bid st rs (encL q.1) bs tk q.2.2)
          | _ => none
        else none)
    else none
  | _ => none
end
end Ev
