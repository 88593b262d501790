/- What functions of the program compute, as plain Lean functions, each with its proof by a proved reader; plain laws about them (EvS). -/
import Derived.Test.YtohmflkolmobmaaGreatDoorEvT
set_option linter.unusedSimpArgs false
set_option linter.unusedVariables false
namespace Ev
open Go
variable {σ β : Type} {C : Cfg} {T : Told} {P : Program} {glob : Nat → Option (List D)}
def SpecOk (P : Program) (glob : Nat → Option (List D)) (f : FuncId) (g : List D → Option PR) : Prop := ∀ ds r, g ds = some r →
  (∀ us w, (callFunc f us).run P w = .ok (.enter f us) w) ∧
  ∀ (ro : RO) (w : World) (us : List Value), ro.holds w → GlobIn P glob ro → DArgs ro ds us → Calls P f us.toArray w (fun e w' => ∃ u ro', e = .returned u ∧ PRel ro' r u ∧ Left (fun _ => False) ro w (fun _ => False) ro' w')
universe u
def look {α : Type u} : List (Nat × α) → Nat → Option α
  | [], _ => none
  | (g, e) :: r, f => bif Nat.beq f g then some e else look r f
theorem look_mem {α : Type u} : ∀ {l : List (Nat × α)} {f : Nat} {e : α}, look l f = some e → (f, e) ∈ l
  | [], _, _, h => by cases h
  | (g, e) :: r, f, e', h => by
    simp only [look] at h
    cases hb : Nat.beq f g with
    | true =>
      rw [hb] at h
      have := Nat.eq_of_beq_eq_true hb
      simp only [cond_true, Option.some.injEq] at h
      subst this; subst h; simp
    | false => rw [hb] at h; exact List.mem_cons_of_mem _ (look_mem h)
def mkE {α γ : Type} (dec : List D → Option α) (nat : α → Option γ) (enc : γ → PR) : PureE := fun ds k => (dec ds).bind fun a => (nat a).bind fun r => k (enc r)
def Fair (e : PureE) : Prop := ∀ (β : Type) (ds : List D) (k : PR → Option β) (r : β), e ds k = some r → ∃ p, e ds some = some p ∧ k p = some r
theorem mkE_fair {α γ : Type} (dec : List D → Option α) (nat : α → Option γ) (enc : γ → PR) : Fair (mkE dec nat enc) := by
  intro β ds k r h
  simp only [mkE] at h ⊢
  obtain ⟨a, h1, h2⟩ := bind_some h
  obtain ⟨x, h3, h4⟩ := bind_some h2
  exact ⟨enc x, by simp [h1, h3], h4⟩
abbrev Tab := List (FuncId × PureE)
def extOf (tab : Tab) (f : FuncId) : Option (List D → Option PR) := match look tab f with
  | some e => some fun ds => e ds some
  | none => none
structure TabOk (P : Program) (glob : Nat → Option (List D)) (tab : Tab) : Prop where
  fair : ∀ p ∈ tab, Fair p.2
  spec : ∀ p ∈ tab, SpecOk P glob p.1 (fun ds => p.2 ds some)
theorem TabOk.ext {tab : Tab} (h : TabOk P glob tab) : ExtSound P glob (extOf tab) := by
  intro f g hg ds r hr
  unfold extOf at hg
  split at hg
  · rename_i e he
    cases hg
    exact h.spec (f, e) (look_mem he) ds r hr
  · cases hg
theorem TabOk.nil : TabOk P glob [] := ⟨by simp, by simp⟩
theorem TabOk.cons {tab : Tab} (h : TabOk P glob tab) {f : FuncId} {e : PureE} (hf : Fair e) (hs : SpecOk P glob f (fun ds => e ds some)) : TabOk P glob ((f, e) :: tab) :=
  ⟨fun p hp => (List.mem_cons.1 hp).elim (fun e => by subst e; exact hf) (h.fair p), fun p hp => (List.mem_cons.1 hp).elim (fun e => by subst e; exact hs) (h.spec p)⟩
theorem datas_map : ∀ (ds : List D), datas (ds.map .d) = some ds
  | [] => rfl
  | d :: ds => by simp [datas, AV.toD, datas_map ds]
theorem datas_errs {t : TypeId} {x : AV} : ∀ (ds : List D), datas (ds.map .d ++ [.ifc t x]) = none
  | [] => by simp [datas, AV.toD]
  | d :: ds => by simp [datas, AV.toD, datas_errs ds]
theorem errsOf_av {t : TypeId} {x : AV} : ∀ (ds : List D), errsOf (ds.map .d ++ [.ifc t x]) = some (ds, t)
  | [] => by simp [errsOf]
  | d :: ds => by
    have h := errsOf_av (t := t) (x := x) ds
    simp [errsOf, AV.toD, h]
theorem toPR_av : ∀ r : PR, toPR r.av = some r
  | .one d => rfl
  | .many ds => by simp [PR.av, toPR, datas_map]
  | .errs ds t => by simp [PR.av, toPR, datas_errs, errsOf_av]
theorem pureOk_of {tab : Tab} (h : TabOk P glob tab) (hC : C.ext = extOf tab) (hT : ∀ f, T.pure f = look tab f) : ∀ n, 1 ≤ n → PureOk T (evFn C n) := by
  intro n hn f e he β ds k r hr
  rw [hT] at he
  obtain ⟨p, h1, h2⟩ := h.fair (f, @e) (look_mem he) β ds k r hr
  refine ⟨p, ?_, h2⟩
  obtain ⟨m, rfl⟩ : ∃ m, n = m + 1 := ⟨n - 1, by omega⟩
  have hx : C.ext f = some fun ds => e ds some := by rw [hC]; simp only [extOf, he]
  have h1' : e ds some = some p := h1
  unfold pureCall
  simp only [evFn, hx, datas_map, h1', toPR_av]
theorem spec_of_body {tab : Tab} (h : TabOk C.P C.glob tab) (hm : C.P.follows .mixedOrders = true) (hO : OddSound C.P C.glob C.odd) (hM : MethSound C.P C.glob C.meth) (hC : C.ext = extOf tab) (hT : ∀ f, T.pure f = look tab f) {N : Nat} (hN : 1 ≤ N)
    {f : FuncId} {fn : Func} (hf : C.P.funcs[f]? = some fn) (hen : enters fn = true) {α γ : Type} {dec : List D → Option α} {nat : α → Option γ} {enc : γ → PR} {args : α → List D} {res : AV → Option γ}
    {inl : InlP Unit γ} (hI : InlPOk (evFn C N) noY inl) {seg : Nat → Option (SegE Unit)} {code : Code} (hc : fn.body = some code) (hs : SegsOk C (evFn C N) f false noY seg code)
    (hdec : ∀ ds a, dec ds = some a → ds = args a) (hres : ∀ v r, res v = some r → toPR v = some (enc r))
    (hnat : ∀ a, nat a = bodyK C T noY inl seg f fn ((args a).map .d) [] [] () (retK fun v _ _ _ => res v)) :
    SpecOk C.P C.glob f (fun ds => mkE dec nat enc ds some) := by
  intro ds p hp
  simp only [mkE] at hp
  obtain ⟨a, h1, h2⟩ := bind_some hp
  obtain ⟨r, h3, h4⟩ := bind_some h2
  cases h4
  rw [hnat] at h3
  have hpc : pureCall (bodyHd C (evFn C N)) f ds = some (enc r) := by
    obtain ⟨v, b, t, s', q1, q2⟩ := bodyK_ret (H := evFn C N) (pureOk_of h hC hT _ hN) hI (fun c hc' => by rw [hc] at hc'; cases hc'; exact hs) h3
    unfold pureCall
    simp only [bodyHd, hf, hen, if_true]
    rw [hdec ds a h1, q1]
    exact hres v r q2
  exact pureCall_sound (bodyHd_sound (P := C.P) (glob := C.glob) ⟨rfl, rfl, hO⟩ hm (fn_sound (P := C.P) (glob := C.glob) ⟨rfl, rfl, hO⟩ hm (by rw [hC]; exact h.ext) hM N)) hpc
theorem segs_nil (code : Code) : segsOf (σ := σ) (fun _ => none) code = [] := by
  induction code <;> simp_all [segsOf]
theorem segsOk_nil {f : FuncId} {rnd : Bool} {H : Hd} {Y : Yd σ} (code : Code) : SegsOk C H f rnd Y (fun _ => none) code := fun p hp => by rw [segs_nil] at hp; cases hp
noncomputable def inlN (C : Cfg) (T : Told) {σ : Type} (Y : Yd σ) {β : Type} : InlP σ β := inlK C T Y (fun _ _ => none) 8
theorem inlN_ok {tab : Tab} (h : TabOk C.P C.glob tab) (hC : C.ext = extOf tab) (hT : ∀ f, T.pure f = look tab f) {N : Nat} (hM : ∀ n, N ≤ n → MethOk T (evFn C n)) {Y : Yd σ} : InlPOk (β := β) (evFn C (N + 9)) Y (inlN C T Y) :=
  inlK_sound (N := N + 1) (fun n hn => pureOk_of h hC hT n (by omega)) (fun n hn => hM n (by omega)) (fun n _ f fn c _ _ => segsOk_nil c) 8 (N + 9) (by omega)
theorem noMeth {H : Hd} (hT : ∀ f, T.meth f = none) : MethOk T H := fun f e he => by rw [hT] at he; cases he
structure Tabs where
  live : List (Nat × List (Nat × List Nat))
  out : List (Nat × List (Nat × List Nat))
  own : List (Nat × List (Nat × List (Nat × Nat × Bool)))
  join : List (Nat × List (Nat × List Nat))
  fin : List Nat
  keep : List Nat
  glob : Nat → Option (List D)
  odd : FuncId → Option OddE := fun _ => none
  raw : List (Nat × Nat) := []
  meth : FuncId → Option MethP := fun _ => none
  drl : List (Nat × Nat) := []
  dfr : List Nat := []
  rowA : List Nat := []
def look2 {α : Type} (t : List (Nat × List (Nat × α))) (f r : Nat) : Option α := match look t f with | some l => look l r | none => none
def cfgOf (P : Program) (t : Tabs) (tab : Tab) : Cfg := { P, ext := extOf tab, keep := fun f => t.keep.contains f, live := look2 t.live, out := look2 t.out, own := fun f r => (look2 t.own f r).getD [], join := fun f r => (look2 t.join f r).getD [], fin := fun f => t.fin.contains f, glob := t.glob, odd := t.odd, raw := fun f r => t.raw.any fun p => Nat.beq p.1 f && Nat.beq p.2 r, meth := t.meth, drl := fun f r => t.drl.any fun p => Nat.beq p.1 f && Nat.beq p.2 r, dfr := fun f => t.dfr.contains f, rowA := fun x => t.rowA.contains x }
def toldOf (tab : Tab) : Told := ⟨look tab, fun _ => none⟩
def codeAt (id : Nat) : Code → Option Code
  | .seq a b => match codeAt id a with | some c => some c | none => codeAt id b
  | .cond _ a b => match codeAt id a with | some c => some c | none => codeAt id b
  | .block i c => if i = id then some c else codeAt id c
  | .loop c => codeAt id c
  | _ => none
def loopAt (fn : Func) (id : Nat) : Code := match fn.body with
  | some c => match codeAt id c with | some (.loop c) => c | _ => .skip
  | _ => .skip
def bodyOf (fn : Func) : Code := match fn.body with | some c => c | none => .skip
theorem told_loop {P : Program} {t : Tabs} {tab : Tab} (h : TabOk P t.glob tab) {α Ω σ : Type} {Y : Yd σ} {l : LoopS α Ω} (hl : l.Ok) {f : FuncId} {rnd : Bool} {id : Nat} {body : Code} (hh : headLive (cfgOf P t tab) f body = some l.ks) (ho : (cfgOf P t tab).out f id = some l.kso)
    {L : Nat → α → σ → Option (Ω × σ)} (h0 : ∀ a s, L 0 a s = none) {seg : Nat → Option (SegE σ)} (hs : SegsOk (cfgOf P t tab) (evFn (cfgOf P t tab) 9) f rnd Y seg body)
    (hL : ∀ n a s, L (n + 1) a s = evK (cfgOf P t tab) (toldOf tab) Y (inlN (cfgOf P t tab) (toldOf tab) Y) seg f body ((l.toT σ).enc a s) (fun ex st' => l.next (cfgOf P t tab) f id (L n) ex st'))
    (hr : (cfgOf P t tab).raw f (firstReg body) = false := by rfl) : SegOk (cfgOf P t tab) (evFn (cfgOf P t tab) 9) f rnd Y (l.seg σ (L 1000000000000)) (.block id (.loop body)) :=
  LoopS.segOk hl hh ho hr h0 (T := toldOf tab) (pureOk_of (C := cfgOf P t tab) h rfl (fun _ => rfl) 9 (by omega)) (inlN_ok (C := cfgOf P t tab) h rfl (fun _ => rfl) (N := 0) (fun n _ => noMeth (fun _ => rfl))) hs hL
theorem told_fn {P : Program} {t : Tabs} {tab : Tab} (h : TabOk P t.glob tab) (hm : P.follows .mixedOrders = true) (hO : OddSound P t.glob t.odd) (hM : MethSound P t.glob t.meth) {f : FuncId} {fn : Func} (hf : P.funcs[f]? = some fn) (hen : enters fn = true) (hx : look tab f = none) {α γ : Type} {dec : List D → Option α} {nat : α → Option γ} {enc : γ → PR} {args : α → List D} {res : AV → Option γ}
    {seg : Nat → Option (SegE Unit)} (hc : fn.body = some (bodyOf fn)) (hs : SegsOk (cfgOf P t tab) (evFn (cfgOf P t tab) 9) f false noY seg (bodyOf fn))
    (hdec : ∀ ds a, dec ds = some a → ds = args a) (hres : ∀ v r, res v = some r → toPR v = some (enc r))
    (hnat : ∀ a, nat a = bodyK (cfgOf P t tab) (toldOf tab) noY (inlN (cfgOf P t tab) (toldOf tab) noY) seg f fn ((args a).map .d) [] [] () (retK fun v _ _ _ => res v)) :
    TabOk P t.glob ((f, mkE dec nat enc) :: tab) :=
  h.cons (mkE_fair dec nat enc) (spec_of_body (C := cfgOf P t tab) (T := toldOf tab) h hm hO hM rfl (fun _ => rfl) (N := 9) (by omega) hf hen (inlN_ok (C := cfgOf P t tab) h rfl (fun _ => rfl) (N := 0) (fun n _ => noMeth (fun _ => rfl))) hc hs hdec hres hnat)
theorem told_rec {P : Program} {t : Tabs} {tab : Tab} (h : TabOk P t.glob tab) (hm : P.follows .mixedOrders = true) (hO : OddSound P t.glob t.odd) (hM : MethSound P t.glob t.meth) {f : FuncId} {fn : Func} (hf : P.funcs[f]? = some fn) (hen : enters fn = true) {α γ : Type} {dec : List D → Option α} {nat : Nat → α → Option γ} {enc : γ → PR} {args : α → List D} {res : AV → Option γ}
    {seg : Nat → Nat → Option (SegE Unit)} (hc : fn.body = some (bodyOf fn)) (hs : ∀ k, TabOk P t.glob ((f, mkE dec (nat k) enc) :: tab) → SegsOk (cfgOf P t ((f, mkE dec (nat k) enc) :: tab)) (evFn (cfgOf P t ((f, mkE dec (nat k) enc) :: tab)) 9) f false noY (seg k) (bodyOf fn))
    (hdec : ∀ ds a, dec ds = some a → ds = args a) (hres : ∀ v r, res v = some r → toPR v = some (enc r)) (hz : ∀ a, nat 0 a = none)
    (hnat : ∀ k a, nat (k + 1) a = bodyK (cfgOf P t ((f, mkE dec (nat k) enc) :: tab)) (toldOf ((f, mkE dec (nat k) enc) :: tab)) noY (inlN (cfgOf P t ((f, mkE dec (nat k) enc) :: tab)) (toldOf ((f, mkE dec (nat k) enc) :: tab)) noY) (seg k) f fn ((args a).map .d) [] [] () (retK fun v _ _ _ => res v)) :
    ∀ k, TabOk P t.glob ((f, mkE dec (nat k) enc) :: tab)
  | 0 => h.cons (mkE_fair dec (nat 0) enc) (fun ds r e => by
      simp only [mkE] at e
      obtain ⟨a, h1, h2⟩ := bind_some e
      obtain ⟨x, h3, h4⟩ := bind_some h2
      rw [hz] at h3
      cases h3)
  | k + 1 => by
    have hk := told_rec h hm hO hM hf hen hc hs hdec hres hz hnat k
    exact h.cons (mkE_fair dec (nat (k + 1)) enc) (spec_of_body (C := cfgOf P t ((f, mkE dec (nat k) enc) :: tab)) (T := toldOf ((f, mkE dec (nat k) enc) :: tab)) hk hm hO hM rfl (fun _ => rfl) (N := 9) (by omega) hf hen (inlN_ok (C := cfgOf P t ((f, mkE dec (nat k) enc) :: tab)) hk rfl (fun _ => rfl) (N := 0) (fun n _ => noMeth (fun _ => rfl))) hc (hs k hk) hdec hres (hnat k))
theorem segs_no {C : Cfg} {H : Hd} {f : FuncId} {rnd : Bool} {Y : Yd σ} {seg : Nat → Option (SegE σ)} {code : Code} (h : segsOf seg code = []) : SegsOk C H f rnd Y seg code := fun p hp => by rw [h] at hp; cases hp
abbrev w64 := IntKind.wrap .i64
abbrev wu64 := IntKind.wrap .u64
def bAnd (k : IntKind) (x y : Int) : Int := k.wrap ((BitVec.ofInt k.bits x) &&& (BitVec.ofInt k.bits y)).toNat
def bOr (k : IntKind) (x y : Int) : Int := k.wrap ((BitVec.ofInt k.bits x) ||| (BitVec.ofInt k.bits y)).toNat
def bXor (k : IntKind) (x y : Int) : Int := k.wrap ((BitVec.ofInt k.bits x) ^^^ (BitVec.ofInt k.bits y)).toNat
def sEq (a b : ByteArray) : Bool := a.toList == b.toList
def sLt (a b : ByteArray) : Bool := Op.bytesLess a.toList b.toList
end Ev
