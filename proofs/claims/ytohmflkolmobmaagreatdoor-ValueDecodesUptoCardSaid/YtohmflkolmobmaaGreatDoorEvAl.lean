/- What functions of the program compute, as plain Lean functions, each with its proof by a proved reader; plain laws about them (EvAl). -/
import Derived.Test.YtohmflkolmobmaaGreatDoorEvS
set_option linter.unusedSimpArgs false
set_option linter.unusedVariables false
namespace Ev
open Go
variable {P : Program} {glob : Nat → Option (List D)}
def eqU : List UInt8 → List UInt8 → Bool
  | [], [] => true
  | a :: x, b :: y => Nat.beq a.toNat b.toNat && eqU x y
  | _, _ => false
theorem eqU_eq : ∀ {x y : List UInt8}, eqU x y = true → x = y
  | [], [], _ => rfl
  | a :: x, b :: y, h => by
    simp only [eqU, Bool.and_eq_true] at h
    rw [eqU_eq h.2, UInt8.toNat_inj.1 (Nat.eq_of_beq_eq_true h.1)]
structure StrR where
  name : List UInt8
  res : PR
def findU (s : List UInt8) : List StrR → Option PR
  | [] => none
  | r :: rs => bif eqU s r.name then some r.res else findU s rs
theorem findU_mem {s : List UInt8} : ∀ {rs : List StrR} {p : PR}, findU s rs = some p → ∃ r ∈ rs, s = r.name ∧ p = r.res
  | q :: rs, p, h => by
    simp only [findU] at h
    cases hq : eqU s q.name with
    | true => rw [hq] at h; cases h; exact ⟨q, by simp, eqU_eq hq, rfl⟩
    | false => rw [hq] at h; obtain ⟨r, h1, h2⟩ := findU_mem h; exact ⟨r, List.mem_cons_of_mem _ h1, h2⟩
def strE2 (rs : List StrR) : PureE := fun ds k => match ds with
  | [.val (.string s)] => (findU s.data.toList rs).bind k
  | _ => none
theorem strE2_fair (rs : List StrR) : Fair (strE2 rs) := by
  intro β ds k r h
  unfold strE2 at h ⊢
  dsimp only at h ⊢
  split at h
  · obtain ⟨p, h1, h2⟩ := bind_some h
    exact ⟨p, by simp only [h1, Option.bind_some], h2⟩
  · cases h
theorem strE2_spec {C : Cfg} (hC : C.P = P ∧ C.glob = glob ∧ OddSound P glob C.odd) (hm : P.follows .mixedOrders = true) (hX : ExtSound P glob C.ext) (hM : MethSound P glob C.meth) {k : Nat} {f : FuncId} {rs : List StrR}
    (hv : ∀ r ∈ rs, pureCall (evFn C k) f [.val (.string ⟨⟨r.name⟩⟩)] = some r.res) : SpecOk P glob f (fun ds => strE2 rs ds some) := by
  intro ds r hr
  unfold strE2 at hr
  dsimp only at hr
  split at hr
  · rename_i s
    obtain ⟨p, h1, h2⟩ := bind_some hr
    cases h2
    obtain ⟨q, hq, hs, rfl⟩ := findU_mem h1
    have hs' : s = ⟨⟨q.name⟩⟩ := by rw [← hs]
    subst hs'
    exact pureCall_sound (fn_sound hC hm hX hM k) (hv q hq)
  · cases hr
def nullE (p : PR) : PureE := fun ds k => match ds with
  | [] => k p
  | _ => none
theorem nullE_fair (p : PR) : Fair (nullE p) := by
  intro β ds k r h
  unfold nullE at h ⊢
  dsimp only at h ⊢
  split at h
  · exact ⟨p, rfl, h⟩
  · cases h
theorem nullE_spec {C : Cfg} (hC : C.P = P ∧ C.glob = glob ∧ OddSound P glob C.odd) (hm : P.follows .mixedOrders = true) (hX : ExtSound P glob C.ext) (hM : MethSound P glob C.meth) {k : Nat} {f : FuncId} {p : PR}
    (hv : pureCall (evFn C k) f [] = some p) : SpecOk P glob f (fun ds => nullE p ds some) := by
  intro ds r hr
  unfold nullE at hr
  dsimp only at hr
  split at hr
  · cases hr
    exact pureCall_sound (fn_sound hC hm hX hM k) hv
  · cases hr
end Ev
