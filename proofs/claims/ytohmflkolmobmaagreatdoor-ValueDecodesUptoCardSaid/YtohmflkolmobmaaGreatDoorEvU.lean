/- What functions of the program compute, as plain Lean functions, each with its proof by a proved reader; plain laws about them (EvU). -/
import Derived.Test.YtohmflkolmobmaaGreatDoorEvN
set_option linter.unusedSimpArgs false
set_option linter.unusedVariables false
namespace Ev
open Go Go.RowKit
variable {σ : Type} {P : Program} {glob : Nat → Option (List D)}
def Marked (z : Nat × List Deferred) (ds : List Deferred) (c : Cx) (X : Nat → Prop) (w : World) : Prop := z.1 ≤ w.heap.size ∧
  ∃ Ds : List Nat, Ds.Nodup ∧ ds = Ds.map (fun D => { target := .collected D, args := #[] }) ++ z.2 ∧ ∀ D ∈ Ds, w.heap[D]? = some (.deferred (some [])) ∧ ¬ c.owns D ∧ ¬ X D ∧ z.1 ≤ D
theorem lt_of_heap {w : World} {k : Nat} {o : Obj} (h : w.heap[k]? = some o) : k < w.heap.size := (Array.getElem?_eq_some_iff.1 h).1
theorem Marked.evo {z : Nat × List Deferred} {ds : List Deferred} {c c' : Cx} {X X' : Nat → Prop} {w w' : World} (h : Marked z ds c X w) (hE : EvoX X c w X' c' w') : Marked z ds c' X' w' := by
  obtain ⟨h0, Ds, h1, h2, h3⟩ := h
  refine ⟨Nat.le_trans h0 hE.size, Ds, h1, h2, fun D hD => ?_⟩
  obtain ⟨q1, q2, q3, q4⟩ := h3 D hD
  have hl := lt_of_heap q1
  refine ⟨(hE.keep D hl q2 q3).trans q1, fun ho => ?_, fun hx => ?_, q4⟩
  · rcases hE.new D ho with q | q
    · exact q2 q
    · omega
  · rcases hE.newX D hx with q | q
    · exact q3 q
    · omega
def exitIs : Ex → Exit → Prop
  | .normal, .normal => True
  | .exit i, .exit j => i = j
  | .ret, .ret => True
  | .panic v, .panic ch => ∃ u : Value, v = .d (.val u) ∧ u.oneCell' = true ∧ ch = [{ v := u, recovered := false }]
  | _, _ => False
def Post (L : Held σ) (X : Nat → Prop) (c : Cx) (w : World) (z : Nat × List Deferred) (rnd : Bool) (ex : Ex) (st : St σ) : Exit → Act → World → Prop := fun e a' w' =>
  exitIs ex e ∧ ∃ c' X', Good L c' st.boxes st.s X' w' ∧ EvoX X c w X' c' w' ∧ c'.toks = st.toks ∧ ARels c' st.env a'.tmps.toList ∧ (rnd = false → Marked z a'.defers c' X' w')
theorem Post.from {L : Held σ} {X X1 : Nat → Prop} {c c1 : Cx} {w w1 : World} {z : Nat × List Deferred} {rnd : Bool} {ex : Ex} {st : St σ} {e : Exit} {a : Act} {w' : World} (hE : EvoX X c w X1 c1 w1) (h : Post L X1 c1 w1 z rnd ex st e a w') : Post L X c w z rnd ex st e a w' := by
  obtain ⟨h1, c', X', h2, h3, h4⟩ := h
  exact ⟨h1, c', X', h2, hE.trans h3, h4⟩
theorem evOp_ex {C : Cfg} {H : Hd} {Y : Yd σ} {draw : Bool} {o : Oper} {st st' : St σ} {ex : Ex} (e : evOp C H Y draw o st = some (ex, st')) : ex = .normal ∨ isPanic ex = true := by
  unfold evOp at e
  dsimp only at e
  repeat' split at e
  all_goals first
    | (cases e; done)
    | (cases e; exact .inl rfl)
    | (cases e; exact .inr rfl)
theorem step1_ex {C : Cfg} {H : Hd} {Y : Yd σ} {draw : Bool} {all : List Oper} {o : Oper} {st st' : St σ} {ex : Ex} (e : step1 C H Y draw all o st = some (ex, st')) : ex = .normal ∨ isPanic ex = true := by
  unfold step1 at e
  split at e
  · exact evOp_ex e
  · cases e; exact .inl rfl
  · cases e
theorem evOps_cons {C : Cfg} {H : Hd} {Y : Yd σ} {draw : Bool} {all : List Oper} {o : Oper} {r : List Oper} {st st' : St σ} {ex : Ex} (hp : isPanic ex = false) (e : evOps C H Y draw all (o :: r) st = some (ex, st')) :
    ∃ st1, step1 C H Y draw all o st = some (.normal, st1) ∧ evOps C H Y draw all r (forgetSt draw all o st1) = some (ex, st') := by
  simp only [evOps] at e
  split at e
  · rename_i st1 h1; exact ⟨st1, h1, e⟩
  · rename_i x hx
    rcases step1_ex e with q | q
    · subst q; exact (hx _ e).elim
    · rw [hp] at q; cases q
theorem evOps_ex {C : Cfg} {H : Hd} {Y : Yd σ} {draw : Bool} {all : List Oper} : ∀ {l : List Oper} {st st' : St σ} {ex : Ex}, isPanic ex = false → evOps C H Y draw all l st = some (ex, st') → ex = .normal
  | [], st, st', ex, _, e => by cases e; rfl
  | o :: r, st, st', ex, hp, e => by
    obtain ⟨st1, _, h2⟩ := evOps_cons hp e
    exact evOps_ex hp h2
theorem evOps_ends {C : Cfg} {H : Hd} {Y : Yd σ} {draw : Bool} {all : List Oper} : ∀ {l : List Oper} {st st' : St σ} {ex : Ex}, evOps C H Y draw all l st = some (ex, st') → ex = .normal ∨ ∃ v, ex = .panic v
  | [], st, st', ex, e => by cases e; exact .inl rfl
  | o :: r, st, st', ex, e => by
    simp only [evOps] at e
    split at e
    · exact evOps_ends e
    · rcases step1_ex e with q | q
      · exact .inl q
      · cases ex with
        | panic v => exact .inr ⟨v, rfl⟩
        | _ => cases q
theorem put_defers (a : Act) (d : Option Tmp) (v : Value) : (a.put d v).defers = a.defers := by cases d <;> rfl
variable {L : Held σ} {X0 : Nat → Prop} {c0 : Cx} {w0 : World}
theorem ARels.setUndef {c : Cx} : ∀ {xs : List AV} {us : List Value} (d : Nat), ARels c xs us → ARels c (xs.set d .undef) us
  | [], _, d, h => h
  | x :: xs, _, 0, h => by
    obtain ⟨u, us', e, h1, h2⟩ := h
    exact ⟨u, us', e, by simp only [ARel], h2⟩
  | x :: xs, _, d + 1, h => by
    obtain ⟨u, us', e, h1, h2⟩ := h
    exact ⟨u, us', e, h1, ARels.setUndef d h2⟩
theorem forget_rel {c : Cx} {us : List Value} (ds : List Nat) : ∀ {xs : List AV}, ARels c xs us → ARels c (forgetL ds xs) us := by
  induction ds with
  | nil => intro xs h; exact h
  | cons d ds ih => intro xs h; exact ih (ARels.setUndef d h)
theorem Now.forget {draw : Bool} {all : List Oper} {o : Oper} {st : St σ} {tmps : Array Value} {w : World} (h : Now L X0 c0 w0 st tmps w) : Now L X0 c0 w0 (forgetSt draw all o st) tmps w := by
  unfold forgetSt
  split
  · exact h
  · obtain ⟨c, X, h1, h2, h3, h4⟩ := h
    exact ⟨c, X, h1, h2, h3, forget_rel _ h4⟩
theorem ops_sound {C : Cfg} (hC : C.P = P ∧ C.glob = glob ∧ OddSound P glob C.odd) {H : Hd} (hH : HSound P glob H) {Y : Yd σ} (hY : Env P glob L Y c0) {draw : Bool} {ops : Array Oper} {rd : Option Nat} {Q : Exit → Act → World → Prop} {ds : List Deferred} :
    ∀ {l : List Oper} {st st' : St σ}, evOps C H Y draw ops.toList l st = some (.normal, st') → ∀ {a : Act} {w : World}, a.defers = ds → Now L X0 c0 w0 st a.tmps w →
      (∀ (a' : Act) (w' : World), a'.defers = ds → Now L X0 c0 w0 st' a'.tmps w' → Q .normal a' w') → wpListIn (FW rd) 0 P ops Q l a w
  | [], st, st', e, a, w, hd, hN, hQ => by cases e; exact hQ a w hd hN
  | o :: r, st, st', e, a, w, hd, hN, hQ => by
    obtain ⟨st1, h1, h2⟩ := evOps_cons rfl e
    simp only [wpListIn]
    exact step_sound hC hH (lend_sound hH) hY h1 hN (fun u w' hN' => ops_sound hC hH hY h2 (by rw [put_defers]; exact hd) hN'.forget hQ)
theorem ops_sound_app {C : Cfg} (hC : C.P = P ∧ C.glob = glob ∧ OddSound P glob C.odd) {H : Hd} (hH : HSound P glob H) {Y : Yd σ} (hY : Env P glob L Y c0) {draw : Bool} {ops : Array Oper} {rd : Option Nat} {Q : Exit → Act → World → Prop} {ds : List Deferred} {rest : List Oper} :
    ∀ {l : List Oper} {st st' : St σ}, evOps C H Y draw ops.toList l st = some (.normal, st') → ∀ {a : Act} {w : World}, a.defers = ds → Now L X0 c0 w0 st a.tmps w →
      (∀ (a' : Act) (w' : World), a'.defers = ds → Now L X0 c0 w0 st' a'.tmps w' → wpListIn (FW rd) 0 P ops Q rest a' w') → wpListIn (FW rd) 0 P ops Q (l ++ rest) a w
  | [], st, st', e, a, w, hd, hN, hQ => by cases e; exact hQ a w hd hN
  | o :: r, st, st', e, a, w, hd, hN, hQ => by
    obtain ⟨st1, h1, h2⟩ := evOps_cons rfl e
    simp only [List.cons_append, wpListIn]
    exact step_sound hC hH (lend_sound hH) hY h1 hN (fun u w' hN' => ops_sound_app hC hH hY h2 (by rw [put_defers]; exact hd) hN'.forget hQ)
theorem ops_panic {C : Cfg} (hC : C.P = P ∧ C.glob = glob ∧ OddSound P glob C.odd) {H : Hd} (hH : HSound P glob H) {Y : Yd σ} (hY : Env P glob L Y c0) {draw : Bool} {ops : Array Oper} {rd : Option Nat} {Q : Exit → Act → World → Prop} {ds : List Deferred} {v : AV} :
    ∀ {l : List Oper} {st st' : St σ}, evOps C H Y draw ops.toList l st = some (.panic v, st') → ∀ {a : Act} {w : World}, a.defers = ds → Now L X0 c0 w0 st a.tmps w →
      (∀ (u : Value) (a' : Act) (w' : World), v = .d (.val u) → u.oneCell' = true → a'.defers = ds → Now L X0 c0 w0 st' a'.tmps w' → Q (.panic [{ v := u, recovered := false }]) a' w') → wpListIn (FW rd) 0 P ops Q l a w
  | [], st, st', e, a, w, hd, hN, hQ => by cases e
  | o :: r, st, st', e, a, w, hd, hN, hQ => by
    simp only [evOps] at e
    simp only [wpListIn]
    split at e
    · rename_i st1 h1
      exact step_sound hC hH (lend_sound hH) hY h1 hN (fun u w' hN' => ops_panic hC hH hY e (by rw [put_defers]; exact hd) hN'.forget hQ)
    · exact step_panic hC hH (lend_sound hH) hY e hN (fun u w' hv h1 hN' => hQ u a w' hv h1 hd hN')
theorem Now.start {c : Cx} {X : Nat → Prop} {w : World} {st : St σ} {tmps : Array Value} (hG : Good L c st.boxes st.s X w) (ht : c.toks = st.toks) (hA : ARels c st.env tmps.toList) : Now L X c w st tmps w := ⟨c, X, hG, EvoX.refl _ _ _, ht, hA⟩
theorem post_of_now {c : Cx} {X : Nat → Prop} {w : World} {z : Nat × List Deferred} {rnd : Bool} {st : St σ} {ds : List Deferred} (hM : rnd = false → Marked z ds c X w) {a' : Act} {w' : World} (hd : a'.defers = ds) (hN : Now L X c w st a'.tmps w') : Post L X c w z rnd .normal st .normal a' w' := by
  obtain ⟨c', X', h1, h2, h3, h4⟩ := hN
  exact ⟨trivial, c', X', h1, h2, h3, h4, fun hr => by rw [hd]; exact (hM hr).evo h2⟩
theorem post_of_panic {c : Cx} {X : Nat → Prop} {w : World} {z : Nat × List Deferred} {rnd : Bool} {st : St σ} {ds : List Deferred} (hM : rnd = false → Marked z ds c X w) {v : AV} {u : Value} (hv : v = .d (.val u)) (h1c : u.oneCell' = true) {a' : Act} {w' : World} (hd : a'.defers = ds) (hN : Now L X c w st a'.tmps w') : Post L X c w z rnd (.panic v) st (.panic [{ v := u, recovered := false }]) a' w' := by
  obtain ⟨c', X', h1, h2, h3, h4⟩ := hN
  exact ⟨⟨u, hv, h1c, rfl⟩, c', X', h1, h2, h3, h4, fun hr => by rw [hd]; exact (hM hr).evo h2⟩
def LoopIn (F : Fence) (n : Nat) (P : Program) (c : Code) (Q : Exit → Act → World → Prop) (a : Act) (w : World) : Prop :=
  ∀ (b : Frame) (k : List Item) (cs : List Frame), b.roundOf = F.round → F.fn b.fn → F.room (cs.length + 1 + n) →
    ∃ e a' w', Q e a' w' ∧ ArrivesIn (Machine.fenced P F) P (lone (b.atR a (.code c :: .inLoop c :: k)) cs w) b k cs e a' w'
theorem loopIn_round {F : Fence} {n : Nat} {c : Code} {Q : Exit → Act → World → Prop} {a : Act} {w : World} (h : c.wpIn F n P (Exit.then (LoopIn F n P c Q) Q) a w) : LoopIn F n P c Q a w := by
  intro b k cs hro hb hr
  obtain ⟨e, a₁, w₁, hq, harr⟩ := h b (.inLoop c :: k) cs hro hb hr
  cases e with
  | normal =>
    obtain ⟨e₂, a₂, w₂, hq₂, harr₂⟩ := hq b k cs hro hb hr
    exact ⟨e₂, a₂, w₂, hq₂, .of_steps (StepsIn.trans harr (.one (fenced_calm hb hr rfl) stepR_inLoop)) harr₂⟩
  | exit id => exact ⟨_, a₁, w₁, hq, .pass (x := .inLoop c) rfl (fun _ _ => .inl (by simp)) harr⟩
  | goto l => exact ⟨_, a₁, w₁, hq, .pass (x := .inLoop c) rfl (fun _ _ => .inl (by simp)) harr⟩
  | ret => exact ⟨_, a₁, w₁, hq, .pass (x := .inLoop c) rfl (fun _ _ => .inl (by simp)) harr⟩
  | panic ch => exact ⟨_, a₁, w₁, hq, .pass (x := .inLoop c) rfl (fun _ _ => .inl (by simp)) harr⟩
  | outgrown => exact ⟨_, a₁, w₁, hq, .pass (x := .inLoop c) rfl (fun _ _ => .inl (by simp)) harr⟩
theorem wpIn_of_loopIn {F : Fence} {n : Nat} {c : Code} {Q : Exit → Act → World → Prop} {a : Act} {w : World} (h : LoopIn F n P c Q a w) : (Code.loop c).wpIn F n P Q a w := by
  intro b k cs hro hb hr
  obtain ⟨e, a', w', hq, harr⟩ := h b k cs hro hb hr
  exact ⟨e, a', w', hq, .of_steps (.one (fenced_calm hb hr rfl) stepR_loop) harr⟩
end Ev
