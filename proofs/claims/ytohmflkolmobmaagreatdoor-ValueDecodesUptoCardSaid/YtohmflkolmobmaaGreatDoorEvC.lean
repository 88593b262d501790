/- What functions of the program compute, as plain Lean functions, each with its proof by a proved reader; plain laws about them (EvC). -/
import Derived.Test.YtohmflkolmobmaaGreatDoorEvG
set_option linter.unusedSimpArgs false
set_option linter.unusedVariables false
namespace Ev
open Go Go.RowKit
variable {σ : Type} {P : Program} {glob : Nat → Option (List D)}
def CodeSound (P : Program) (glob : Nat → Option (List D)) (code : Code) (ev : St σ → Option (Ex × St σ)) (L : Held σ) (Y : Yd σ) (rnd : Bool) : Prop := ∀ (st : St σ) (ex : Ex) (st' : St σ), ev st = some (ex, st') →
  ∀ (c : Cx) (X : Nat → Prop) (w : World) (a : Act) (rd : Option Nat) (z : Nat × List Deferred), Good L c st.boxes st.s X w → c.toks = st.toks → ARels c st.env a.tmps.toList → Env P glob L Y c → (rnd = false → c.dead = [] ∧ rd = none ∧ Marked z a.defers c X w) →
    code.wpIn (FW rd) 0 P (Post L X c w z rnd ex st') a w
theorem evo_other {X X1 : Nat → Prop} {c c1 : Cx} {w w1 : World} {l : Nat} {o : Obj} (h : EvoX X c w X1 c1 w1) (hl : w.heap[l]? = some o) (h1 : ¬ c.owns l) (h2 : ¬ X l) : w1.heap[l]? = some o ∧ ¬ c1.owns l ∧ ¬ X1 l := by
  have hlt := lt_of_heap hl
  refine ⟨(h.keep l hlt h1 h2).trans hl, fun q => ?_, fun q => ?_⟩
  · rcases h.new l q with r | r
    · exact h1 r
    · omega
  · rcases h.newX l q with r | r
    · exact h2 r
    · omega
theorem round_sound {L : Held σ} {Y : Yd σ} {evA evB : St σ → Option (Ex × St σ)} {assign body : Code} (hA : CodeSound P glob assign evA L Y true) (hB : CodeSound P glob body evB L Y true) {c : Cx} {X : Nat → Prop} {lb : List Nat} {l D : Nat} {fn : FuncId} {tmps : Array Value} {ps : Array Tmp} {env : List AV}
    (hY : Env P glob L Y c) (hE : ARels c env tmps.toList) (hDl : D ≠ l) {m mt : Nat} (hm : c.β.length = m) (hmt : c.toks.length = mt) (hlb : ∀ k ∈ lb, ∃ i : Nat, c.β[i]? = some k) : YSound P (roundHeld L c X lb D l D (recOf fn tmps ps assign body D)) (roundY evA evB env ps.toList m mt) l := by
  intro ds q b q' e X' ro w us hR hro hargs
  unfold roundY at e
  split at e
  case h_2 => cases e
  rename_i bs tk s
  split at e
  case isFalse => cases e
  rename_i hlen
  split at e
  case h_2 => cases e
  rename_i st1 hev1
  obtain ⟨ck, Xk, rfl, hdead, hG, hle, hown, hXk, htk, rfl, hD, hl, n1, n2, n3, n4⟩ := hR
  simp only at hG htk hl
  have hz : D < w.heap.size := lt_of_heap hD
  have hsz : us.toArray.size = ps.size := by rw [List.size_toArray, ← DArgs.length hargs, hlen]; simp
  refine ⟨_, _, _, _, run_yield hl (by simpa [recOf] using hsz), fun rd => roundIn_of_wpIn trivial ?_⟩
  have hYk : ∀ {c' : Cx}, ck.le c' → Env P glob L Y c' := fun h => hY.le (Cx.le_trans hle h)
  have hT : ARels ck (setParams env ps.toList (ds.map .d)) ((recOf fn tmps ps assign body D none).params.zip us.toArray |>.foldl (fun tmps (t, a) => tmps.setIfInBounds t a) (recOf fn tmps ps assign body D none).tmps).toList := by
    have := setParams_rel (ps := ps.toList) (ARels.mono hle hE) (DArgs.to rfl hargs)
    rw [← Array.foldl_toList]
    simpa [recOf] using this
  have hw1 := hA _ _ _ hev1 ck Xk w { tmps := _, defers := [] } (some l) (0, []) hG htk hT (hYk (Cx.le_refl ck)) (fun h => by cases h)
  refine wpIn_mono hw1 ?_
  rintro e1 a1 w1 ⟨hx1, c1, X1, hG1, hE1, ht1, hA1, _⟩
  cases e1 with
  | normal =>
    obtain ⟨hl1, m3, m4⟩ := evo_other hE1 hl n3 n4
    obtain ⟨hD1, m1, m2⟩ := evo_other hE1 hD n1 n2
    refine ⟨_, run_beginRound hl1 rfl, ?_⟩
    have hl1lt := lt_of_heap hl1
    have hG2 := hG1.putObj (o := .loop { recOf fn tmps ps assign body D none with state := .busy }) hl1 m3 m4
    have hl2 : (w1.putObj l (.loop { recOf fn tmps ps assign body D none with state := .busy })).heap[l]? = some (.loop { recOf fn tmps ps assign body D none with state := .busy }) := World.putObj_heap_same hl1lt
    have hD2 : (w1.putObj l (.loop { recOf fn tmps ps assign body D none with state := .busy })).heap[D]? = some (.deferred (some [])) := (World.putObj_heap_other hDl).trans hD1
    have hS1 : span c1 X1 l D l := .inr (.inr (.inl rfl))
    have hL2 : Left (span ck Xk l D) ck.ro w (span c1 X1 l D) c1.ro (w1.putObj l (.loop { recOf fn tmps ps assign body D none with state := .busy })) := (left_of_evo hE1 hG1).trans (Left.putObj hS1 hG1.ok.ro hl1)
    have fin : ∀ (ex : Ex) (st2 : St σ) (a3 : Act) (w3 : World) (e3 : Exit) (pe : Option Ex) (jump : Option Code), Post L X1 c1 (w1.putObj l (.loop { recOf fn tmps ps assign body D none with state := .busy })) (0, []) true ex st2 e3 a3 w3 →
        ({ recOf fn tmps ps assign body D none with state := if jump.isNone then .ready else .done, pending := jump } : Loop) = recOf fn tmps ps assign body D pe → jump.isNone = b → q' = ((gcSt m mt st2).boxes, (gcSt m mt st2).toks, st2.s, pe) →
        ∃ v w', (Instr.endRound l jump).run P w3 = .ok v w' ∧ ∃ X' ro', Ending.returned v = .returned (.bool b) ∧ (roundHeld L c X lb D l D (recOf fn tmps ps assign body D)).R q' X' ro' w' ∧ Left (span ck Xk l D) ck.ro w X' ro' w' := by
      rintro ex st2 a3 w3 e3 pe jump ⟨_, c3, X3, hG3, hE3, ht3, hA3, _⟩ hrec hj hq
      obtain ⟨hl3, p3, p4⟩ := evo_other hE3 hl2 m3 m4
      obtain ⟨hD3, p1, p2⟩ := evo_other hE3 hD2 m1 m2
      have hr := run_endRound (P := P) jump hl3
      refine ⟨_, _, hr, span (c3.cut m mt) X3 l D, c3.ro, by rw [hj], ?_, ((hL2.trans (left_of_evo hE3 hG3)).trans (Left.putObj (.inr (.inr (.inl rfl))) hG3.ok.ro hl3)).less (fun k hk => hk.imp cut_owns id)⟩
      have h12 : EvoX Xk ck w X1 c1 w1 := hE1
      have hrec' : ({ recOf fn tmps ps assign body D none with state := if jump.isNone = true then .ready else .done, pending := jump } : Loop) = recOf fn tmps ps assign body D pe := hrec
      subst hq
      have hle3 : c.le c3 := Cx.le_trans hle (Cx.le_trans hE1.le hE3.le)
      have hdead3 : c3.dead = lb := hE3.dead.trans (hE1.dead.trans hdead)
      refine ⟨c3.cut m mt, X3, rfl, hdead3, gc_good (hG3.putObj hl3 p3 p4) m mt (fun k hk => ?_), cut_le hle3 (Nat.le_of_eq hm) (Nat.le_of_eq hmt), fun k hk => ?_, fun k hk => ?_, by simp only [Cx.cut, gcSt, ht3], rfl, (World.putObj_heap_other hDl).trans hD3, ?_, fun q => p1 (cut_owns q), p2, fun q => p3 (cut_owns q), p4⟩
      · rw [hdead3] at hk
        obtain ⟨i, hi⟩ := hlb k hk
        exact ⟨i, by rw [← hm]; exact (List.getElem?_eq_some_iff.1 hi).1, hle3.box i k trivial hi⟩
      · have hk := cut_owns hk
        rcases hE3.new k hk with r | r
        · rcases hE1.new k r with r | r
          · exact hown k r
          · exact .inr (by omega)
        · have := hE1.size
          simp at r
          exact .inr (by omega)
      · rcases hE3.newX k hk with r | r
        · rcases hE1.newX k r with r | r
          · exact hXk k r
          · exact .inr (by omega)
        · have := hE1.size
          simp at r
          exact .inr (by omega)
      · rw [World.putObj_heap_same (lt_of_heap hl3)]
        exact congrArg some (congrArg Obj.loop hrec')
    split at e
    · rename_i st2 hev2
      cases e
      refine wpIn_mono (hB _ _ _ hev2 c1 X1 _ a1 (some l) (0, []) hG2 ht1 hA1 (hYk hE1.le) (fun h => by cases h)) ?_
      intro e3 a3 w3 hp
      have hx := hp.1
      cases e3 with
      | normal => exact fin _ _ _ _ _ none none hp rfl rfl rfl
      | _ => exact hx.elim
    · cases e
    · rename_i ex st2 hne hnp hev2
      cases e
      refine wpIn_mono (hB _ _ _ hev2 c1 X1 _ a1 (some l) (0, []) hG2 ht1 hA1 (hYk hE1.le) (fun h => by cases h)) ?_
      intro e3 a3 w3 hp
      have hx := hp.1
      cases ex with
      | normal => exact (hne rfl).elim
      | panic v => exact (hnp v rfl).elim
      | ret => cases e3 with
        | ret => exact fin _ _ _ _ _ (some .ret) (some .ret) hp rfl rfl rfl
        | _ => exact hx.elim
      | exit i => cases e3 with
        | exit j =>
          simp only [exitIs] at hx
          subst hx
          exact fin _ _ _ _ _ (some (.exit i)) (some (.exit i)) hp rfl rfl rfl
        | _ => exact hx.elim
    · cases e
  | exit id => exact hx1.elim
  | goto t => exact hx1.elim
  | ret => exact hx1.elim
  | panic ch => exact hx1.elim
  | outgrown => exact hx1.elim
end Ev
