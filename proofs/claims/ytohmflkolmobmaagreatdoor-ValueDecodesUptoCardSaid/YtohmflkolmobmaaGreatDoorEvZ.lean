/- What functions of the program compute, as plain Lean functions, each with its proof by a proved reader; plain laws about them (EvZ). -/
import Derived.Test.YtohmflkolmobmaaGreatDoorEvY
set_option linter.unusedSimpArgs false
set_option linter.unusedVariables false
namespace Ev
open Go Go.RowKit
variable {P : Program} {c : Cx}
theorem resB_some {b : List Box} {k : List Nat} {x : Option AV} {r : Res} (h : resB b k x = some r) : ∃ v, x = some v ∧ r = (v, b, k) := by
  cases x with
  | none => simp [resB] at h
  | some v => exact ⟨v, rfl, by simpa [resB] using h.symm⟩
theorem ARels.map_ops {ρ : Operand → AV} {ρ' : Operand → Value} (h : ∀ x, ARel c (ρ x) (ρ' x)) : ∀ xs : List Operand, ARels c (xs.map ρ) (xs.map ρ')
  | [] => rfl
  | x :: xs => ⟨_, _, rfl, h x, ARels.map_ops h xs⟩
theorem plain_sound {boxes : List Box} {w : World} (hbt : ∀ t, byteT P t = true → c.ro.pin.bt t = true) (hW : WOk c boxes w) {env : List AV} {a : Act} (hE : ARels c env a.tmps.toList) {o : Oper} {r : Res} (e : evPlain P o env boxes c.toks = some r) :
    Stepped P c w (execOp a.eval o) r.1 r.2.1 r.2.2 := by
  have hρ := operand_rel hE
  cases ho : o.op <;> simp only [evPlain, ho] at e <;> try (cases e; done)
  case move x => cases e; simp only [execOp, ho]; exact ⟨c, w, _, rfl, hW, Evo.refl _ _, rfl, .inl ⟨_, rfl, hρ x⟩⟩
  case assign x =>
    simp only [execOp, ho]
    have key : ∀ b, nilOwn P o.type x = some b → a.eval x = .slice none 0 0 := fun b hb => by
      unfold nilOwn at hb
      split at hb
      · rename_i A n k
        split at hb
        · rename_i hc
          obtain ⟨h1, rfl, rfl⟩ := hc
          cases A with
          | none => rfl
          | some q => cases h1
        · cases hb
      · cases hb
    split at e
    · rename_i hb
      cases e
      refine ⟨c.addNil, w, _, rfl, hW.addNil, Evo.addNil hW.tlen, rfl, .inl ⟨_, rfl, ?_⟩⟩
      rw [key _ hb]
      simp only [ARel]
      exact .inr ⟨by trivial, by trivial, NilTok.new hW.tlen none⟩
    · rename_i hb
      cases e
      refine ⟨c.addNil, w, _, rfl, hW.addNil, Evo.addNil hW.tlen, rfl, .inl ⟨_, rfl, ?_⟩⟩
      rw [key _ hb]
      simp only [ARel]
      exact .inr ⟨by trivial, NilTok.new hW.tlen none⟩
    · cases e; exact ⟨c, w, _, rfl, hW, Evo.refl _ _, rfl, .inl ⟨_, rfl, hρ x⟩⟩
  case pick x y z => 
    obtain ⟨v, e', hr⟩ := resB_some e; subst hr
    simp only [execOp, ho]
    obtain ⟨u, h1, h2⟩ := pick_run (P := P) (hρ x) (hρ y) (hρ z) e' w
    exact ⟨c, w, _, by simp only [Sem.run_bind, h1, Result.andThen, Sem.run_pure], hW, Evo.refl _ _, rfl, .inl ⟨_, rfl, h2⟩⟩
  case alloc t => simp only [execOp, ho]; exact alloc_step hW e
  case box t x => simp only [execOp, ho]; exact box_step hW (hρ x) e
  case build t ps => 
    obtain ⟨v, e', hr⟩ := resB_some e; subst hr
    simp only [execOp, ho]; exact Stepped.quiet hW (build_run hρ e' w)
  case buildSlice t len ps => simp only [execOp, ho]; exact buildSlice_step hbt hW hρ e
  case load t x => 
    obtain ⟨v, e', hr⟩ := resB_some e; subst hr
    simp only [execOp, ho]; exact Stepped.quiet hW (load_run hW (hρ x) e')
  case store t x y => simp only [execOp, ho]; exact store_step hW (hρ y) (hρ x) e
  case nilCheck x => 
    obtain ⟨v, e', hr⟩ := resB_some e; subst hr
    obtain ⟨u, h1, h2⟩ := nilCheck_run (hρ x) e' a o x ho rfl w
    exact ⟨c, w, _, h1, hW, Evo.refl _ _, rfl, .inl ⟨_, rfl, h2⟩⟩
  case binOp op t x y q => 
    obtain ⟨v, e', hr⟩ := resB_some e; subst hr
    simp only [execOp, ho]; exact Stepped.quiet hW (bin_run (hρ x) (hρ y) e' w)
  case unOp op t x => 
    obtain ⟨v, e', hr⟩ := resB_some e; subst hr
    simp only [execOp, ho]; exact Stepped.quiet hW (un_run (hρ x) e' w)
  case convert s d x => simp only [execOp, ho]; exact convert_step hW (hρ x) e
  case makeInterface t x =>
    obtain ⟨v, e', hr⟩ := resB_some e; subst hr
    simp only [execOp, ho]
    refine Stepped.quiet hW ?_
    unfold evMkI at e'
    have hx := hρ x
    split at e'
    · rename_i k n q hu hv
      cases e'
      rw [hv] at hx
      simp only [ARel, DRel] at hx
      refine ⟨.iface t (.int n q), ?_, by simp only [ARel, DRel]; exact ⟨trivial, rfl⟩⟩
      simp only [Instr.makeInterface, Sem.run_bind, run_underlying hu, Result.andThen, Sem.run_pure, hx.1]
    · cases e'
  case makeFunc fn first caps =>
    cases e; simp only [execOp, ho]
    refine Stepped.quiet hW ⟨_, rfl, ?_⟩
    simp only [ARel]
    exact ⟨first.toList.map a.eval, caps.toList.map a.eval, by congr 1 <;> (apply Array.ext'; simp), ARels.map_ops hρ _, ARels.map_ops hρ _⟩
  case slice t x lo hi mx => 
    obtain ⟨v, e', hr⟩ := resB_some e; subst hr
    simp only [execOp, ho]; exact Stepped.quiet hW (slice_run hρ e' w)
  case fieldAddr s x f => 
    obtain ⟨v, e', hr⟩ := resB_some e; subst hr
    simp only [execOp, ho]; exact Stepped.quiet hW (fieldAddr_run (hρ x) e' w)
  case field s x f => 
    obtain ⟨v, e', hr⟩ := resB_some e; subst hr
    simp only [execOp, ho]; exact Stepped.quiet hW (field_run (hρ x) e' w)
  case indexAddr t x i => 
    obtain ⟨v, e', hr⟩ := resB_some e; subst hr
    simp only [execOp, ho]; exact Stepped.quiet hW (indexAddr_run (hρ x) (hρ i) e' w)
  case index t x i => 
    obtain ⟨v, e', hr⟩ := resB_some e; subst hr
    simp only [execOp, ho]; exact Stepped.quiet hW (index_run (hρ x) (hρ i) e' w)
  case range t x => simp only [execOp, ho]; exact range_step hW (hρ x) e
  case next it b => 
    cases b with
    | false => simp only [] at e; cases e
    | true => simp only [] at e; simp only [execOp, ho]; exact next_step hW (hρ it) e
  case extract x i => 
    obtain ⟨v, e', hr⟩ := resB_some e; subst hr
    simp only [execOp, ho]; exact Stepped.quiet hW (extract_run (hρ x) e' w)
  case call cl =>
    simp only [execOp, ho]
    split at e
    · rename_i t x hc h0 h1
      obtain ⟨v, e', hr⟩ := resB_some e; subst hr
      obtain ⟨q, g1, g2⟩ := len_run (ats := cl.argTypes) (args := cl.args.map a.eval) (ty := o.type) (hρ x) h0 (by simp [h1]) e' w
      refine ⟨c, w, .value q, ?_, hW, Evo.refl _ _, rfl, .inl ⟨_, rfl, g2⟩⟩
      simp only [resolve, hc, Sem.run_bind, Sem.run_pure, Result.andThen, invoke, builtin, g1]
    · rename_i hc
      obtain ⟨v, e', hr⟩ := resB_some e; subst hr
      obtain ⟨q, g1, g2⟩ := maxMin_run (ARels.map_ops hρ _) e' w
      refine ⟨c, w, .value q, ?_, hW, Evo.refl _ _, rfl, .inl ⟨_, rfl, g2⟩⟩
      have g1' : (Builtin.max_ cl.argTypes o.type (cl.args.map a.eval)).run P w = .ok q w := by rw [← g1]; congr 2; apply Array.ext'; simp
      simp only [resolve, hc, Sem.run_bind, Sem.run_pure, Result.andThen, invoke, builtin, g1']
    · rename_i hc
      obtain ⟨v, e', hr⟩ := resB_some e; subst hr
      obtain ⟨q, g1, g2⟩ := maxMin_run (ARels.map_ops hρ _) e' w
      refine ⟨c, w, .value q, ?_, hW, Evo.refl _ _, rfl, .inl ⟨_, rfl, g2⟩⟩
      have g1' : (Builtin.min_ cl.argTypes o.type (cl.args.map a.eval)).run P w = .ok q w := by rw [← g1]; congr 2; apply Array.ext'; simp
      simp only [resolve, hc, Sem.run_bind, Sem.run_pure, Result.andThen, invoke, builtin, g1']
    · rename_i t x y hc h0 h1 h2
      cases hu1 : cl.argTypes[1]? with
      | none => simp [hu1, intArg] at e
      | some u =>
        cases hd : P.underlying u with
        | none => simp [hu1, hd, intArg] at e
        | some d =>
          have hk : ∀ k, d ≠ .int k := by
            rintro k rfl
            simp [hu1, hd, intArg] at e
          have e' : evAppend P t (operand env x) (operand env y) boxes c.toks = some r := by
            simp only [hu1, hd, intArg] at e
            cases d <;> first | exact absurd rfl (hk _) | simpa using e
          have h := append_step (ty := o.type) hbt hW h0 hu1 ⟨d, hd, hk⟩ (hρ x) (hρ y) e'
          have ha : Builtin.append_ cl.argTypes o.type (cl.args.map a.eval) = Builtin.append_ cl.argTypes o.type #[a.eval x, a.eval y] := by
            unfold Builtin.append_
            simp [h1, h2]
          simp only [Stepped, resolve, hc, Sem.run_bind, Sem.run_pure, Result.andThen, invoke, builtin, ha] at h ⊢
          exact h
    · cases e
theorem fog_sound {boxes : List Box} {w : World} (hW : WOk c boxes w) {env : List AV} {a : Act} (hE : ARels c env a.tmps.toList) {o : Oper} {r : Res} (e : evFog P o env boxes c.toks = some r) :
    Stepped P c w (execOp a.eval o) r.1 r.2.1 r.2.2 := by
  have hρ := operand_rel hE
  cases ho : o.op <;> simp only [evFog, ho] at e <;> try (cases e; done)
  case call cl =>
    simp only [execOp, ho]
    split at e
    · rename_i t x y hc h0 h1 h2
      cases hu1 : cl.argTypes[1]? with
      | none => simp [hu1, intArg] at e
      | some u =>
        cases hd : P.underlying u with
        | none => simp [hu1, hd, intArg] at e
        | some d =>
          have hk : ∀ k, d ≠ .int k := by
            rintro k rfl
            simp [hu1, hd, intArg] at e
          have e' : evFogA P t (operand env x) (operand env y) boxes c.toks = some r := by
            simp only [hu1, hd, intArg] at e
            cases d <;> first | exact absurd rfl (hk _) | simpa using e
          have h := fog_step (ty := o.type) hW h0 hu1 ⟨d, hd, hk⟩ (hρ x) (hρ y) e'
          have ha : Builtin.append_ cl.argTypes o.type (cl.args.map a.eval) = Builtin.append_ cl.argTypes o.type #[a.eval x, a.eval y] := by
            unfold Builtin.append_
            simp [h1, h2]
          simp only [Stepped, resolve, hc, Sem.run_bind, Sem.run_pure, Result.andThen, invoke, builtin, ha] at h ⊢
          exact h
    · cases e
theorem rowA_sound {boxes : List Box} {w : World} (hW : WOk c boxes w) {env : List AV} {a : Act} (hE : ARels c env a.tmps.toList) {o : Oper} {r : Res} (e : evRowA P o env boxes c.toks = some r) :
    Stepped P c w (execOp a.eval o) r.1 r.2.1 r.2.2 := by
  have hρ := operand_rel hE
  cases ho : o.op <;> simp only [evRowA, ho] at e <;> try (cases e; done)
  case call cl =>
    simp only [execOp, ho]
    split at e
    · rename_i t x y hc h0 h1 h2
      cases hu1 : cl.argTypes[1]? with
      | none => simp [hu1, intArg] at e
      | some u =>
        cases hd : P.underlying u with
        | none => simp [hu1, hd, intArg] at e
        | some d =>
          have hk : ∀ k, d ≠ .int k := by
            rintro k rfl
            simp [hu1, hd, intArg] at e
          have e' : evRowN P t (operand env x) (operand env y) boxes c.toks = some r := by
            simp only [hu1, hd, intArg] at e
            cases d <;> first | exact absurd rfl (hk _) | simpa using e
          have h := rowN_step (ty := o.type) hW h0 hu1 ⟨d, hd, hk⟩ (hρ x) (hρ y) e'
          have ha : Builtin.append_ cl.argTypes o.type (cl.args.map a.eval) = Builtin.append_ cl.argTypes o.type #[a.eval x, a.eval y] := by
            unfold Builtin.append_
            simp [h1, h2]
          simp only [Stepped, resolve, hc, Sem.run_bind, Sem.run_pure, Result.andThen, invoke, builtin, ha] at h ⊢
          exact h
    · cases e
end Ev
