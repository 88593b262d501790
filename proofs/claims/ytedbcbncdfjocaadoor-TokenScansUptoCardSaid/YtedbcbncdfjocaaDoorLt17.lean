/- What functions of the program compute, as plain Lean functions, each with its proof by the reader (Lt17); printed by a tool of this work. -/
import Derived.Test.YtedbcbncdfjocaaDoorLt17a
set_option maxRecDepth 100000
set_option linter.unusedVariables false
namespace Ev
open Go Go.Proofs
noncomputable section
variable {gl : Nat → Option (List D)}
/-! sextant/text.Unquote -/
abbrev A46_0 := ByteArray × ByteArray × ByteArray × Int
inductive O46_0 where
  | x0 (o11 : ByteArray) (o12 : Int) (q13 : Nat)
  | x1 (o17 : ByteArray) (o18 : ByteArray)
def l46_0 : LoopS A46_0 O46_0 where
  n := 91
  ks := [0, 4, 5, 6]
  kso := [0, 2, 3, 5]
  m := 0
  mt := 1
  decV := fun vs bs ts => match vs, bs, ts with
    | [.d (.val (.string v5)), .d (.val (.string v6)), .obs 0 v7, .d (.val (.int .i64 v8))], [], [_] => some (v5, v6, v7, v8)
    | _, _, _ => none
  encV := fun (v5, v6, v7, v8) => [.d (.val (.string v5)), .d (.val (.string v6)), .obs 0 v7, .d (.val (.int .i64 v8))]
  encB := fun (v5, v6, v7, v8) => []
  tk := fun (v5, v6, v7, v8) => [v7.size]
  decO := fun ex vs bs ts => match ex, vs, bs, ts with
    | .ret, [.undef, .d (.val (.string o11)), .d (.val (.int .i64 o12)), .undef], [], [q13] => some (.x0 o11 o12 q13)
    | .normal, [.d (.val (.string o17)), .undef, .undef, .obs 0 o18], [], [_] => some (.x1 o17 o18)
    | _, _, _, _ => none
  exO := fun x => match x with
    | .x0 o11 o12 q13 => .ret
    | .x1 o17 o18 => .normal
  outV := fun x => match x with
    | .x0 o11 o12 q13 => [.undef, .d (.val (.string o11)), .d (.val (.int .i64 o12)), .undef]
    | .x1 o17 o18 => [.d (.val (.string o17)), .undef, .undef, .obs 0 o18]
  outB := fun x => match x with
    | .x0 o11 o12 q13 => []
    | .x1 o17 o18 => []
  tkO := fun x => match x with
    | .x0 o11 o12 q13 => [q13]
    | .x1 o17 o18 => [o18.size]
  elim := fun x k => match x with
    | .x0 o11 o12 q13 => k .ret [.undef, .d (.val (.string o11)), .d (.val (.int .i64 o12)), .undef] [] [q13]
    | .x1 o17 o18 => k .normal [.d (.val (.string o17)), .undef, .undef, .obs 0 o18] [] [o18.size]
theorem k46_0 : l46_0.Ok where
  ok1 := by kernel_rfl
  ok2 := by kernel_rfl
  dec := by
    intro vs bs ts a h
    simp only [l46_0] at h ⊢
    split at h
    · cases h; exact ⟨rfl, rfl⟩
    · cases h
  out := by
    intro ex vs bs ts o h
    simp only [l46_0] at h ⊢
    split at h
    · cases h; exact ⟨rfl, rfl, rfl⟩
    · cases h; exact ⟨rfl, rfl, rfl⟩
    · cases h
  len := fun _ => ⟨rfl, rfl⟩
  elim := fun β o k => by cases o <;> rfl
def L46_0 {σ : Type} : Nat → A46_0 → σ → Option (O46_0 × σ)
  | 0, _, _ => none
  | n+1, (v5, v6, v7, v8), s => (bif (decide (v8 < (v6.size : Int))) then ((sidx v6 v8).bind fun c9 => (bif ((c9.toNat : Int) != 92) then ((sidx v6 v8).bind fun c10 => (ask (byteOk (c10.toNat : Int)) (ask (addBOk v7.size v7 (bcons (c10.toNat : Int) ByteArray.empty) 1) (ask (([(v7.size + (bcons (c10.toNat : Int) ByteArray.empty).size)] : List Nat) = [(v7 ++ (bcons (c10.toNat : Int) ByteArray.empty)).size]) (L46_0 n (v5, v6, (v7 ++ (bcons (c10.toNat : Int) ByteArray.empty)), (w64 (v8 + 1))) s))))) else (bif (decide ((w64 (v8 + 1)) ≥ (v6.size : Int))) then (ask (([v7.size] : List Nat) = [v7.size]) (some (O46_0.x0 (⟨#[]⟩ : ByteArray) 24 v7.size, s))) else ((sidx v6 (w64 (v8 + 1))).bind fun c14 => (bif ((c14.toNat : Int) == 110) then (ask (addBOk v7.size v7 (bcons 10 ByteArray.empty) 1) (ask (([(v7.size + (bcons 10 ByteArray.empty).size)] : List Nat) = [(v7 ++ (bcons 10 ByteArray.empty)).size]) (L46_0 n (v5, v6, (v7 ++ (bcons 10 ByteArray.empty)), (w64 ((w64 (v8 + 1)) + 1))) s))) else (bif ((c14.toNat : Int) == 120) then (ask (cutOk (w64 ((w64 (v8 + 1)) + 1)) (v6.size : Int) v6.size) ((n76 (v6.extract (Int.toNat (w64 ((w64 (v8 + 1)) + 1))) (Int.toNat (v6.size : Int)))).bind fun y15 => (bif (!y15.2) then (ask (([v7.size] : List Nat) = [v7.size]) (some (O46_0.x0 (⟨#[]⟩ : ByteArray) 24 v7.size, s))) else (ask (byteOk y15.1) (ask (addBOk v7.size v7 (bcons y15.1 ByteArray.empty) 1) (ask (([(v7.size + (bcons y15.1 ByteArray.empty).size)] : List Nat) = [(v7 ++ (bcons y15.1 ByteArray.empty)).size]) (L46_0 n (v5, v6, (v7 ++ (bcons y15.1 ByteArray.empty)), (w64 ((w64 ((w64 (v8 + 1)) + 2)) + 1))) s))))))) else ((sidx v6 (w64 (v8 + 1))).bind fun c16 => (ask (byteOk (c16.toNat : Int)) (ask (addBOk v7.size v7 (bcons (c16.toNat : Int) ByteArray.empty) 1) (ask (([(v7.size + (bcons (c16.toNat : Int) ByteArray.empty).size)] : List Nat) = [(v7 ++ (bcons (c16.toNat : Int) ByteArray.empty)).size]) (L46_0 n (v5, v6, (v7 ++ (bcons (c16.toNat : Int) ByteArray.empty)), (w64 ((w64 (v8 + 1)) + 1))) s))))))))))) else (ask (([v7.size] : List Nat) = [v7.size]) (some (O46_0.x1 v5 v7, s))))
def d46 (ds : List D) : Option (ByteArray) := match ds with
  | [.val (.string a0)] => some a0
  | _ => none
def r46 (v : AV) : Option (ByteArray × Int) := match toPR v with
  | some (.many [.val (.string a1), .val (.int .i64 a2)]) => some (a1, a2)
  | _ => none
def n46 : ByteArray → Option (ByteArray × Int) := fun a0 => (bif (decide ((a0.size : Int) < 2)) then (some ((⟨#[]⟩ : ByteArray), 24)) else ((sidx a0 0).bind fun c3 => (bif ((c3.toNat : Int) != 34) then (some ((⟨#[]⟩ : ByteArray), 24)) else ((sidx a0 (w64 ((a0.size : Int) - 1))).bind fun c4 => (bif ((c4.toNat : Int) != 34) then (some ((⟨#[]⟩ : ByteArray), 24)) else (ask (cutOk 1 (w64 ((a0.size : Int) - 1)) a0.size) (ask (([0] : List Nat) = [ByteArray.empty.size]) ((L46_0 1000000000000 (a0, (a0.extract (Int.toNat 1) (Int.toNat (w64 ((a0.size : Int) - 1)))), ByteArray.empty, 0) ()).bind fun p19 => match p19.1 with | .x0 z20 z21 z22 => (some (z20, z21)) | .x1 z23 z24 => ((n48 z24).bind fun y25 => (bif (!(sEq y25 z23)) then (some ((⟨#[]⟩ : ByteArray), 24)) else (some (z24, 0))))))))))))
def e46 : PureE := mkE d46 n46 (fun (a1, a2) => .many [.val (.string a1), .val (.int .i64 a2)])
def g46 {σ : Type} : Nat → Option (SegE σ)
  | 0 => some (l46_0.seg σ (L46_0 1000000000000))
  | _ => none
theorem E46_0 {σ : Type} (Y : Yd σ) : ∀ n a (s : σ), L46_0 (n + 1) a s = evK (cfgOf Tryd.prog (tabs gl) tS5) (toldOf tS5) Y (inlN (cfgOf Tryd.prog (tabs gl) tS5) (toldOf tS5) Y) g46 46 (loopAt Tryd.f46 0) ((l46_0.toT σ).enc a s) (fun ex st' => l46_0.next (cfgOf Tryd.prog (tabs gl) tS5) 46 0 (L46_0 n) ex st') := by
  intro n ⟨v5, v6, v7, v8⟩ s
  kernel_rfl
theorem Q46_0 {σ : Type} (hl : LibFits2 gl) (Y : Yd σ) (rnd : Bool) : SegOk (cfgOf Tryd.prog (tabs gl) tS5) (evFn (cfgOf Tryd.prog (tabs gl) tS5) 9) 46 rnd Y (l46_0.seg σ (L46_0 1000000000000)) (.block 0 (.loop (loopAt Tryd.f46 0))) :=
  told_loop (okS5 hl) k46_0 (by kernel_rfl) (by kernel_rfl) (fun _ _ => rfl) (segs_no (by kernel_rfl)) (E46_0 Y)
theorem N46 : ∀ a, n46 a = bodyK (cfgOf Tryd.prog (tabs gl) tS5) (toldOf tS5) noY (inlN (cfgOf Tryd.prog (tabs gl) tS5) (toldOf tS5) noY) g46 46 Tryd.f46 (((fun a0 => [.val (.string a0)] : (ByteArray) → List D) a).map .d) [] [] () (fun v _ _ _ => r46 v) := by
  intro a0
  kernel_rfl
noncomputable def t46 : Tab := (46, e46) :: tS5
theorem ok46 (hl : LibFits2 gl) : TabOk Tryd.prog gl t46 :=
  told_fn (okS5 hl) mixed oddOk Tryd.func46 (by kernel_rfl) (by kernel_rfl) (by kernel_rfl) (fun p hp e he => by
    have hq : segsOf (σ := Unit) (g46 (σ := Unit)) (bodyOf Tryd.f46) = [(0, .loop (loopAt Tryd.f46 0))] := by kernel_rfl
    rw [hq] at hp
    simp only [List.mem_cons, List.not_mem_nil, or_false] at hp
    subst hp
    cases he
    exact Q46_0 hl _ _)
    (args := fun a0 => [.val (.string a0)]) (res := r46)
    (fun ds a h => by
      unfold d46 at h
      split at h
      · cases h; rfl
      · cases h)
    (fun v r h => by
      unfold r46 at h
      split at h
      · rename_i hv; cases h; exact hv
      · cases h)
    N46

/-! sextant/sextantref02.Unquote -/
abbrev A47_0 := ByteArray × ByteArray × ByteArray × Int
inductive O47_0 where
  | x0 (o11 : ByteArray) (o12 : Int) (q13 : Nat)
  | x1 (o21 : ByteArray) (o22 : ByteArray)
def l47_0 : LoopS A47_0 O47_0 where
  n := 110
  ks := [0, 4, 5, 6]
  kso := [0, 2, 3, 4]
  m := 0
  mt := 1
  decV := fun vs bs ts => match vs, bs, ts with
    | [.d (.val (.string v5)), .obs 0 v6, .d (.val (.string v7)), .d (.val (.int .i64 v8))], [], [_] => some (v5, v6, v7, v8)
    | _, _, _ => none
  encV := fun (v5, v6, v7, v8) => [.d (.val (.string v5)), .obs 0 v6, .d (.val (.string v7)), .d (.val (.int .i64 v8))]
  encB := fun (v5, v6, v7, v8) => []
  tk := fun (v5, v6, v7, v8) => [v6.size]
  decO := fun ex vs bs ts => match ex, vs, bs, ts with
    | .ret, [.undef, .d (.val (.string o11)), .d (.val (.int .i64 o12)), .undef], [], [q13] => some (.x0 o11 o12 q13)
    | .normal, [.d (.val (.string o21)), .undef, .undef, .obs 0 o22], [], [_] => some (.x1 o21 o22)
    | _, _, _, _ => none
  exO := fun x => match x with
    | .x0 o11 o12 q13 => .ret
    | .x1 o21 o22 => .normal
  outV := fun x => match x with
    | .x0 o11 o12 q13 => [.undef, .d (.val (.string o11)), .d (.val (.int .i64 o12)), .undef]
    | .x1 o21 o22 => [.d (.val (.string o21)), .undef, .undef, .obs 0 o22]
  outB := fun x => match x with
    | .x0 o11 o12 q13 => []
    | .x1 o21 o22 => []
  tkO := fun x => match x with
    | .x0 o11 o12 q13 => [q13]
    | .x1 o21 o22 => [o22.size]
  elim := fun x k => match x with
    | .x0 o11 o12 q13 => k .ret [.undef, .d (.val (.string o11)), .d (.val (.int .i64 o12)), .undef] [] [q13]
    | .x1 o21 o22 => k .normal [.d (.val (.string o21)), .undef, .undef, .obs 0 o22] [] [o22.size]
theorem k47_0 : l47_0.Ok where
  ok1 := by kernel_rfl
  ok2 := by kernel_rfl
  dec := by
    intro vs bs ts a h
    simp only [l47_0] at h ⊢
    split at h
    · cases h; exact ⟨rfl, rfl⟩
    · cases h
  out := by
    intro ex vs bs ts o h
    simp only [l47_0] at h ⊢
    split at h
    · cases h; exact ⟨rfl, rfl, rfl⟩
    · cases h; exact ⟨rfl, rfl, rfl⟩
    · cases h
  len := fun _ => ⟨rfl, rfl⟩
  elim := fun β o k => by cases o <;> rfl
def L47_0 {σ : Type} : Nat → A47_0 → σ → Option (O47_0 × σ)
  | 0, _, _ => none
  | n+1, (v5, v6, v7, v8), s => (bif (decide (v8 < (v7.size : Int))) then ((sidx v7 v8).bind fun c9 => (bif ((c9.toNat : Int) != 92) then ((sidx v7 v8).bind fun c10 => (ask (byteOk (c10.toNat : Int)) (ask (addBOk v6.size v6 (bcons (c10.toNat : Int) ByteArray.empty) 1) (ask (([(v6.size + (bcons (c10.toNat : Int) ByteArray.empty).size)] : List Nat) = [(v6 ++ (bcons (c10.toNat : Int) ByteArray.empty)).size]) (L47_0 n (v5, (v6 ++ (bcons (c10.toNat : Int) ByteArray.empty)), v7, (w64 (v8 + 1))) s))))) else (bif (decide ((w64 (v8 + 1)) ≥ (v7.size : Int))) then (ask (([v6.size] : List Nat) = [v6.size]) (some (O47_0.x0 (⟨#[]⟩ : ByteArray) 24 v6.size, s))) else ((sidx v7 (w64 (v8 + 1))).bind fun c14 => (bif ((c14.toNat : Int) == 34) then ((sidx v7 (w64 (v8 + 1))).bind fun c15 => (ask (byteOk (c15.toNat : Int)) (ask (addBOk v6.size v6 (bcons (c15.toNat : Int) ByteArray.empty) 1) (ask (([(v6.size + (bcons (c15.toNat : Int) ByteArray.empty).size)] : List Nat) = [(v6 ++ (bcons (c15.toNat : Int) ByteArray.empty)).size]) (L47_0 n (v5, (v6 ++ (bcons (c15.toNat : Int) ByteArray.empty)), v7, (w64 ((w64 (v8 + 1)) + 1))) s))))) else (bif ((c14.toNat : Int) == 92) then ((sidx v7 (w64 (v8 + 1))).bind fun c16 => (ask (byteOk (c16.toNat : Int)) (ask (addBOk v6.size v6 (bcons (c16.toNat : Int) ByteArray.empty) 1) (ask (([(v6.size + (bcons (c16.toNat : Int) ByteArray.empty).size)] : List Nat) = [(v6 ++ (bcons (c16.toNat : Int) ByteArray.empty)).size]) (L47_0 n (v5, (v6 ++ (bcons (c16.toNat : Int) ByteArray.empty)), v7, (w64 ((w64 (v8 + 1)) + 1))) s))))) else (bif ((c14.toNat : Int) == 110) then (ask (addBOk v6.size v6 (bcons 10 ByteArray.empty) 1) (ask (([(v6.size + (bcons 10 ByteArray.empty).size)] : List Nat) = [(v6 ++ (bcons 10 ByteArray.empty)).size]) (L47_0 n (v5, (v6 ++ (bcons 10 ByteArray.empty)), v7, (w64 ((w64 (v8 + 1)) + 1))) s))) else (bif ((c14.toNat : Int) == 120) then (bif (decide ((w64 ((w64 (v8 + 1)) + 2)) ≥ (v7.size : Int))) then (ask (([v6.size] : List Nat) = [v6.size]) (some (O47_0.x0 (⟨#[]⟩ : ByteArray) 24 v6.size, s))) else ((sidx v7 (w64 ((w64 (v8 + 1)) + 1))).bind fun c17 => ((n77 (c17.toNat : Int)).bind fun y18 => ((sidx v7 (w64 ((w64 (v8 + 1)) + 2))).bind fun c19 => ((n77 (c19.toNat : Int)).bind fun y20 => (bif (bif (decide (y18 < 0)) then true else (decide (y20 < 0))) then (ask (([v6.size] : List Nat) = [v6.size]) (some (O47_0.x0 (⟨#[]⟩ : ByteArray) 24 v6.size, s))) else (ask (byteOk (wu8 (w64 ((w64 (16 * y18)) + y20)))) (ask (addBOk v6.size v6 (bcons (wu8 (w64 ((w64 (16 * y18)) + y20))) ByteArray.empty) 1) (ask (([(v6.size + (bcons (wu8 (w64 ((w64 (16 * y18)) + y20))) ByteArray.empty).size)] : List Nat) = [(v6 ++ (bcons (wu8 (w64 ((w64 (16 * y18)) + y20))) ByteArray.empty)).size]) (L47_0 n (v5, (v6 ++ (bcons (wu8 (w64 ((w64 (16 * y18)) + y20))) ByteArray.empty)), v7, (w64 ((w64 ((w64 (v8 + 1)) + 2)) + 1))) s)))))))))) else (ask (([v6.size] : List Nat) = [v6.size]) (some (O47_0.x0 (⟨#[]⟩ : ByteArray) 24 v6.size, s))))))))))) else (ask (([v6.size] : List Nat) = [v6.size]) (some (O47_0.x1 v5 v6, s))))
def d47 (ds : List D) : Option (ByteArray) := match ds with
  | [.val (.string a0)] => some a0
  | _ => none
def r47 (v : AV) : Option (ByteArray × Int) := match toPR v with
  | some (.many [.val (.string a1), .val (.int .i64 a2)]) => some (a1, a2)
  | _ => none
def n47 : ByteArray → Option (ByteArray × Int) := fun a0 => (bif (decide ((a0.size : Int) < 2)) then (some ((⟨#[]⟩ : ByteArray), 24)) else ((sidx a0 0).bind fun c3 => (bif ((c3.toNat : Int) != 34) then (some ((⟨#[]⟩ : ByteArray), 24)) else ((sidx a0 (w64 ((a0.size : Int) - 1))).bind fun c4 => (bif ((c4.toNat : Int) != 34) then (some ((⟨#[]⟩ : ByteArray), 24)) else (ask (cutOk 1 (w64 ((a0.size : Int) - 1)) a0.size) (ask (([0] : List Nat) = [ByteArray.empty.size]) ((L47_0 1000000000000 (a0, ByteArray.empty, (a0.extract (Int.toNat 1) (Int.toNat (w64 ((a0.size : Int) - 1)))), 0) ()).bind fun p23 => match p23.1 with | .x0 z24 z25 z26 => (some (z24, z25)) | .x1 z27 z28 => ((n49 z28).bind fun y29 => (bif (!(sEq y29 z27)) then (some ((⟨#[]⟩ : ByteArray), 24)) else (some (z28, 0))))))))))))
def e47 : PureE := mkE d47 n47 (fun (a1, a2) => .many [.val (.string a1), .val (.int .i64 a2)])
def g47 {σ : Type} : Nat → Option (SegE σ)
  | 0 => some (l47_0.seg σ (L47_0 1000000000000))
  | _ => none
theorem E47_0 {σ : Type} (Y : Yd σ) : ∀ n a (s : σ), L47_0 (n + 1) a s = evK (cfgOf Tryd.prog (tabs gl) tS5) (toldOf tS5) Y (inlN (cfgOf Tryd.prog (tabs gl) tS5) (toldOf tS5) Y) g47 47 (loopAt Tryd.f47 0) ((l47_0.toT σ).enc a s) (fun ex st' => l47_0.next (cfgOf Tryd.prog (tabs gl) tS5) 47 0 (L47_0 n) ex st') := by
  intro n ⟨v5, v6, v7, v8⟩ s
  kernel_rfl
theorem Q47_0 {σ : Type} (hl : LibFits2 gl) (Y : Yd σ) (rnd : Bool) : SegOk (cfgOf Tryd.prog (tabs gl) tS5) (evFn (cfgOf Tryd.prog (tabs gl) tS5) 9) 47 rnd Y (l47_0.seg σ (L47_0 1000000000000)) (.block 0 (.loop (loopAt Tryd.f47 0))) :=
  told_loop (okS5 hl) k47_0 (by kernel_rfl) (by kernel_rfl) (fun _ _ => rfl) (segs_no (by kernel_rfl)) (E47_0 Y)
theorem N47 : ∀ a, n47 a = bodyK (cfgOf Tryd.prog (tabs gl) tS5) (toldOf tS5) noY (inlN (cfgOf Tryd.prog (tabs gl) tS5) (toldOf tS5) noY) g47 47 Tryd.f47 (((fun a0 => [.val (.string a0)] : (ByteArray) → List D) a).map .d) [] [] () (fun v _ _ _ => r47 v) := by
  intro a0
  kernel_rfl
noncomputable def t47 : Tab := (47, e47) :: tS5
theorem ok47 (hl : LibFits2 gl) : TabOk Tryd.prog gl t47 :=
  told_fn (okS5 hl) mixed oddOk Tryd.func47 (by kernel_rfl) (by kernel_rfl) (by kernel_rfl) (fun p hp e he => by
    have hq : segsOf (σ := Unit) (g47 (σ := Unit)) (bodyOf Tryd.f47) = [(0, .loop (loopAt Tryd.f47 0))] := by kernel_rfl
    rw [hq] at hp
    simp only [List.mem_cons, List.not_mem_nil, or_false] at hp
    subst hp
    cases he
    exact Q47_0 hl _ _)
    (args := fun a0 => [.val (.string a0)]) (res := r47)
    (fun ds a h => by
      unfold d47 at h
      split at h
      · cases h; rfl
      · cases h)
    (fun v r h => by
      unfold r47 at h
      split at h
      · rename_i hv; cases h; exact hv
      · cases h)
    N47

noncomputable def tS6 : Tab := (46, e46) :: (47, e47) :: tS5
theorem okS6 (hl : LibFits2 gl) : TabOk Tryd.prog gl tS6 :=
  TabOk.cons (TabOk.cons (okS5 hl) ((ok47 hl).fair (47, e47) (List.mem_cons_self (l := tS5))) ((ok47 hl).spec (47, e47) (List.mem_cons_self (l := tS5)))) ((ok46 hl).fair (46, e46) (List.mem_cons_self (l := tS5))) ((ok46 hl).spec (46, e46) (List.mem_cons_self (l := tS5)))
/-! sextant/sextantlaw02.alive -/
def d32 (ds : List D) : Option (Unit) := match ds with
  | [] => some ()
  | _ => none
def r32 (v : AV) : Option (Bool) := match toPR v with
  | some (.one (.val (.bool a0))) => some a0
  | _ => none
def n32 : Unit → Option (Bool) := fun () => ((n28 (⟨#[97, 206, 178, 255]⟩ : ByteArray)).bind fun y1 => ((n33 (⟨#[97, 10, 10, 98]⟩ : ByteArray)).bind fun y2 => ((n35 ((⟨#[32, 32, 105, 110, 118, 32, 112, 49, 32, 35, 120]⟩ : ByteArray), 7)).bind fun y3 => ((n42 (⟨#[45, 49, 50]⟩ : ByteArray)).bind fun y4 => ((n48 (⟨#[97, 10, 34, 206, 178]⟩ : ByteArray)).bind fun y5 => ((n46 y5).bind fun y6 => ((n50 ((⟨#[206, 178]⟩ : ByteArray), 3)).bind fun y7 => (bif (((y1.1.length : Nat) : Int) == 3) then ((lidx y1.2 1).bind fun d8 => ask (d8.cells.length = 1) ((cellAt 0 d8).bind fun x9 => (asInt .i32 x9).bind fun x10 => (bif (x10 == 946) then ((lidx y1.2 2).bind fun d11 => ask (d11.cells.length = 1) ((cellAt 0 d11).bind fun x12 => (asInt .i32 x12).bind fun x13 => (bif (x13 == (-1)) then ((lidx y1.1 2).bind fun d14 => ask (d14.cells.length = 3) ((cellAt 0 d14).bind fun x15 => (asInt .i64 x15).bind fun x16 => (bif (bif (x16 == 3) then (((y2.1.length : Nat) : Int) == 3) else false) then ((lidx y2.1 2).bind fun d17 => ask (d17.cells.length = 1) ((cellAt 0 d17).bind fun x18 => (asInt .i64 x18).bind fun x19 => (bif (x19 == 3) then ((lidx y2.2 2).bind fun d20 => ask (d20.cells.length = 1) ((cellAt 0 d20).bind fun x21 => (asStr x21).bind fun x22 => (bif (bif (sEq x22 (⟨#[98]⟩ : ByteArray)) then (((y3.length : Nat) : Int) == 2) else false) then ((lidx y3 0).bind fun d23 => ask (d23.cells.length = 4) ((cellAt 0 d23).bind fun x24 => (asStr x24).bind fun x25 => ((cellAt 1 d23).bind fun x26 => (asInt .i64 x26).bind fun x27 => ((cellAt 2 d23).bind fun x28 => (asInt .i64 x28).bind fun x29 => ((cellAt 3 d23).bind fun x30 => (asInt .i64 x30).bind fun x31 => (bif (bif ((sEq x25 (⟨#[105, 110, 118]⟩ : ByteArray)) && (((x27 == 2) && ((x29 == 7) && ((x31 == 3) && true))) && true)) then (y4.1 == (-12)) else false) then ((n39 y4.2).bind fun y32 => (bif (bif (y32 == 0) then (sEq y6.1 (⟨#[97, 10, 34, 206, 178]⟩ : ByteArray)) else false) then ((n39 y6.2).bind fun y33 => (bif (bif (y33 == 0) then (sEq y7.1 (⟨#[206, 178, 32, 32]⟩ : ByteArray)) else false) then ((n39 y7.2).bind fun y34 => (bif (y34 == 0) then ((n40 (⟨#[206, 187, 49]⟩ : ByteArray)).bind fun y35 => (bif (y35 == 0) then ((n40 (⟨#[49, 97]⟩ : ByteArray)).bind fun y36 => ((n39 y36).bind fun y37 => (bif (y37 == 21) then ((n52 (⟨#[97, 206, 178, 10, 99]⟩ : ByteArray)).bind fun y38 => (bif (y38 == 4) then ((n44 0).bind fun y39 => (some (sEq y39 (⟨#[48]⟩ : ByteArray)))) else (some false))) else (some false)))) else (some false))) else (some false))) else (some false))) else (some false))) else (some false))))))) else (some false)))) else (some false)))) else (some false)))) else (some false)))) else (some false)))) else (some false)))))))))
def e32 : PureE := mkE d32 n32 (fun a0 => .one (.val (.bool a0)))
def g32 {σ : Type} : Nat → Option (SegE σ)
  | _ => none
theorem N32 : ∀ a, n32 a = bodyK (cfgOf Tryd.prog (tabs gl) tS6) (toldOf tS6) noY (inlN (cfgOf Tryd.prog (tabs gl) tS6) (toldOf tS6) noY) g32 32 Tryd.f32 (((fun () => [] : (Unit) → List D) a).map .d) [] [] () (fun v _ _ _ => r32 v) := by
  intro a
  kernel_rfl
noncomputable def t32 : Tab := (32, e32) :: tS6
theorem ok32 (hl : LibFits2 gl) : TabOk Tryd.prog gl t32 :=
  told_fn (okS6 hl) mixed oddOk Tryd.func32 (by kernel_rfl) (by kernel_rfl) (by kernel_rfl) (segs_no (by kernel_rfl))
    (args := fun () => []) (res := r32)
    (fun ds a h => by
      unfold d32 at h
      split at h
      · cases h; rfl
      · cases h)
    (fun v r h => by
      unfold r32 at h
      split at h
      · rename_i hv; cases h; exact hv
      · cases h)
    N32

noncomputable def tS7 : Tab := (32, e32) :: tS6
theorem okS7 (hl : LibFits2 gl) : TabOk Tryd.prog gl tS7 :=
  TabOk.cons (okS6 hl) ((ok32 hl).fair (32, e32) (List.mem_cons_self (l := tS6))) ((ok32 hl).spec (32, e32) (List.mem_cons_self (l := tS6)))
/-! sextant/sextantlaw02.TextRunes -/
abbrev A7_0 := List D × List D × List D × List D × Int
inductive O7_0 where
  | x0 (o16 : Bool)
  | x1 
def l7_0 : LoopS A7_0 O7_0 where
  n := 52
  ks := [3, 4, 5, 6, 7]
  kso := [2]
  m := 0
  mt := 0
  decV := fun vs bs ts => match vs, bs, ts with
    | [.d (.slice v5), .d (.slice v6), .d (.slice v7), .d (.slice v8), .d (.val (.int .i64 v9))], [], [] => some (v5, v6, v7, v8, v9)
    | _, _, _ => none
  encV := fun (v5, v6, v7, v8, v9) => [.d (.slice v5), .d (.slice v6), .d (.slice v7), .d (.slice v8), .d (.val (.int .i64 v9))]
  encB := fun (v5, v6, v7, v8, v9) => []
  tk := fun _ => []
  decO := fun ex vs bs ts => match ex, vs, bs, ts with
    | .ret, [.d (.val (.bool o16))], [], [] => some (.x0 o16)
    | .normal, [.undef], [], [] => some (.x1 )
    | _, _, _, _ => none
  exO := fun x => match x with
    | .x0 o16 => .ret
    | .x1  => .normal
  outV := fun x => match x with
    | .x0 o16 => [.d (.val (.bool o16))]
    | .x1  => [.undef]
  outB := fun x => match x with
    | .x0 o16 => []
    | .x1  => []
  tkO := fun x => match x with
    | .x0 o16 => []
    | .x1  => []
  elim := fun x k => match x with
    | .x0 o16 => k .ret [.d (.val (.bool o16))] [] []
    | .x1  => k .normal [.undef] [] []
theorem k7_0 : l7_0.Ok where
  ok1 := by kernel_rfl
  ok2 := by kernel_rfl
  dec := by
    intro vs bs ts a h
    simp only [l7_0] at h ⊢
    split at h
    · cases h; exact ⟨rfl, rfl⟩
    · cases h
  out := by
    intro ex vs bs ts o h
    simp only [l7_0] at h ⊢
    split at h
    · cases h; exact ⟨rfl, rfl, rfl⟩
    · cases h; exact ⟨rfl, rfl, rfl⟩
    · cases h
  len := fun _ => ⟨rfl, rfl⟩
  elim := fun β o k => by cases o <;> rfl
def L7_0 {σ : Type} : Nat → A7_0 → σ → Option (O7_0 × σ)
  | 0, _, _ => none
  | n+1, (v5, v6, v7, v8, v9), s => (bif (decide (v9 < ((v7.length : Nat) : Int))) then ((lidx v6 v9).bind fun d10 => ask (d10.cells.length = 1) ((cellAt 0 d10).bind fun x11 => (asInt .i32 x11).bind fun x12 => ((lidx v7 v9).bind fun d13 => ask (d13.cells.length = 3) ((cellAt 0 d13).bind fun x14 => (asInt .i64 x14).bind fun x15 => (bif ((w64 x12) != x15) then (some (O7_0.x0 false, s)) else ((lidx v5 v9).bind fun d17 => ask (d17.cells.length = 3) ((cellAt 0 d17).bind fun x18 => (asInt .i64 x18).bind fun x19 => ((cellAt 1 d17).bind fun x20 => (asInt .i64 x20).bind fun x21 => ((cellAt 2 d17).bind fun x22 => (asInt .i64 x22).bind fun x23 => ((lidx v8 v9).bind fun d24 => ask (d24.cells.length = 3) ((cellAt 0 d24).bind fun x25 => (asInt .i64 x25).bind fun x26 => ((cellAt 1 d24).bind fun x27 => (asInt .i64 x27).bind fun x28 => ((cellAt 2 d24).bind fun x29 => (asInt .i64 x29).bind fun x30 => ((n31 (x19, x21, x23, x26, x28, x30)).bind fun y31 => (bif (!y31) then (some (O7_0.x0 false, s)) else (L7_0 n (v5, v6, v7, v8, (w64 (v9 + 1))) s)))))))))))))))) else (some (O7_0.x1 , s)))
def d7 (ds : List D) : Option (ByteArray) := match ds with
  | [.val (.string a0)] => some a0
  | _ => none
def r7 (v : AV) : Option (Bool) := match toPR v with
  | some (.one (.val (.bool a1))) => some a1
  | _ => none
def n7 : ByteArray → Option (Bool) := fun a0 => ((n28 a0).bind fun y2 => ((n29 a0).bind fun y3 => ((n30 y3).bind fun y4 => (bif (((y2.1.length : Nat) : Int) != ((y3.length : Nat) : Int)) then (some false) else ((L7_0 1000000000000 (y2.1, y2.2, y3, y4, 0) ()).bind fun p32 => match p32.1 with | .x0 z33 => (some z33) | .x1  => ((n32 ()).bind fun y34 => (some y34)))))))
def e7 : PureE := mkE d7 n7 (fun a1 => .one (.val (.bool a1)))
def g7 {σ : Type} : Nat → Option (SegE σ)
  | 0 => some (l7_0.seg σ (L7_0 1000000000000))
  | _ => none
theorem E7_0 {σ : Type} (Y : Yd σ) : ∀ n a (s : σ), L7_0 (n + 1) a s = evK (cfgOf Tryd.prog (tabs gl) tS7) (toldOf tS7) Y (inlN (cfgOf Tryd.prog (tabs gl) tS7) (toldOf tS7) Y) g7 7 (loopAt Tryd.f7 0) ((l7_0.toT σ).enc a s) (fun ex st' => l7_0.next (cfgOf Tryd.prog (tabs gl) tS7) 7 0 (L7_0 n) ex st') := by
  intro n ⟨v5, v6, v7, v8, v9⟩ s
  kernel_rfl
theorem Q7_0 {σ : Type} (hl : LibFits2 gl) (Y : Yd σ) (rnd : Bool) : SegOk (cfgOf Tryd.prog (tabs gl) tS7) (evFn (cfgOf Tryd.prog (tabs gl) tS7) 9) 7 rnd Y (l7_0.seg σ (L7_0 1000000000000)) (.block 0 (.loop (loopAt Tryd.f7 0))) :=
  told_loop (okS7 hl) k7_0 (by kernel_rfl) (by kernel_rfl) (fun _ _ => rfl) (segs_no (by kernel_rfl)) (E7_0 Y)
theorem N7 : ∀ a, n7 a = bodyK (cfgOf Tryd.prog (tabs gl) tS7) (toldOf tS7) noY (inlN (cfgOf Tryd.prog (tabs gl) tS7) (toldOf tS7) noY) g7 7 Tryd.f7 (((fun a0 => [.val (.string a0)] : (ByteArray) → List D) a).map .d) [] [] () (fun v _ _ _ => r7 v) := by
  intro a0
  kernel_rfl
noncomputable def t7 : Tab := (7, e7) :: tS7
theorem ok7 (hl : LibFits2 gl) : TabOk Tryd.prog gl t7 :=
  told_fn (okS7 hl) mixed oddOk Tryd.func7 (by kernel_rfl) (by kernel_rfl) (by kernel_rfl) (fun p hp e he => by
    have hq : segsOf (σ := Unit) (g7 (σ := Unit)) (bodyOf Tryd.f7) = [(0, .loop (loopAt Tryd.f7 0))] := by kernel_rfl
    rw [hq] at hp
    simp only [List.mem_cons, List.not_mem_nil, or_false] at hp
    subst hp
    cases he
    exact Q7_0 hl _ _)
    (args := fun a0 => [.val (.string a0)]) (res := r7)
    (fun ds a h => by
      unfold d7 at h
      split at h
      · cases h; rfl
      · cases h)
    (fun v r h => by
      unfold r7 at h
      split at h
      · rename_i hv; cases h; exact hv
      · cases h)
    N7

/-! sextant/sextantlaw02.TextLines -/
abbrev A8_0 := ByteArray × List D × List D × List D × ByteArray × Int
inductive O8_0 where
  | x0 (o13 : Bool)
  | x1 (o23 : ByteArray) (o24 : ByteArray)
def l8_0 : LoopS A8_0 O8_0 where
  n := 69
  ks := [0, 3, 4, 5, 6, 7]
  kso := [0, 2, 6]
  m := 0
  mt := 0
  decV := fun vs bs ts => match vs, bs, ts with
    | [.d (.val (.string v4)), .d (.slice v5), .d (.slice v6), .d (.slice v7), .d (.val (.string v8)), .d (.val (.int .i64 v9))], [], [] => some (v4, v5, v6, v7, v8, v9)
    | _, _, _ => none
  encV := fun (v4, v5, v6, v7, v8, v9) => [.d (.val (.string v4)), .d (.slice v5), .d (.slice v6), .d (.slice v7), .d (.val (.string v8)), .d (.val (.int .i64 v9))]
  encB := fun (v4, v5, v6, v7, v8, v9) => []
  tk := fun _ => []
  decO := fun ex vs bs ts => match ex, vs, bs, ts with
    | .ret, [.undef, .d (.val (.bool o13)), .undef], [], [] => some (.x0 o13)
    | .normal, [.d (.val (.string o23)), .undef, .d (.val (.string o24))], [], [] => some (.x1 o23 o24)
    | _, _, _, _ => none
  exO := fun x => match x with
    | .x0 o13 => .ret
    | .x1 o23 o24 => .normal
  outV := fun x => match x with
    | .x0 o13 => [.undef, .d (.val (.bool o13)), .undef]
    | .x1 o23 o24 => [.d (.val (.string o23)), .undef, .d (.val (.string o24))]
  outB := fun x => match x with
    | .x0 o13 => []
    | .x1 o23 o24 => []
  tkO := fun x => match x with
    | .x0 o13 => []
    | .x1 o23 o24 => []
  elim := fun x k => match x with
    | .x0 o13 => k .ret [.undef, .d (.val (.bool o13)), .undef] [] []
    | .x1 o23 o24 => k .normal [.d (.val (.string o23)), .undef, .d (.val (.string o24))] [] []
theorem k8_0 : l8_0.Ok where
  ok1 := by kernel_rfl
  ok2 := by kernel_rfl
  dec := by
    intro vs bs ts a h
    simp only [l8_0] at h ⊢
    split at h
    · cases h; exact ⟨rfl, rfl⟩
    · cases h
  out := by
    intro ex vs bs ts o h
    simp only [l8_0] at h ⊢
    split at h
    · cases h; exact ⟨rfl, rfl, rfl⟩
    · cases h; exact ⟨rfl, rfl, rfl⟩
    · cases h
  len := fun _ => ⟨rfl, rfl⟩
  elim := fun β o k => by cases o <;> rfl
def L8_0 {σ : Type} : Nat → A8_0 → σ → Option (O8_0 × σ)
  | 0, _, _ => none
  | n+1, (v4, v5, v6, v7, v8, v9), s => (bif (decide (v9 < ((v6.length : Nat) : Int))) then ((lidx v5 v9).bind fun d10 => ask (d10.cells.length = 1) ((cellAt 0 d10).bind fun x11 => (asInt .i64 x11).bind fun x12 => (bif (x12 != (w64 (v9 + 1))) then (some (O8_0.x0 false, s)) else ((lidx v6 v9).bind fun d14 => ask (d14.cells.length = 1) ((cellAt 0 d14).bind fun x15 => (asStr x15).bind fun x16 => ((lidx v7 v9).bind fun d17 => ask (d17.cells.length = 1) ((cellAt 0 d17).bind fun x18 => (asStr x18).bind fun x19 => (bif (!(sEq x16 x19)) then (some (O8_0.x0 false, s)) else ((lidx v6 v9).bind fun d20 => ask (d20.cells.length = 1) ((cellAt 0 d20).bind fun x21 => (asStr x21).bind fun x22 => (ask (catOk v8 x22) (ask (catOk (v8 ++ x22) (⟨#[10]⟩ : ByteArray)) (L8_0 n (v4, v5, v6, v7, ((v8 ++ x22) ++ (⟨#[10]⟩ : ByteArray)), (w64 (v9 + 1))) s))))))))))))) else (some (O8_0.x1 v4 v8, s)))
def d8 (ds : List D) : Option (ByteArray) := match ds with
  | [.val (.string a0)] => some a0
  | _ => none
def r8 (v : AV) : Option (Bool) := match toPR v with
  | some (.one (.val (.bool a1))) => some a1
  | _ => none
def n8 : ByteArray → Option (Bool) := fun a0 => ((n33 a0).bind fun y2 => ((n34 a0).bind fun y3 => (bif (((y2.2.length : Nat) : Int) != ((y3.length : Nat) : Int)) then (some false) else ((L8_0 1000000000000 (a0, y2.1, y2.2, y3, (⟨#[]⟩ : ByteArray), 0) ()).bind fun p25 => match p25.1 with | .x0 z26 => (some z26) | .x1 z27 z28 => (bif (!(sEq z27 (⟨#[]⟩ : ByteArray))) then ((sidx z27 (w64 ((z27.size : Int) - 1))).bind fun c29 => (bif ((c29.toNat : Int) != 10) then (ask (catOk z27 (⟨#[10]⟩ : ByteArray)) (bif (sEq z28 (z27 ++ (⟨#[10]⟩ : ByteArray))) then ((n32 ()).bind fun y30 => (some y30)) else (some false))) else (bif (sEq z28 z27) then ((n32 ()).bind fun y31 => (some y31)) else (some false)))) else (bif (sEq z28 z27) then ((n32 ()).bind fun y32 => (some y32)) else (some false)))))))
def e8 : PureE := mkE d8 n8 (fun a1 => .one (.val (.bool a1)))
def g8 {σ : Type} : Nat → Option (SegE σ)
  | 0 => some (l8_0.seg σ (L8_0 1000000000000))
  | _ => none
theorem E8_0 {σ : Type} (Y : Yd σ) : ∀ n a (s : σ), L8_0 (n + 1) a s = evK (cfgOf Tryd.prog (tabs gl) tS7) (toldOf tS7) Y (inlN (cfgOf Tryd.prog (tabs gl) tS7) (toldOf tS7) Y) g8 8 (loopAt Tryd.f8 0) ((l8_0.toT σ).enc a s) (fun ex st' => l8_0.next (cfgOf Tryd.prog (tabs gl) tS7) 8 0 (L8_0 n) ex st') := by
  intro n ⟨v4, v5, v6, v7, v8, v9⟩ s
  kernel_rfl
theorem Q8_0 {σ : Type} (hl : LibFits2 gl) (Y : Yd σ) (rnd : Bool) : SegOk (cfgOf Tryd.prog (tabs gl) tS7) (evFn (cfgOf Tryd.prog (tabs gl) tS7) 9) 8 rnd Y (l8_0.seg σ (L8_0 1000000000000)) (.block 0 (.loop (loopAt Tryd.f8 0))) :=
  told_loop (okS7 hl) k8_0 (by kernel_rfl) (by kernel_rfl) (fun _ _ => rfl) (segs_no (by kernel_rfl)) (E8_0 Y)
theorem N8 : ∀ a, n8 a = bodyK (cfgOf Tryd.prog (tabs gl) tS7) (toldOf tS7) noY (inlN (cfgOf Tryd.prog (tabs gl) tS7) (toldOf tS7) noY) g8 8 Tryd.f8 (((fun a0 => [.val (.string a0)] : (ByteArray) → List D) a).map .d) [] [] () (fun v _ _ _ => r8 v) := by
  intro a0
  kernel_rfl
noncomputable def t8 : Tab := (8, e8) :: tS7
theorem ok8 (hl : LibFits2 gl) : TabOk Tryd.prog gl t8 :=
  told_fn (okS7 hl) mixed oddOk Tryd.func8 (by kernel_rfl) (by kernel_rfl) (by kernel_rfl) (fun p hp e he => by
    have hq : segsOf (σ := Unit) (g8 (σ := Unit)) (bodyOf Tryd.f8) = [(0, .loop (loopAt Tryd.f8 0))] := by kernel_rfl
    rw [hq] at hp
    simp only [List.mem_cons, List.not_mem_nil, or_false] at hp
    subst hp
    cases he
    exact Q8_0 hl _ _)
    (args := fun a0 => [.val (.string a0)]) (res := r8)
    (fun ds a h => by
      unfold d8 at h
      split at h
      · cases h; rfl
      · cases h)
    (fun v r h => by
      unfold r8 at h
      split at h
      · rename_i hv; cases h; exact hv
      · cases h)
    N8

/-! sextant/sextantlaw02.TextCut -/
abbrev A10_2 := ByteArray × List D × Int × Int × Int
inductive O10_2 where
  | x0 (o19 : Bool)
  | x1 (o26 : ByteArray) (o27 : List D) (o28 : Int) (o29 : Int)
def l10_2 : LoopS A10_2 O10_2 where
  n := 136
  ks := [0, 5, 7, 8, 9]
  kso := [0, 4, 5, 7, 8]
  m := 0
  mt := 0
  decV := fun vs bs ts => match vs, bs, ts with
    | [.d (.val (.string v12)), .d (.slice v13), .d (.val (.int .i64 v14)), .d (.val (.int .i64 v15)), .d (.val (.int .i64 v16))], [], [] => some (v12, v13, v14, v15, v16)
    | _, _, _ => none
  encV := fun (v12, v13, v14, v15, v16) => [.d (.val (.string v12)), .d (.slice v13), .d (.val (.int .i64 v14)), .d (.val (.int .i64 v15)), .d (.val (.int .i64 v16))]
  encB := fun (v12, v13, v14, v15, v16) => []
  tk := fun _ => []
  decO := fun ex vs bs ts => match ex, vs, bs, ts with
    | .ret, [.undef, .d (.val (.bool o19)), .undef, .undef, .undef], [], [] => some (.x0 o19)
    | .normal, [.d (.val (.string o26)), .undef, .d (.slice o27), .d (.val (.int .i64 o28)), .d (.val (.int .i64 o29))], [], [] => some (.x1 o26 o27 o28 o29)
    | _, _, _, _ => none
  exO := fun x => match x with
    | .x0 o19 => .ret
    | .x1 o26 o27 o28 o29 => .normal
  outV := fun x => match x with
    | .x0 o19 => [.undef, .d (.val (.bool o19)), .undef, .undef, .undef]
    | .x1 o26 o27 o28 o29 => [.d (.val (.string o26)), .undef, .d (.slice o27), .d (.val (.int .i64 o28)), .d (.val (.int .i64 o29))]
  outB := fun x => match x with
    | .x0 o19 => []
    | .x1 o26 o27 o28 o29 => []
  tkO := fun x => match x with
    | .x0 o19 => []
    | .x1 o26 o27 o28 o29 => []
  elim := fun x k => match x with
    | .x0 o19 => k .ret [.undef, .d (.val (.bool o19)), .undef, .undef, .undef] [] []
    | .x1 o26 o27 o28 o29 => k .normal [.d (.val (.string o26)), .undef, .d (.slice o27), .d (.val (.int .i64 o28)), .d (.val (.int .i64 o29))] [] []
theorem k10_2 : l10_2.Ok where
  ok1 := by kernel_rfl
  ok2 := by kernel_rfl
  dec := by
    intro vs bs ts a h
    simp only [l10_2] at h ⊢
    split at h
    · cases h; exact ⟨rfl, rfl⟩
    · cases h
  out := by
    intro ex vs bs ts o h
    simp only [l10_2] at h ⊢
    split at h
    · cases h; exact ⟨rfl, rfl, rfl⟩
    · cases h; exact ⟨rfl, rfl, rfl⟩
    · cases h
  len := fun _ => ⟨rfl, rfl⟩
  elim := fun β o k => by cases o <;> rfl
def L10_2 {σ : Type} : Nat → A10_2 → σ → Option (O10_2 × σ)
  | 0, _, _ => none
  | n+1, (v12, v13, v14, v15, v16), s => (bif (decide (v16 < v15)) then ((sidx v12 v16).bind fun c17 => (bif (bif ((c17.toNat : Int) == 35) then (v14 == ((v13.length : Nat) : Int)) else false) then (bif (v16 == 0) then ((n32 ()).bind fun y18 => (some (O10_2.x0 y18, s))) else ((sidx v12 (w64 (v16 - 1))).bind fun c20 => (bif ((c20.toNat : Int) == 32) then ((n32 ()).bind fun y21 => (some (O10_2.x0 y21, s))) else ((sidx v12 (w64 (v16 - 1))).bind fun c22 => (bif ((c22.toNat : Int) == 9) then ((n32 ()).bind fun y23 => (some (O10_2.x0 y23, s))) else ((sidx v12 (w64 (v16 - 1))).bind fun c24 => (bif ((c24.toNat : Int) == 13) then ((n32 ()).bind fun y25 => (some (O10_2.x0 y25, s))) else (bif (bif (bif ((c17.toNat : Int) != 32) then ((c17.toNat : Int) != 9) else false) then ((c17.toNat : Int) != 13) else false) then (some (O10_2.x0 false, s)) else (L10_2 n (v12, v13, v14, v15, (w64 (v16 + 1))) s))))))))) else (bif (bif (bif ((c17.toNat : Int) != 32) then ((c17.toNat : Int) != 9) else false) then ((c17.toNat : Int) != 13) else false) then (some (O10_2.x0 false, s)) else (L10_2 n (v12, v13, v14, v15, (w64 (v16 + 1))) s)))) else (some (O10_2.x1 v12 v13 v14 v15, s)))

abbrev A10_0 := ByteArray × List D × Int × Int
inductive O10_0 where
  | x0 (o11 : Bool)
  | x1 
def l10_0 : LoopS A10_0 O10_0 where
  n := 136
  ks := [0, 5, 6, 7]
  kso := [4]
  m := 0
  mt := 0
  decV := fun vs bs ts => match vs, bs, ts with
    | [.d (.val (.string v4)), .d (.slice v5), .d (.val (.int .i64 v6)), .d (.val (.int .i64 v7))], [], [] => some (v4, v5, v6, v7)
    | _, _, _ => none
  encV := fun (v4, v5, v6, v7) => [.d (.val (.string v4)), .d (.slice v5), .d (.val (.int .i64 v6)), .d (.val (.int .i64 v7))]
  encB := fun (v4, v5, v6, v7) => []
  tk := fun _ => []
  decO := fun ex vs bs ts => match ex, vs, bs, ts with
    | .ret, [.d (.val (.bool o11))], [], [] => some (.x0 o11)
    | .normal, [.undef], [], [] => some (.x1 )
    | _, _, _, _ => none
  exO := fun x => match x with
    | .x0 o11 => .ret
    | .x1  => .normal
  outV := fun x => match x with
    | .x0 o11 => [.d (.val (.bool o11))]
    | .x1  => [.undef]
  outB := fun x => match x with
    | .x0 o11 => []
    | .x1  => []
  tkO := fun x => match x with
    | .x0 o11 => []
    | .x1  => []
  elim := fun x k => match x with
    | .x0 o11 => k .ret [.d (.val (.bool o11))] [] []
    | .x1  => k .normal [.undef] [] []
theorem k10_0 : l10_0.Ok where
  ok1 := by kernel_rfl
  ok2 := by kernel_rfl
  dec := by
    intro vs bs ts a h
    simp only [l10_0] at h ⊢
    split at h
    · cases h; exact ⟨rfl, rfl⟩
    · cases h
  out := by
    intro ex vs bs ts o h
    simp only [l10_0] at h ⊢
    split at h
    · cases h; exact ⟨rfl, rfl, rfl⟩
    · cases h; exact ⟨rfl, rfl, rfl⟩
    · cases h
  len := fun _ => ⟨rfl, rfl⟩
  elim := fun β o k => by cases o <;> rfl
def L10_0 {σ : Type} : Nat → A10_0 → σ → Option (O10_0 × σ)
  | 0, _, _ => none
  | n+1, (v4, v5, v6, v7), s => (bif (decide (v7 ≤ ((v5.length : Nat) : Int))) then (bif (decide (v7 < ((v5.length : Nat) : Int))) then ((lidx v5 v7).bind fun d8 => ask (d8.cells.length = 4) ((cellAt 1 d8).bind fun x9 => (asInt .i64 x9).bind fun x10 => (bif (bif (decide (x10 < v6)) then true else (decide (x10 > (v4.size : Int)))) then (some (O10_0.x0 false, s)) else ((L10_2 1000000000000 (v4, v5, v7, x10, v6) s).bind fun p30 => match p30.1 with | .x0 z31 => (some (O10_0.x0 z31, p30.2)) | .x1 z32 z33 z34 z35 => (bif (z34 == ((z33.length : Nat) : Int)) then (some (O10_0.x1 , p30.2)) else ((lidx z33 z34).bind fun d36 => ask (d36.cells.length = 4) ((cellAt 0 d36).bind fun x37 => (asStr x37).bind fun x38 => (bif (sEq x38 (⟨#[]⟩ : ByteArray)) then (some (O10_0.x0 false, p30.2)) else ((sidx x38 0).bind fun c39 => (bif (bif ((c39.toNat : Int) == 35) then true else (decide ((w64 (z35 + (x38.size : Int))) > (z32.size : Int)))) then (some (O10_0.x0 false, p30.2)) else (ask (cutOk z35 (w64 (z35 + (x38.size : Int))) z32.size) (bif (!(sEq (z32.extract (Int.toNat z35) (Int.toNat (w64 (z35 + (x38.size : Int))))) x38)) then (some (O10_0.x0 false, p30.2)) else (L10_0 n (z32, z33, (w64 (z35 + (x38.size : Int))), (w64 (z34 + 1))) p30.2))))))))))))) else (bif (bif (decide ((v4.size : Int) < v6)) then true else (decide ((v4.size : Int) > (v4.size : Int)))) then (some (O10_0.x0 false, s)) else ((L10_2 1000000000000 (v4, v5, v7, (v4.size : Int), v6) s).bind fun p58 => match p58.1 with | .x0 z59 => (some (O10_0.x0 z59, p58.2)) | .x1 z60 z61 z62 z63 => (bif (z62 == ((z61.length : Nat) : Int)) then (some (O10_0.x1 , p58.2)) else ((lidx z61 z62).bind fun d64 => ask (d64.cells.length = 4) ((cellAt 0 d64).bind fun x65 => (asStr x65).bind fun x66 => (bif (sEq x66 (⟨#[]⟩ : ByteArray)) then (some (O10_0.x0 false, p58.2)) else ((sidx x66 0).bind fun c67 => (bif (bif ((c67.toNat : Int) == 35) then true else (decide ((w64 (z63 + (x66.size : Int))) > (z60.size : Int)))) then (some (O10_0.x0 false, p58.2)) else (ask (cutOk z63 (w64 (z63 + (x66.size : Int))) z60.size) (bif (!(sEq (z60.extract (Int.toNat z63) (Int.toNat (w64 (z63 + (x66.size : Int))))) x66)) then (some (O10_0.x0 false, p58.2)) else (L10_0 n (z60, z61, (w64 (z63 + (x66.size : Int))), (w64 (z62 + 1))) p58.2)))))))))))) else (some (O10_0.x1 , s)))
def d10 (ds : List D) : Option (ByteArray × Int) := match ds with
  | [.val (.string a0), .val (.int .i64 a1)] => some (a0, a1)
  | _ => none
def r10 (v : AV) : Option (Bool) := match toPR v with
  | some (.one (.val (.bool a2))) => some a2
  | _ => none
def n10 : ByteArray × Int → Option (Bool) := fun (a0, a1) => ((n35 (a0, a1)).bind fun y3 => ((L10_0 1000000000000 (a0, y3, 0, 0) ()).bind fun p68 => match p68.1 with | .x0 z69 => (some z69) | .x1  => ((n32 ()).bind fun y70 => (some y70))))
def e10 : PureE := mkE d10 n10 (fun a2 => .one (.val (.bool a2)))
def g10 {σ : Type} : Nat → Option (SegE σ)
  | 2 => some (l10_2.seg σ (L10_2 1000000000000))
  | 0 => some (l10_0.seg σ (L10_0 1000000000000))
  | _ => none
theorem E10_2 {σ : Type} (Y : Yd σ) : ∀ n a (s : σ), L10_2 (n + 1) a s = evK (cfgOf Tryd.prog (tabs gl) tS7) (toldOf tS7) Y (inlN (cfgOf Tryd.prog (tabs gl) tS7) (toldOf tS7) Y) g10 10 (loopAt Tryd.f10 2) ((l10_2.toT σ).enc a s) (fun ex st' => l10_2.next (cfgOf Tryd.prog (tabs gl) tS7) 10 2 (L10_2 n) ex st') := by
  intro n ⟨v12, v13, v14, v15, v16⟩ s
  kernel_rfl
theorem Q10_2 {σ : Type} (hl : LibFits2 gl) (Y : Yd σ) (rnd : Bool) : SegOk (cfgOf Tryd.prog (tabs gl) tS7) (evFn (cfgOf Tryd.prog (tabs gl) tS7) 9) 10 rnd Y (l10_2.seg σ (L10_2 1000000000000)) (.block 2 (.loop (loopAt Tryd.f10 2))) :=
  told_loop (okS7 hl) k10_2 (by kernel_rfl) (by kernel_rfl) (fun _ _ => rfl) (segs_no (by kernel_rfl)) (E10_2 Y)
theorem E10_0 {σ : Type} (Y : Yd σ) : ∀ n a (s : σ), L10_0 (n + 1) a s = evK (cfgOf Tryd.prog (tabs gl) tS7) (toldOf tS7) Y (inlN (cfgOf Tryd.prog (tabs gl) tS7) (toldOf tS7) Y) g10 10 (loopAt Tryd.f10 0) ((l10_0.toT σ).enc a s) (fun ex st' => l10_0.next (cfgOf Tryd.prog (tabs gl) tS7) 10 0 (L10_0 n) ex st') := by
  intro n ⟨v4, v5, v6, v7⟩ s
  kernel_rfl
theorem Q10_0 {σ : Type} (hl : LibFits2 gl) (Y : Yd σ) (rnd : Bool) : SegOk (cfgOf Tryd.prog (tabs gl) tS7) (evFn (cfgOf Tryd.prog (tabs gl) tS7) 9) 10 rnd Y (l10_0.seg σ (L10_0 1000000000000)) (.block 0 (.loop (loopAt Tryd.f10 0))) :=
  told_loop (okS7 hl) k10_0 (by kernel_rfl) (by kernel_rfl) (fun _ _ => rfl) (fun p hp e he => by
    have hq : segsOf (σ := σ) (g10 (σ := σ)) (loopAt Tryd.f10 0) = [(2, .loop (loopAt Tryd.f10 2))] := by kernel_rfl
    rw [hq] at hp
    simp only [List.mem_cons, List.not_mem_nil, or_false] at hp
    subst hp
    cases he
    exact Q10_2 hl _ _) (E10_0 Y)
theorem N10 : ∀ a, n10 a = bodyK (cfgOf Tryd.prog (tabs gl) tS7) (toldOf tS7) noY (inlN (cfgOf Tryd.prog (tabs gl) tS7) (toldOf tS7) noY) g10 10 Tryd.f10 (((fun (a0, a1) => [.val (.string a0), .val (.int .i64 a1)] : (ByteArray × Int) → List D) a).map .d) [] [] () (fun v _ _ _ => r10 v) := by
  intro a
  obtain ⟨a0, a1⟩ := a
  kernel_rfl
noncomputable def t10 : Tab := (10, e10) :: tS7
theorem ok10 (hl : LibFits2 gl) : TabOk Tryd.prog gl t10 :=
  told_fn (okS7 hl) mixed oddOk Tryd.func10 (by kernel_rfl) (by kernel_rfl) (by kernel_rfl) (fun p hp e he => by
    have hq : segsOf (σ := Unit) (g10 (σ := Unit)) (bodyOf Tryd.f10) = [(0, .loop (loopAt Tryd.f10 0))] := by kernel_rfl
    rw [hq] at hp
    simp only [List.mem_cons, List.not_mem_nil, or_false] at hp
    subst hp
    cases he
    exact Q10_0 hl _ _)
    (args := fun (a0, a1) => [.val (.string a0), .val (.int .i64 a1)]) (res := r10)
    (fun ds a h => by
      unfold d10 at h
      split at h
      · cases h; rfl
      · cases h)
    (fun v r h => by
      unfold r10 at h
      split at h
      · rename_i hv; cases h; exact hv
      · cases h)
    N10

/-! sextant/sextantlaw02.TextNames -/
def d11 (ds : List D) : Option (Int × ByteArray) := match ds with
  | [.val (.int .i32 a0), .val (.string a1)] => some (a0, a1)
  | _ => none
def r11 (v : AV) : Option (Bool) := match toPR v with
  | some (.one (.val (.bool a2))) => some a2
  | _ => none
def n11 : Int × ByteArray → Option (Bool) := fun (a0, a1) => ((n37 a0).bind fun y3 => ((n38 (w64 a0)).bind fun y4 => (bif (y3 == y4) then ((n40 a1).bind fun y5 => ((n39 y5).bind fun y6 => ((n41 a1).bind fun y7 => (bif ((y6 == 0) == y7) then ((n40 a1).bind fun y8 => ((n39 y8).bind fun y9 => (bif (y9 == 0) then ((n32 ()).bind fun y10 => (some y10)) else ((n40 a1).bind fun y11 => ((n39 y11).bind fun y12 => (bif (y12 == 21) then ((n32 ()).bind fun y13 => (some y13)) else (some false))))))) else (some false))))) else (some false))))
def e11 : PureE := mkE d11 n11 (fun a2 => .one (.val (.bool a2)))
def g11 {σ : Type} : Nat → Option (SegE σ)
  | _ => none
theorem N11 : ∀ a, n11 a = bodyK (cfgOf Tryd.prog (tabs gl) tS7) (toldOf tS7) noY (inlN (cfgOf Tryd.prog (tabs gl) tS7) (toldOf tS7) noY) g11 11 Tryd.f11 (((fun (a0, a1) => [.val (.int .i32 a0), .val (.string a1)] : (Int × ByteArray) → List D) a).map .d) [] [] () (fun v _ _ _ => r11 v) := by
  intro a
  obtain ⟨a0, a1⟩ := a
  kernel_rfl
noncomputable def t11 : Tab := (11, e11) :: tS7
theorem ok11 (hl : LibFits2 gl) : TabOk Tryd.prog gl t11 :=
  told_fn (okS7 hl) mixed oddOk Tryd.func11 (by kernel_rfl) (by kernel_rfl) (by kernel_rfl) (segs_no (by kernel_rfl))
    (args := fun (a0, a1) => [.val (.int .i32 a0), .val (.string a1)]) (res := r11)
    (fun ds a h => by
      unfold d11 at h
      split at h
      · cases h; rfl
      · cases h)
    (fun v r h => by
      unfold r11 at h
      split at h
      · rename_i hv; cases h; exact hv
      · cases h)
    N11

/-! sextant/sextantlaw02.TextDecimals -/
def d12 (ds : List D) : Option (Int × ByteArray) := match ds with
  | [.val (.int .i64 a0), .val (.string a1)] => some (a0, a1)
  | _ => none
def r12 (v : AV) : Option (Bool) := match toPR v with
  | some (.one (.val (.bool a2))) => some a2
  | _ => none
def n12 : Int × ByteArray → Option (Bool) := fun (a0, a1) => ((n42 a1).bind fun y3 => ((n43 a1).bind fun y4 => ((n44 a0).bind fun y5 => ((n42 y5).bind fun y6 => (bif (y3.1 == y4.1) then ((n39 y3.2).bind fun y7 => (bif (bif (y7 == y4.2) then (y6.1 == a0) else false) then ((n39 y6.2).bind fun y8 => (bif (y8 == 0) then ((n44 a0).bind fun y9 => ((n45 a0).bind fun y10 => (bif (sEq y9 y10) then ((n32 ()).bind fun y11 => (some y11)) else (some false)))) else (some false))) else (some false))) else (some false))))))
def e12 : PureE := mkE d12 n12 (fun a2 => .one (.val (.bool a2)))
def g12 {σ : Type} : Nat → Option (SegE σ)
  | _ => none
theorem N12 : ∀ a, n12 a = bodyK (cfgOf Tryd.prog (tabs gl) tS7) (toldOf tS7) noY (inlN (cfgOf Tryd.prog (tabs gl) tS7) (toldOf tS7) noY) g12 12 Tryd.f12 (((fun (a0, a1) => [.val (.int .i64 a0), .val (.string a1)] : (Int × ByteArray) → List D) a).map .d) [] [] () (fun v _ _ _ => r12 v) := by
  intro a
  obtain ⟨a0, a1⟩ := a
  kernel_rfl
noncomputable def t12 : Tab := (12, e12) :: tS7
theorem ok12 (hl : LibFits2 gl) : TabOk Tryd.prog gl t12 :=
  told_fn (okS7 hl) mixed oddOk Tryd.func12 (by kernel_rfl) (by kernel_rfl) (by kernel_rfl) (segs_no (by kernel_rfl))
    (args := fun (a0, a1) => [.val (.int .i64 a0), .val (.string a1)]) (res := r12)
    (fun ds a h => by
      unfold d12 at h
      split at h
      · cases h; rfl
      · cases h)
    (fun v r h => by
      unfold r12 at h
      split at h
      · rename_i hv; cases h; exact hv
      · cases h)
    N12

/-! sextant/sextantlaw02.TextQuotes -/
def d13 (ds : List D) : Option (ByteArray × ByteArray) := match ds with
  | [.val (.string a0), .val (.string a1)] => some (a0, a1)
  | _ => none
def r13 (v : AV) : Option (Bool) := match toPR v with
  | some (.one (.val (.bool a2))) => some a2
  | _ => none
def n13 : ByteArray × ByteArray → Option (Bool) := fun (a0, a1) => ((n46 a1).bind fun y3 => ((n47 a1).bind fun y4 => ((n48 a0).bind fun y5 => ((n46 y5).bind fun y6 => (bif (sEq y3.1 y4.1) then ((n39 y3.2).bind fun y7 => (bif (y7 == y4.2) then ((n49 a0).bind fun y8 => (bif (bif (sEq y5 y8) then (sEq y6.1 a0) else false) then ((n39 y6.2).bind fun y9 => (bif (y9 == 0) then ((n39 y3.2).bind fun y10 => (bif (y10 != 0) then ((n32 ()).bind fun y11 => (some y11)) else ((n48 y3.1).bind fun y12 => (bif (sEq y12 a1) then ((n32 ()).bind fun y13 => (some y13)) else (some false))))) else (some false))) else (some false))) else (some false))) else (some false))))))
def e13 : PureE := mkE d13 n13 (fun a2 => .one (.val (.bool a2)))
def g13 {σ : Type} : Nat → Option (SegE σ)
  | _ => none
theorem N13 : ∀ a, n13 a = bodyK (cfgOf Tryd.prog (tabs gl) tS7) (toldOf tS7) noY (inlN (cfgOf Tryd.prog (tabs gl) tS7) (toldOf tS7) noY) g13 13 Tryd.f13 (((fun (a0, a1) => [.val (.string a0), .val (.string a1)] : (ByteArray × ByteArray) → List D) a).map .d) [] [] () (fun v _ _ _ => r13 v) := by
  intro a
  obtain ⟨a0, a1⟩ := a
  kernel_rfl
noncomputable def t13 : Tab := (13, e13) :: tS7
theorem ok13 (hl : LibFits2 gl) : TabOk Tryd.prog gl t13 :=
  told_fn (okS7 hl) mixed oddOk Tryd.func13 (by kernel_rfl) (by kernel_rfl) (by kernel_rfl) (segs_no (by kernel_rfl))
    (args := fun (a0, a1) => [.val (.string a0), .val (.string a1)]) (res := r13)
    (fun ds a h => by
      unfold d13 at h
      split at h
      · cases h; rfl
      · cases h)
    (fun v r h => by
      unfold r13 at h
      split at h
      · rename_i hv; cases h; exact hv
      · cases h)
    N13

/-! sextant/sextantlaw02.TextPads -/
def d14 (ds : List D) : Option (ByteArray × Int) := match ds with
  | [.val (.string a0), .val (.int .i64 a1)] => some (a0, a1)
  | _ => none
def r14 (v : AV) : Option (Bool) := match toPR v with
  | some (.one (.val (.bool a2))) => some a2
  | _ => none
def n14 : ByteArray × Int → Option (Bool) := fun (a0, a1) => ((n50 (a0, a1)).bind fun y3 => ((n51 (a0, a1)).bind fun y4 => (bif (sEq y3.1 y4.1) then ((n39 y3.2).bind fun y5 => (bif (y5 == y4.2) then (bif (y4.2 != 0) then ((n32 ()).bind fun y6 => (some y6)) else ((n52 y3.1).bind fun y7 => ((n52 a0).bind fun y8 => (bif (y7 == (if y8 > a1 then y8 else a1)) then ((n32 ()).bind fun y9 => (some y9)) else (some false))))) else (some false))) else (some false))))
def e14 : PureE := mkE d14 n14 (fun a2 => .one (.val (.bool a2)))
def g14 {σ : Type} : Nat → Option (SegE σ)
  | _ => none
theorem N14 : ∀ a, n14 a = bodyK (cfgOf Tryd.prog (tabs gl) tS7) (toldOf tS7) noY (inlN (cfgOf Tryd.prog (tabs gl) tS7) (toldOf tS7) noY) g14 14 Tryd.f14 (((fun (a0, a1) => [.val (.string a0), .val (.int .i64 a1)] : (ByteArray × Int) → List D) a).map .d) [] [] () (fun v _ _ _ => r14 v) := by
  intro a
  obtain ⟨a0, a1⟩ := a
  kernel_rfl
noncomputable def t14 : Tab := (14, e14) :: tS7
theorem ok14 (hl : LibFits2 gl) : TabOk Tryd.prog gl t14 :=
  told_fn (okS7 hl) mixed oddOk Tryd.func14 (by kernel_rfl) (by kernel_rfl) (by kernel_rfl) (segs_no (by kernel_rfl))
    (args := fun (a0, a1) => [.val (.string a0), .val (.int .i64 a1)]) (res := r14)
    (fun ds a h => by
      unfold d14 at h
      split at h
      · cases h; rfl
      · cases h)
    (fun v r h => by
      unfold r14 at h
      split at h
      · rename_i hv; cases h; exact hv
      · cases h)
    N14

/-! sextant/sextantlaw02.TextGoes -/
abbrev A16_0 := ByteArray × List D × List D × Int × Int × Int × Int
inductive O16_0 where
  | x0 (o18 : Bool) (o19 : Int) (o20 : Int) (o21 : Int)
  | x1 (o96 : ByteArray) (o97 : Int) (o98 : Int) (o99 : Int)
def l16_0 : LoopS A16_0 O16_0 where
  n := 141
  ks := [0, 3, 4, 5, 6]
  kso := [0, 2, 5]
  m := 1
  mt := 0
  decV := fun vs bs ts => match vs, bs, ts with
    | [.d (.val (.string v4)), .d (.slice v5), .d (.slice v6), .ptr 0 0, .d (.val (.int .i64 v7))], [.cells (some 25) [.d (.val (.int .i64 v8)), .d (.val (.int .i64 v9)), .d (.val (.int .i64 v10))]], [] => some (v4, v5, v6, v7, v8, v9, v10)
    | _, _, _ => none
  encV := fun (v4, v5, v6, v7, v8, v9, v10) => [.d (.val (.string v4)), .d (.slice v5), .d (.slice v6), .ptr 0 0, .d (.val (.int .i64 v7))]
  encB := fun (v4, v5, v6, v7, v8, v9, v10) => [.cells (some 25) [.d (.val (.int .i64 v8)), .d (.val (.int .i64 v9)), .d (.val (.int .i64 v10))]]
  tk := fun _ => []
  decO := fun ex vs bs ts => match ex, vs, bs, ts with
    | .ret, [.undef, .d (.val (.bool o18)), .undef], [.cells (some 25) [.d (.val (.int .i64 o19)), .d (.val (.int .i64 o20)), .d (.val (.int .i64 o21))]], [] => some (.x0 o18 o19 o20 o21)
    | .normal, [.d (.val (.string o96)), .undef, .ptr 0 0], [.cells (some 25) [.d (.val (.int .i64 o97)), .d (.val (.int .i64 o98)), .d (.val (.int .i64 o99))]], [] => some (.x1 o96 o97 o98 o99)
    | _, _, _, _ => none
  exO := fun x => match x with
    | .x0 o18 o19 o20 o21 => .ret
    | .x1 o96 o97 o98 o99 => .normal
  outV := fun x => match x with
    | .x0 o18 o19 o20 o21 => [.undef, .d (.val (.bool o18)), .undef]
    | .x1 o96 o97 o98 o99 => [.d (.val (.string o96)), .undef, .ptr 0 0]
  outB := fun x => match x with
    | .x0 o18 o19 o20 o21 => [.cells (some 25) [.d (.val (.int .i64 o19)), .d (.val (.int .i64 o20)), .d (.val (.int .i64 o21))]]
    | .x1 o96 o97 o98 o99 => [.cells (some 25) [.d (.val (.int .i64 o97)), .d (.val (.int .i64 o98)), .d (.val (.int .i64 o99))]]
  tkO := fun x => match x with
    | .x0 o18 o19 o20 o21 => []
    | .x1 o96 o97 o98 o99 => []
  elim := fun x k => match x with
    | .x0 o18 o19 o20 o21 => k .ret [.undef, .d (.val (.bool o18)), .undef] [.cells (some 25) [.d (.val (.int .i64 o19)), .d (.val (.int .i64 o20)), .d (.val (.int .i64 o21))]] []
    | .x1 o96 o97 o98 o99 => k .normal [.d (.val (.string o96)), .undef, .ptr 0 0] [.cells (some 25) [.d (.val (.int .i64 o97)), .d (.val (.int .i64 o98)), .d (.val (.int .i64 o99))]] []
theorem k16_0 : l16_0.Ok where
  ok1 := by kernel_rfl
  ok2 := by kernel_rfl
  dec := by
    intro vs bs ts a h
    simp only [l16_0] at h ⊢
    split at h
    · cases h; exact ⟨rfl, rfl⟩
    · cases h
  out := by
    intro ex vs bs ts o h
    simp only [l16_0] at h ⊢
    split at h
    · cases h; exact ⟨rfl, rfl, rfl⟩
    · cases h; exact ⟨rfl, rfl, rfl⟩
    · cases h
  len := fun _ => ⟨rfl, rfl⟩
  elim := fun β o k => by cases o <;> rfl
def L16_0 {σ : Type} : Nat → A16_0 → σ → Option (O16_0 × σ)
  | 0, _, _ => none
  | n+1, (v4, v5, v6, v7, v8, v9, v10), s => (bif (decide (v7 < ((v5.length : Nat) : Int))) then ((lidx v5 v7).bind fun d11 => ask (d11.cells.length = 3) ((cellAt 0 d11).bind fun x12 => (asInt .i64 x12).bind fun x13 => ((cellAt 1 d11).bind fun x14 => (asInt .i64 x14).bind fun x15 => ((cellAt 2 d11).bind fun x16 => (asInt .i64 x16).bind fun x17 => (bif (!((x13 == v8) && ((x15 == v9) && ((x17 == v10) && true)))) then (some (O16_0.x0 false v8 v9 v10, s)) else ((lidx v5 v7).bind fun d22 => ask (d22.cells.length = 3) ((cellAt 0 d22).bind fun x23 => (asInt .i64 x23).bind fun x24 => ((n56 (v4, x24)).bind fun y25 => ((lidx v5 v7).bind fun d26 => ask (d26.cells.length = 3) ((cellAt 0 d26).bind fun x27 => (asInt .i64 x27).bind fun x28 => ((cellAt 1 d26).bind fun x29 => (asInt .i64 x29).bind fun x30 => ((cellAt 2 d26).bind fun x31 => (asInt .i64 x31).bind fun x32 => (bif (!((y25.1 == x28) && ((y25.2.1 == x30) && ((y25.2.2 == x32) && true)))) then (some (O16_0.x0 false v8 v9 v10, s)) else (bif (decide ((w64 (v7 + 1)) < ((v5.length : Nat) : Int))) then ((lidx v5 (w64 (v7 + 1))).bind fun d33 => ask (d33.cells.length = 3) ((cellAt 0 d33).bind fun x34 => (asInt .i64 x34).bind fun x35 => ((lidx v5 v7).bind fun d36 => ask (d36.cells.length = 3) ((cellAt 0 d36).bind fun x37 => (asInt .i64 x37).bind fun x38 => (bif (bif (decide (x35 ≤ x38)) then true else (decide (x35 > (v4.size : Int)))) then (some (O16_0.x0 false v8 v9 v10, s)) else ((lidx v5 v7).bind fun d39 => ask (d39.cells.length = 3) ((cellAt 0 d39).bind fun x40 => (asInt .i64 x40).bind fun x41 => (ask (cutOk x41 x35 v4.size) ((lidx v6 v7).bind fun d42 => ask (d42.cells.length = 1) ((cellAt 0 d42).bind fun x43 => (asInt .i32 x43).bind fun x44 => (bif (decide (x44 ≥ 0)) then ((lidx v6 v7).bind fun d45 => ask (d45.cells.length = 1) ((cellAt 0 d45).bind fun x46 => (asInt .i32 x46).bind fun x47 => (bif (!(sEq (Utf8.encode x47) (v4.extract (Int.toNat x41) (Int.toNat x35)))) then (some (O16_0.x0 false v8 v9 v10, s)) else ((lidx v6 v7).bind fun d48 => ask (d48.cells.length = 1) ((cellAt 0 d48).bind fun x49 => (asInt .i32 x49).bind fun x50 => (bif (decide (x50 < 0)) then (bif (((v4.extract (Int.toNat x41) (Int.toNat x35)).size : Int) != 1) then (some (O16_0.x0 false v8 v9 v10, s)) else ((lidx v6 v7).bind fun d51 => ask (d51.cells.length = 1) ((cellAt 0 d51).bind fun x52 => (asInt .i32 x52).bind fun x53 => (bif (x53 == 10) then (L16_0 n (v4, v5, v6, (w64 (v7 + 1)), x35, (w64 (v9 + 1)), 1) s) else (L16_0 n (v4, v5, v6, (w64 (v7 + 1)), x35, v9, (w64 (v10 + 1))) s))))) else ((lidx v6 v7).bind fun d54 => ask (d54.cells.length = 1) ((cellAt 0 d54).bind fun x55 => (asInt .i32 x55).bind fun x56 => (bif (x56 == 10) then (L16_0 n (v4, v5, v6, (w64 (v7 + 1)), x35, (w64 (v9 + 1)), 1) s) else (L16_0 n (v4, v5, v6, (w64 (v7 + 1)), x35, v9, (w64 (v10 + 1))) s)))))))))) else ((lidx v6 v7).bind fun d57 => ask (d57.cells.length = 1) ((cellAt 0 d57).bind fun x58 => (asInt .i32 x58).bind fun x59 => (bif (decide (x59 < 0)) then (bif (((v4.extract (Int.toNat x41) (Int.toNat x35)).size : Int) != 1) then (some (O16_0.x0 false v8 v9 v10, s)) else ((lidx v6 v7).bind fun d60 => ask (d60.cells.length = 1) ((cellAt 0 d60).bind fun x61 => (asInt .i32 x61).bind fun x62 => (bif (x62 == 10) then (L16_0 n (v4, v5, v6, (w64 (v7 + 1)), x35, (w64 (v9 + 1)), 1) s) else (L16_0 n (v4, v5, v6, (w64 (v7 + 1)), x35, v9, (w64 (v10 + 1))) s))))) else ((lidx v6 v7).bind fun d63 => ask (d63.cells.length = 1) ((cellAt 0 d63).bind fun x64 => (asInt .i32 x64).bind fun x65 => (bif (x65 == 10) then (L16_0 n (v4, v5, v6, (w64 (v7 + 1)), x35, (w64 (v9 + 1)), 1) s) else (L16_0 n (v4, v5, v6, (w64 (v7 + 1)), x35, v9, (w64 (v10 + 1))) s)))))))))))))))))) else ((lidx v5 v7).bind fun d66 => ask (d66.cells.length = 3) ((cellAt 0 d66).bind fun x67 => (asInt .i64 x67).bind fun x68 => (bif (bif (decide ((v4.size : Int) ≤ x68)) then true else (decide ((v4.size : Int) > (v4.size : Int)))) then (some (O16_0.x0 false v8 v9 v10, s)) else ((lidx v5 v7).bind fun d69 => ask (d69.cells.length = 3) ((cellAt 0 d69).bind fun x70 => (asInt .i64 x70).bind fun x71 => (ask (cutOk x71 (v4.size : Int) v4.size) ((lidx v6 v7).bind fun d72 => ask (d72.cells.length = 1) ((cellAt 0 d72).bind fun x73 => (asInt .i32 x73).bind fun x74 => (bif (decide (x74 ≥ 0)) then ((lidx v6 v7).bind fun d75 => ask (d75.cells.length = 1) ((cellAt 0 d75).bind fun x76 => (asInt .i32 x76).bind fun x77 => (bif (!(sEq (Utf8.encode x77) (v4.extract (Int.toNat x71) (Int.toNat (v4.size : Int))))) then (some (O16_0.x0 false v8 v9 v10, s)) else ((lidx v6 v7).bind fun d78 => ask (d78.cells.length = 1) ((cellAt 0 d78).bind fun x79 => (asInt .i32 x79).bind fun x80 => (bif (decide (x80 < 0)) then (bif (((v4.extract (Int.toNat x71) (Int.toNat (v4.size : Int))).size : Int) != 1) then (some (O16_0.x0 false v8 v9 v10, s)) else ((lidx v6 v7).bind fun d81 => ask (d81.cells.length = 1) ((cellAt 0 d81).bind fun x82 => (asInt .i32 x82).bind fun x83 => (bif (x83 == 10) then (L16_0 n (v4, v5, v6, (w64 (v7 + 1)), (v4.size : Int), (w64 (v9 + 1)), 1) s) else (L16_0 n (v4, v5, v6, (w64 (v7 + 1)), (v4.size : Int), v9, (w64 (v10 + 1))) s))))) else ((lidx v6 v7).bind fun d84 => ask (d84.cells.length = 1) ((cellAt 0 d84).bind fun x85 => (asInt .i32 x85).bind fun x86 => (bif (x86 == 10) then (L16_0 n (v4, v5, v6, (w64 (v7 + 1)), (v4.size : Int), (w64 (v9 + 1)), 1) s) else (L16_0 n (v4, v5, v6, (w64 (v7 + 1)), (v4.size : Int), v9, (w64 (v10 + 1))) s)))))))))) else ((lidx v6 v7).bind fun d87 => ask (d87.cells.length = 1) ((cellAt 0 d87).bind fun x88 => (asInt .i32 x88).bind fun x89 => (bif (decide (x89 < 0)) then (bif (((v4.extract (Int.toNat x71) (Int.toNat (v4.size : Int))).size : Int) != 1) then (some (O16_0.x0 false v8 v9 v10, s)) else ((lidx v6 v7).bind fun d90 => ask (d90.cells.length = 1) ((cellAt 0 d90).bind fun x91 => (asInt .i32 x91).bind fun x92 => (bif (x92 == 10) then (L16_0 n (v4, v5, v6, (w64 (v7 + 1)), (v4.size : Int), (w64 (v9 + 1)), 1) s) else (L16_0 n (v4, v5, v6, (w64 (v7 + 1)), (v4.size : Int), v9, (w64 (v10 + 1))) s))))) else ((lidx v6 v7).bind fun d93 => ask (d93.cells.length = 1) ((cellAt 0 d93).bind fun x94 => (asInt .i32 x94).bind fun x95 => (bif (x95 == 10) then (L16_0 n (v4, v5, v6, (w64 (v7 + 1)), (v4.size : Int), (w64 (v9 + 1)), 1) s) else (L16_0 n (v4, v5, v6, (w64 (v7 + 1)), (v4.size : Int), v9, (w64 (v10 + 1))) s)))))))))))))))))))))))))))))) else (some (O16_0.x1 v4 v8 v9 v10, s)))
def d16 (ds : List D) : Option (ByteArray) := match ds with
  | [.val (.string a0)] => some a0
  | _ => none
def r16 (v : AV) : Option (Bool) := match toPR v with
  | some (.one (.val (.bool a1))) => some a1
  | _ => none
def n16 : ByteArray → Option (Bool) := fun a0 => ((n28 a0).bind fun y2 => ((n52 a0).bind fun y3 => (bif (((y2.1.length : Nat) : Int) != y3) then (some false) else (bif (decide ((a0.size : Int) > 0)) then (bif (((y2.1.length : Nat) : Int) == 0) then (some false) else ((L16_0 1000000000000 (a0, y2.1, y2.2, 0, 0, 1, 1) ()).bind fun p100 => match p100.1 with | .x0 z101 z102 z103 z104 => (some z101) | .x1 z105 z106 z107 z108 => (bif (z106 == (z105.size : Int)) then ((n32 ()).bind fun y109 => (some y109)) else (some false)))) else ((L16_0 1000000000000 (a0, y2.1, y2.2, 0, 0, 1, 1) ()).bind fun p206 => match p206.1 with | .x0 z207 z208 z209 z210 => (some z207) | .x1 z211 z212 z213 z214 => (bif (z212 == (z211.size : Int)) then ((n32 ()).bind fun y215 => (some y215)) else (some false)))))))
def e16 : PureE := mkE d16 n16 (fun a1 => .one (.val (.bool a1)))
def g16 {σ : Type} : Nat → Option (SegE σ)
  | 0 => some (l16_0.seg σ (L16_0 1000000000000))
  | _ => none
theorem E16_0 {σ : Type} (Y : Yd σ) : ∀ n a (s : σ), L16_0 (n + 1) a s = evK (cfgOf Tryd.prog (tabs gl) tS7) (toldOf tS7) Y (inlN (cfgOf Tryd.prog (tabs gl) tS7) (toldOf tS7) Y) g16 16 (loopAt Tryd.f16 0) ((l16_0.toT σ).enc a s) (fun ex st' => l16_0.next (cfgOf Tryd.prog (tabs gl) tS7) 16 0 (L16_0 n) ex st') := by
  intro n ⟨v4, v5, v6, v7, v8, v9, v10⟩ s
  kernel_rfl
theorem Q16_0 {σ : Type} (hl : LibFits2 gl) (Y : Yd σ) (rnd : Bool) : SegOk (cfgOf Tryd.prog (tabs gl) tS7) (evFn (cfgOf Tryd.prog (tabs gl) tS7) 9) 16 rnd Y (l16_0.seg σ (L16_0 1000000000000)) (.block 0 (.loop (loopAt Tryd.f16 0))) :=
  told_loop (okS7 hl) k16_0 (by kernel_rfl) (by kernel_rfl) (fun _ _ => rfl) (segs_no (by kernel_rfl)) (E16_0 Y)
theorem N16 : ∀ a, n16 a = bodyK (cfgOf Tryd.prog (tabs gl) tS7) (toldOf tS7) noY (inlN (cfgOf Tryd.prog (tabs gl) tS7) (toldOf tS7) noY) g16 16 Tryd.f16 (((fun a0 => [.val (.string a0)] : (ByteArray) → List D) a).map .d) [] [] () (fun v _ _ _ => r16 v) := by
  intro a0
  kernel_rfl
noncomputable def t16 : Tab := (16, e16) :: tS7
theorem ok16 (hl : LibFits2 gl) : TabOk Tryd.prog gl t16 :=
  told_fn (okS7 hl) mixed oddOk Tryd.func16 (by kernel_rfl) (by kernel_rfl) (by kernel_rfl) (fun p hp e he => by
    have hq : segsOf (σ := Unit) (g16 (σ := Unit)) (bodyOf Tryd.f16) = [(0, .loop (loopAt Tryd.f16 0))] := by kernel_rfl
    rw [hq] at hp
    simp only [List.mem_cons, List.not_mem_nil, or_false] at hp
    subst hp
    cases he
    exact Q16_0 hl _ _)
    (args := fun a0 => [.val (.string a0)]) (res := r16)
    (fun ds a h => by
      unfold d16 at h
      split at h
      · cases h; rfl
      · cases h)
    (fun v r h => by
      unfold r16 at h
      split at h
      · rename_i hv; cases h; exact hv
      · cases h)
    N16

/-! sextant/sextantlaw02.TextSpots -/
def d17 (ds : List D) : Option (ByteArray × Int) := match ds with
  | [.val (.string a0), .val (.int .i64 a1)] => some (a0, a1)
  | _ => none
def r17 (v : AV) : Option (Bool) := match toPR v with
  | some (.one (.val (.bool a2))) => some a2
  | _ => none
def n17 : ByteArray × Int → Option (Bool) := fun (a0, a1) => ((n57 a0).bind fun y3 => ((n58 a0).bind fun y4 => ((n56 (a0, a1)).bind fun y5 => ((n59 (a0, a1)).bind fun y6 => ((n31 (y5.1, y5.2.1, y5.2.2, y6.1, y6.2.1, y6.2.2)).bind fun y7 => (bif y7 then ((n31 (y3.1, y3.2.1, y3.2.2.1, y4.1, y4.2.1, y4.2.2.1)).bind fun y8 => (bif (bif y8 then (y3.2.2.2 == y4.2.2.2) else false) then ((n52 a0).bind fun y9 => ((n55 a0).bind fun y10 => (bif (y9 == y10) then ((n32 ()).bind fun y11 => (some y11)) else (some false)))) else (some false))) else (some false)))))))
def e17 : PureE := mkE d17 n17 (fun a2 => .one (.val (.bool a2)))
def g17 {σ : Type} : Nat → Option (SegE σ)
  | _ => none
theorem N17 : ∀ a, n17 a = bodyK (cfgOf Tryd.prog (tabs gl) tS7) (toldOf tS7) noY (inlN (cfgOf Tryd.prog (tabs gl) tS7) (toldOf tS7) noY) g17 17 Tryd.f17 (((fun (a0, a1) => [.val (.string a0), .val (.int .i64 a1)] : (ByteArray × Int) → List D) a).map .d) [] [] () (fun v _ _ _ => r17 v) := by
  intro a
  obtain ⟨a0, a1⟩ := a
  kernel_rfl
noncomputable def t17 : Tab := (17, e17) :: tS7
theorem ok17 (hl : LibFits2 gl) : TabOk Tryd.prog gl t17 :=
  told_fn (okS7 hl) mixed oddOk Tryd.func17 (by kernel_rfl) (by kernel_rfl) (by kernel_rfl) (segs_no (by kernel_rfl))
    (args := fun (a0, a1) => [.val (.string a0), .val (.int .i64 a1)]) (res := r17)
    (fun ds a h => by
      unfold d17 at h
      split at h
      · cases h; rfl
      · cases h)
    (fun v r h => by
      unfold r17 at h
      split at h
      · rename_i hv; cases h; exact hv
      · cases h)
    N17

noncomputable def tS8 : Tab := (7, e7) :: (8, e8) :: (10, e10) :: (11, e11) :: (12, e12) :: (13, e13) :: (14, e14) :: (16, e16) :: (17, e17) :: tS7
theorem okS8 (hl : LibFits2 gl) : TabOk Tryd.prog gl tS8 :=
  TabOk.cons (TabOk.cons (TabOk.cons (TabOk.cons (TabOk.cons (TabOk.cons (TabOk.cons (TabOk.cons (TabOk.cons (okS7 hl) ((ok17 hl).fair (17, e17) (List.mem_cons_self (l := tS7))) ((ok17 hl).spec (17, e17) (List.mem_cons_self (l := tS7)))) ((ok16 hl).fair (16, e16) (List.mem_cons_self (l := tS7))) ((ok16 hl).spec (16, e16) (List.mem_cons_self (l := tS7)))) ((ok14 hl).fair (14, e14) (List.mem_cons_self (l := tS7))) ((ok14 hl).spec (14, e14) (List.mem_cons_self (l := tS7)))) ((ok13 hl).fair (13, e13) (List.mem_cons_self (l := tS7))) ((ok13 hl).spec (13, e13) (List.mem_cons_self (l := tS7)))) ((ok12 hl).fair (12, e12) (List.mem_cons_self (l := tS7))) ((ok12 hl).spec (12, e12) (List.mem_cons_self (l := tS7)))) ((ok11 hl).fair (11, e11) (List.mem_cons_self (l := tS7))) ((ok11 hl).spec (11, e11) (List.mem_cons_self (l := tS7)))) ((ok10 hl).fair (10, e10) (List.mem_cons_self (l := tS7))) ((ok10 hl).spec (10, e10) (List.mem_cons_self (l := tS7)))) ((ok8 hl).fair (8, e8) (List.mem_cons_self (l := tS7))) ((ok8 hl).spec (8, e8) (List.mem_cons_self (l := tS7)))) ((ok7 hl).fair (7, e7) (List.mem_cons_self (l := tS7))) ((ok7 hl).spec (7, e7) (List.mem_cons_self (l := tS7)))
/-! slices.Clip[[]string,string] -/
def d66 (ds : List D) : Option (List D) := match ds with
  | [.slice a0] => some a0
  | _ => none
def r66 (v : AV) : Option (List D) := match toPR v with
  | some (.one (.slice a1)) => some a1
  | _ => none
def n66 : List D → Option (List D) := fun a0 => (ask (cutRowOk (0 : Int) ((a0.length : Nat) : Int) ((a0.length : Nat) : Int) (a0.length) (hasSize 1 a0)) (some ((a0.take (Int.toNat ((a0.length : Nat) : Int))).drop (Int.toNat 0))))
def e66 : PureE := mkE d66 n66 (fun a1 => .one (.slice a1))
def g66 {σ : Type} : Nat → Option (SegE σ)
  | _ => none
theorem N66 : ∀ a, n66 a = bodyK (cfgOf Tryd.prog (tabs gl) tS8) (toldOf tS8) noY (inlN (cfgOf Tryd.prog (tabs gl) tS8) (toldOf tS8) noY) g66 66 Tryd.f66 (((fun a0 => [.slice a0] : (List D) → List D) a).map .d) [] [] () (fun v _ _ _ => r66 v) := by
  intro a0
  kernel_rfl
noncomputable def t66 : Tab := (66, e66) :: tS8
theorem ok66 (hl : LibFits2 gl) : TabOk Tryd.prog gl t66 :=
  told_fn (okS8 hl) mixed oddOk Tryd.func66 (by kernel_rfl) (by kernel_rfl) (by kernel_rfl) (segs_no (by kernel_rfl))
    (args := fun a0 => [.slice a0]) (res := r66)
    (fun ds a h => by
      unfold d66 at h
      split at h
      · cases h; rfl
      · cases h)
    (fun v r h => by
      unfold r66 at h
      split at h
      · rename_i hv; cases h; exact hv
      · cases h)
    N66

/-! sextant/token.marks -/
def d90 (ds : List D) : Option (Unit) := match ds with
  | [] => some ()
  | _ => none
def r90 (v : AV) : Option (List D) := match toPR v with
  | some (.one (.slice a0)) => some a0
  | _ => none
def n90 : Unit → Option (List D) := fun () => ((n110 (⟨#[40, 32, 41, 32, 91, 32, 93, 32, 123, 32, 125, 32, 44, 32, 59, 32, 46, 32, 43, 32, 45, 32, 42, 32, 47, 32, 37, 32, 124, 32, 38, 32, 92, 32, 61, 61, 32, 33, 61, 32, 60, 61, 32, 62, 61, 32, 60, 32, 62, 32, 61]⟩ : ByteArray)).bind fun y1 => (some y1))
def e90 : PureE := mkE d90 n90 (fun a0 => .one (.slice a0))
def g90 {σ : Type} : Nat → Option (SegE σ)
  | _ => none
theorem N90 : ∀ a, n90 a = bodyK (cfgOf Tryd.prog (tabs gl) tS8) (toldOf tS8) noY (inlN (cfgOf Tryd.prog (tabs gl) tS8) (toldOf tS8) noY) g90 90 Tryd.f90 (((fun () => [] : (Unit) → List D) a).map .d) [] [] () (fun v _ _ _ => r90 v) := by
  intro a
  kernel_rfl
noncomputable def t90 : Tab := (90, e90) :: tS8
theorem ok90 (hl : LibFits2 gl) : TabOk Tryd.prog gl t90 :=
  told_fn (okS8 hl) mixed oddOk Tryd.func90 (by kernel_rfl) (by kernel_rfl) (by kernel_rfl) (segs_no (by kernel_rfl))
    (args := fun () => []) (res := r90)
    (fun ds a h => by
      unfold d90 at h
      split at h
      · cases h; rfl
      · cases h)
    (fun v r h => by
      unfold r90 at h
      split at h
      · rename_i hv; cases h; exact hv
      · cases h)
    N90

/-! sextant/sextantref09.Marks -/
def d112 (ds : List D) : Option (Unit) := match ds with
  | [] => some ()
  | _ => none
def r112 (v : AV) : Option (List D) := match toPR v with
  | some (.one (.slice a0)) => some a0
  | _ => none
def n112 : Unit → Option (List D) := fun () => (some ([.val (.string (⟨#[61, 61]⟩ : ByteArray)), .val (.string (⟨#[33, 61]⟩ : ByteArray)), .val (.string (⟨#[60, 61]⟩ : ByteArray)), .val (.string (⟨#[62, 61]⟩ : ByteArray)), .val (.string (⟨#[40]⟩ : ByteArray)), .val (.string (⟨#[41]⟩ : ByteArray)), .val (.string (⟨#[91]⟩ : ByteArray)), .val (.string (⟨#[93]⟩ : ByteArray)), .val (.string (⟨#[123]⟩ : ByteArray)), .val (.string (⟨#[125]⟩ : ByteArray)), .val (.string (⟨#[44]⟩ : ByteArray)), .val (.string (⟨#[59]⟩ : ByteArray)), .val (.string (⟨#[46]⟩ : ByteArray)), .val (.string (⟨#[43]⟩ : ByteArray)), .val (.string (⟨#[45]⟩ : ByteArray)), .val (.string (⟨#[42]⟩ : ByteArray)), .val (.string (⟨#[47]⟩ : ByteArray)), .val (.string (⟨#[37]⟩ : ByteArray)), .val (.string (⟨#[124]⟩ : ByteArray)), .val (.string (⟨#[38]⟩ : ByteArray)), .val (.string (⟨#[92]⟩ : ByteArray)), .val (.string (⟨#[60]⟩ : ByteArray)), .val (.string (⟨#[62]⟩ : ByteArray)), .val (.string (⟨#[61]⟩ : ByteArray))] : List D))
def e112 : PureE := mkE d112 n112 (fun a0 => .one (.slice a0))
def g112 {σ : Type} : Nat → Option (SegE σ)
  | _ => none
theorem N112 : ∀ a, n112 a = bodyK (cfgOf Tryd.prog (tabs gl) tS8) (toldOf tS8) noY (inlN (cfgOf Tryd.prog (tabs gl) tS8) (toldOf tS8) noY) g112 112 Tryd.f112 (((fun () => [] : (Unit) → List D) a).map .d) [] [] () (fun v _ _ _ => r112 v) := by
  intro a
  kernel_rfl
noncomputable def t112 : Tab := (112, e112) :: tS8
theorem ok112 (hl : LibFits2 gl) : TabOk Tryd.prog gl t112 :=
  told_fn (okS8 hl) mixed oddOk Tryd.func112 (by kernel_rfl) (by kernel_rfl) (by kernel_rfl) (segs_no (by kernel_rfl))
    (args := fun () => []) (res := r112)
    (fun ds a h => by
      unfold d112 at h
      split at h
      · cases h; rfl
      · cases h)
    (fun v r h => by
      unfold r112 at h
      split at h
      · rename_i hv; cases h; exact hv
      · cases h)
    N112

noncomputable def tS9 : Tab := (66, e66) :: (90, e90) :: (112, e112) :: tS8
theorem okS9 (hl : LibFits2 gl) : TabOk Tryd.prog gl tS9 :=
  TabOk.cons (TabOk.cons (TabOk.cons (okS8 hl) ((ok112 hl).fair (112, e112) (List.mem_cons_self (l := tS8))) ((ok112 hl).spec (112, e112) (List.mem_cons_self (l := tS8)))) ((ok90 hl).fair (90, e90) (List.mem_cons_self (l := tS8))) ((ok90 hl).spec (90, e90) (List.mem_cons_self (l := tS8)))) ((ok66 hl).fair (66, e66) (List.mem_cons_self (l := tS8))) ((ok66 hl).spec (66, e66) (List.mem_cons_self (l := tS8)))
/-! sextant/token.rest -/
def d109 (ds : List D) : Option (Int) := match ds with
  | [.val (.int .i32 a0)] => some a0
  | _ => none
def r109 (v : AV) : Option (Bool) := match toPR v with
  | some (.one (.val (.bool a1))) => some a1
  | _ => none
def n109 : Int → Option (Bool) := fun a0 => ((n37 a0).bind fun y2 => (bif y2 then (some true) else (bif (decide (a0 ≥ 48)) then (some (bif (decide (a0 ≤ 57)) then true else (a0 == 39))) else (some (a0 == 39)))))
def e109 : PureE := mkE d109 n109 (fun a1 => .one (.val (.bool a1)))
def g109 {σ : Type} : Nat → Option (SegE σ)
  | _ => none
theorem N109 : ∀ a, n109 a = bodyK (cfgOf Tryd.prog (tabs gl) tS9) (toldOf tS9) noY (inlN (cfgOf Tryd.prog (tabs gl) tS9) (toldOf tS9) noY) g109 109 Tryd.f109 (((fun a0 => [.val (.int .i32 a0)] : (Int) → List D) a).map .d) [] [] () (fun v _ _ _ => r109 v) := by
  intro a0
  kernel_rfl
noncomputable def t109 : Tab := (109, e109) :: tS9
theorem ok109 (hl : LibFits2 gl) : TabOk Tryd.prog gl t109 :=
  told_fn (okS9 hl) mixed oddOk Tryd.func109 (by kernel_rfl) (by kernel_rfl) (by kernel_rfl) (segs_no (by kernel_rfl))
    (args := fun a0 => [.val (.int .i32 a0)]) (res := r109)
    (fun ds a h => by
      unfold d109 at h
      split at h
      · cases h; rfl
      · cases h)
    (fun v r h => by
      unfold r109 at h
      split at h
      · rename_i hv; cases h; exact hv
      · cases h)
    N109

noncomputable def tS10 : Tab := (109, e109) :: tS9
theorem okS10 (hl : LibFits2 gl) : TabOk Tryd.prog gl tS10 :=
  TabOk.cons (okS9 hl) ((ok109 hl).fair (109, e109) (List.mem_cons_self (l := tS9))) ((ok109 hl).spec (109, e109) (List.mem_cons_self (l := tS9)))
/-! sextant/sextantref09.spot -/
def d63 (ds : List D) : Option (ByteArray × Int) := match ds with
  | [.val (.string a0), .val (.int .i64 a1)] => some (a0, a1)
  | _ => none
def r63 (v : AV) : Option (Int × Int × Int) := match toPR v with
  | some (.one (.agg [.val (.int .i64 a2), .val (.int .i64 a3), .val (.int .i64 a4)])) => some (a2, a3, a4)
  | _ => none
def n63 : ByteArray × Int → Option (Int × Int × Int) := fun (a0, a1) => ((n59 (a0, a1)).bind fun y5 => (some (y5.1, y5.2.1, y5.2.2)))
def e63 : PureE := mkE d63 n63 (fun (a2, a3, a4) => .one (.agg [.val (.int .i64 a2), .val (.int .i64 a3), .val (.int .i64 a4)]))
def g63 {σ : Type} : Nat → Option (SegE σ)
  | _ => none
theorem N63 : ∀ a, n63 a = bodyK (cfgOf Tryd.prog (tabs gl) tS10) (toldOf tS10) noY (inlN (cfgOf Tryd.prog (tabs gl) tS10) (toldOf tS10) noY) g63 63 Tryd.f63 (((fun (a0, a1) => [.val (.string a0), .val (.int .i64 a1)] : (ByteArray × Int) → List D) a).map .d) [] [] () (fun v _ _ _ => r63 v) := by
  intro a
  obtain ⟨a0, a1⟩ := a
  kernel_rfl
noncomputable def t63 : Tab := (63, e63) :: tS10
theorem ok63 (hl : LibFits2 gl) : TabOk Tryd.prog gl t63 :=
  told_fn (okS10 hl) mixed oddOk Tryd.func63 (by kernel_rfl) (by kernel_rfl) (by kernel_rfl) (segs_no (by kernel_rfl))
    (args := fun (a0, a1) => [.val (.string a0), .val (.int .i64 a1)]) (res := r63)
    (fun ds a h => by
      unfold d63 at h
      split at h
      · cases h; rfl
      · cases h)
    (fun v r h => by
      unfold r63 at h
      split at h
      · rename_i hv; cases h; exact hv
      · cases h)
    N63

/-! sextant/sextantref09.named -/
def d93 (ds : List D) : Option (Int × ByteArray) := match ds with
  | [.val (.int .i64 a0), .val (.string a1)] => some (a0, a1)
  | _ => none
def r93 (v : AV) : Option (Int × Int × Int × Int × ByteArray × Int × Int) := match toPR v with
  | some (.many [.agg [.val (.int .i64 a2), .val (.int .i64 a3), .val (.int .i64 a4), .val (.int .i64 a5), .val (.string a6), .val (.int .i64 a7)], .val (.int .i64 a8)]) => some (a2, a3, a4, a5, a6, a7, a8)
  | _ => none
def n93 : Int × ByteArray → Option (Int × Int × Int × Int × ByteArray × Int × Int) := fun (a0, a1) => ((n41 a1).bind fun y9 => (bif (!y9) then (some (0, 0, 0, 0, (⟨#[]⟩ : ByteArray), 0, 21)) else (bif (a0 == 3) then (bif (sEq a1 (⟨#[116, 114, 117, 101]⟩ : ByteArray)) then (some (0, 0, 0, 0, (⟨#[]⟩ : ByteArray), 0, 21)) else (bif (sEq a1 (⟨#[102, 97, 108, 115, 101]⟩ : ByteArray)) then (some (0, 0, 0, 0, (⟨#[]⟩ : ByteArray), 0, 21)) else (some (a0, 0, 0, 0, a1, 0, 0)))) else (some (a0, 0, 0, 0, a1, 0, 0)))))
def e93 : PureE := mkE d93 n93 (fun (a2, a3, a4, a5, a6, a7, a8) => .many [.agg [.val (.int .i64 a2), .val (.int .i64 a3), .val (.int .i64 a4), .val (.int .i64 a5), .val (.string a6), .val (.int .i64 a7)], .val (.int .i64 a8)])
def g93 {σ : Type} : Nat → Option (SegE σ)
  | _ => none
theorem N93 : ∀ a, n93 a = bodyK (cfgOf Tryd.prog (tabs gl) tS10) (toldOf tS10) noY (inlN (cfgOf Tryd.prog (tabs gl) tS10) (toldOf tS10) noY) g93 93 Tryd.f93 (((fun (a0, a1) => [.val (.int .i64 a0), .val (.string a1)] : (Int × ByteArray) → List D) a).map .d) [] [] () (fun v _ _ _ => r93 v) := by
  intro a
  obtain ⟨a0, a1⟩ := a
  kernel_rfl
noncomputable def t93 : Tab := (93, e93) :: tS10
theorem ok93 (hl : LibFits2 gl) : TabOk Tryd.prog gl t93 :=
  told_fn (okS10 hl) mixed oddOk Tryd.func93 (by kernel_rfl) (by kernel_rfl) (by kernel_rfl) (segs_no (by kernel_rfl))
    (args := fun (a0, a1) => [.val (.int .i64 a0), .val (.string a1)]) (res := r93)
    (fun ds a h => by
      unfold d93 at h
      split at h
      · cases h; rfl
      · cases h)
    (fun v r h => by
      unfold r93 at h
      split at h
      · rename_i hv; cases h; exact hv
      · cases h)
    N93

/-! (*sextant/token.scanner).rune -/
def dM87 (av : List AV) (bs : List Box) (ts : List Nat) : Option (ByteArray × List D × Int × Int × Nat) := match av, bs, ts with
  | [.ptr 0 0, .d (.val (.int .i64 a4))], [.cells none [.d (.val (.string a0)), .osl 0 a1, .d (.val (.int .i64 a3))]], [k2] => some (a0, a1, a3, a4, k2)
  | _, _, _ => none
def aM87 : (ByteArray × List D × Int × Int × Nat) → List AV := fun (a0, a1, a3, a4, k2) => [.ptr 0 0, .d (.val (.int .i64 a4))]
def bM87 : (ByteArray × List D × Int × Int × Nat) → List Box := fun (a0, a1, a3, a4, k2) => [.cells none [.d (.val (.string a0)), .osl 0 a1, .d (.val (.int .i64 a3))]]
def tM87 : (ByteArray × List D × Int × Int × Nat) → List Nat := fun (a0, a1, a3, a4, k2) => [k2]
def vM87 : (Int × ByteArray × List D × Int × Nat) → AV := fun (o8, p9, p10, p11, q12) => .d (.val (.int .i32 o8))
def cM87 : (Int × ByteArray × List D × Int × Nat) → List Box := fun (o8, p9, p10, p11, q12) => [.cells none [.d (.val (.string p9)), .osl 0 p10, .d (.val (.int .i64 p11))]]
def kM87 : (Int × ByteArray × List D × Int × Nat) → List Nat := fun (o8, p9, p10, p11, q12) => [q12]
def rM87 (v : AV) (bs : List Box) (ts : List Nat) : Option (Int × ByteArray × List D × Int × Nat) := match v, bs, ts with
  | .d (.val (.int .i32 o8)), [.cells none [.d (.val (.string p9)), .osl 0 p10, .d (.val (.int .i64 p11))]], [q12] => some (o8, p9, p10, p11, q12)
  | _, _, _ => none
def n87 : ByteArray × List D × Int × Int × Nat → Option (Int × ByteArray × List D × Int × Nat) := fun (a0, a1, a3, a4, k2) => (bif (decide ((w64 (a3 + a4)) < ((a1.length : Nat) : Int))) then ((lidx a1 (w64 (a3 + a4))).bind fun d5 => ask (d5.cells.length = 4) ((cellAt 0 d5).bind fun x6 => (asInt .i32 x6).bind fun x7 => (some (x7, a0, a1, a3, k2)))) else (some (0, a0, a1, a3, k2)))
theorem hM87 : ∀ a o, n87 a = some o → cM87 o = bM87 a ∧ kM87 o = tM87 a := by
  intro a
  obtain ⟨a0, a1, a3, a4, k2⟩ := a
  refine (?_ : Qt (n87 _) _)
  unfold n87
  dsimp only
  repeat' (first | exact qt_some ⟨rfl, rfl⟩ | exact qt_none | refine qt_bif ?_ ?_ | refine qt_ask ?_ | (refine qt_bind ?_; intro v; try dsimp only) | split)
def g87 {σ : Type} : Nat → Option (SegE σ)
  | _ => none
theorem N87 : ∀ a, n87 a = bodyK (cfgOf Tryd.prog (tabs gl) tS10) (toldOf tS10) noY (inlN (cfgOf Tryd.prog (tabs gl) tS10) (toldOf tS10) noY) g87 87 Tryd.f87 (aM87 a) (bM87 a) (tM87 a) () (fun v b tk _ => rM87 v b tk) := by
  intro a
  obtain ⟨a0, a1, a3, a4, k2⟩ := a
  kernel_rfl
theorem om87 (hl : LibFits2 gl) : OddSound Tryd.prog gl (fun g => bif Nat.beq g 87 then some (methR 87 dM87 n87 vM87 cM87 kM87) else (tabs gl).odd g) :=
  told_methR (t := tabs gl) (okS10 hl) mixed oddOk Tryd.func87 (by kernel_rfl) (by kernel_rfl) (argsOf := aM87) (boxOf := bM87) (tokOf := tM87) (res := rM87) hM87 (by kernel_rfl) (segs_no (by kernel_rfl))
    (fun av bs ts a h => by
      unfold dM87 at h
      split at h
      · cases h; exact ⟨rfl, rfl, rfl⟩
      · cases h)
    (fun v b tk o h => by
      unfold rM87 at h
      split at h
      · cases h; exact ⟨rfl, rfl, rfl⟩
      · cases h)
    N87

/-! (*sextant/token.scanner).spot -/
def dM88 (av : List AV) (bs : List Box) (ts : List Nat) : Option (ByteArray × List D × Int × Nat) := match av, bs, ts with
  | [.ptr 0 0], [.cells none [.d (.val (.string a0)), .osl 0 a1, .d (.val (.int .i64 a3))]], [k2] => some (a0, a1, a3, k2)
  | _, _, _ => none
def aM88 : (ByteArray × List D × Int × Nat) → List AV := fun (a0, a1, a3, k2) => [.ptr 0 0]
def bM88 : (ByteArray × List D × Int × Nat) → List Box := fun (a0, a1, a3, k2) => [.cells none [.d (.val (.string a0)), .osl 0 a1, .d (.val (.int .i64 a3))]]
def tM88 : (ByteArray × List D × Int × Nat) → List Nat := fun (a0, a1, a3, k2) => [k2]
def vM88 : (Int × Int × Int × ByteArray × List D × Int × Nat) → AV := fun (o11, o12, o13, p14, p15, p16, q17) => .d (.agg [.val (.int .i64 o11), .val (.int .i64 o12), .val (.int .i64 o13)])
def cM88 : (Int × Int × Int × ByteArray × List D × Int × Nat) → List Box := fun (o11, o12, o13, p14, p15, p16, q17) => [.cells none [.d (.val (.string p14)), .osl 0 p15, .d (.val (.int .i64 p16))]]
def kM88 : (Int × Int × Int × ByteArray × List D × Int × Nat) → List Nat := fun (o11, o12, o13, p14, p15, p16, q17) => [q17]
def rM88 (v : AV) (bs : List Box) (ts : List Nat) : Option (Int × Int × Int × ByteArray × List D × Int × Nat) := match v, bs, ts with
  | .d (.agg [.val (.int .i64 o11), .val (.int .i64 o12), .val (.int .i64 o13)]), [.cells none [.d (.val (.string p14)), .osl 0 p15, .d (.val (.int .i64 p16))]], [q17] => some (o11, o12, o13, p14, p15, p16, q17)
  | _, _, _ => none
def n88 : ByteArray × List D × Int × Nat → Option (Int × Int × Int × ByteArray × List D × Int × Nat) := fun (a0, a1, a3, k2) => (bif (decide (a3 < ((a1.length : Nat) : Int))) then ((lidx a1 a3).bind fun d4 => ask (d4.cells.length = 4) ((cellAt 1 d4).bind fun x5 => (asInt .i64 x5).bind fun x6 => ((cellAt 2 d4).bind fun x7 => (asInt .i64 x7).bind fun x8 => ((cellAt 3 d4).bind fun x9 => (asInt .i64 x9).bind fun x10 => (some (x6, x8, x10, a0, a1, a3, k2)))))) else ((n56 (a0, (a0.size : Int))).bind fun y18 => (some (y18.1, y18.2.1, y18.2.2, a0, a1, a3, k2))))
theorem hM88 : ∀ a o, n88 a = some o → cM88 o = bM88 a ∧ kM88 o = tM88 a := by
  intro a
  obtain ⟨a0, a1, a3, k2⟩ := a
  refine (?_ : Qt (n88 _) _)
  unfold n88
  dsimp only
  repeat' (first | exact qt_some ⟨rfl, rfl⟩ | exact qt_none | refine qt_bif ?_ ?_ | refine qt_ask ?_ | (refine qt_bind ?_; intro v; try dsimp only) | split)
def g88 {σ : Type} : Nat → Option (SegE σ)
  | _ => none
theorem N88 : ∀ a, n88 a = bodyK (cfgOf Tryd.prog (tabs gl) tS10) (toldOf tS10) noY (inlN (cfgOf Tryd.prog (tabs gl) tS10) (toldOf tS10) noY) g88 88 Tryd.f88 (aM88 a) (bM88 a) (tM88 a) () (fun v b tk _ => rM88 v b tk) := by
  intro a
  obtain ⟨a0, a1, a3, k2⟩ := a
  kernel_rfl
theorem om88 (hl : LibFits2 gl) : OddSound Tryd.prog gl (fun g => bif Nat.beq g 88 then some (methR 88 dM88 n88 vM88 cM88 kM88) else (tabs gl).odd g) :=
  told_methR (t := tabs gl) (okS10 hl) mixed oddOk Tryd.func88 (by kernel_rfl) (by kernel_rfl) (argsOf := aM88) (boxOf := bM88) (tokOf := tM88) (res := rM88) hM88 (by kernel_rfl) (segs_no (by kernel_rfl))
    (fun av bs ts a h => by
      unfold dM88 at h
      split at h
      · cases h; exact ⟨rfl, rfl, rfl⟩
      · cases h)
    (fun v b tk o h => by
      unfold rM88 at h
      split at h
      · cases h; exact ⟨rfl, rfl, rfl⟩
      · cases h)
    N88

/-! (*sextant/sextantref09.Scanner).is -/
def dM92 (av : List AV) (bs : List Box) (ts : List Nat) : Option (ByteArray × List D × Int × Int × Int) := match av, bs, ts with
  | [.ptr 0 0, .d (.val (.int .i64 a3)), .d (.val (.int .i64 a4))], [.cells none [.d (.val (.string a0)), .d (.slice a1), .d (.val (.int .i64 a2))]], [] => some (a0, a1, a2, a3, a4)
  | _, _, _ => none
def aM92 : (ByteArray × List D × Int × Int × Int) → List AV := fun (a0, a1, a2, a3, a4) => [.ptr 0 0, .d (.val (.int .i64 a3)), .d (.val (.int .i64 a4))]
def bM92 : (ByteArray × List D × Int × Int × Int) → List Box := fun (a0, a1, a2, a3, a4) => [.cells none [.d (.val (.string a0)), .d (.slice a1), .d (.val (.int .i64 a2))]]
def tM92 : (ByteArray × List D × Int × Int × Int) → List Nat := fun (a0, a1, a2, a3, a4) => []
def vM92 : (Bool × ByteArray × List D × Int) → AV := fun (o8, p9, p10, p11) => .d (.val (.bool o8))
def cM92 : (Bool × ByteArray × List D × Int) → List Box := fun (o8, p9, p10, p11) => [.cells none [.d (.val (.string p9)), .d (.slice p10), .d (.val (.int .i64 p11))]]
def kM92 : (Bool × ByteArray × List D × Int) → List Nat := fun (o8, p9, p10, p11) => []
def rM92 (v : AV) (bs : List Box) (ts : List Nat) : Option (Bool × ByteArray × List D × Int) := match v, bs, ts with
  | .d (.val (.bool o8)), [.cells none [.d (.val (.string p9)), .d (.slice p10), .d (.val (.int .i64 p11))]], [] => some (o8, p9, p10, p11)
  | _, _, _ => none
def n92 : ByteArray × List D × Int × Int × Int → Option (Bool × ByteArray × List D × Int) := fun (a0, a1, a2, a3, a4) => (bif (decide ((w64 (a2 + a3)) < ((a1.length : Nat) : Int))) then ((lidx a1 (w64 (a2 + a3))).bind fun d5 => ask (d5.cells.length = 3) ((cellAt 0 d5).bind fun x6 => (asInt .i64 x6).bind fun x7 => (some ((x7 == a4), a0, a1, a2)))) else (some (false, a0, a1, a2)))
theorem hM92 : ∀ a o, n92 a = some o → cM92 o = bM92 a ∧ kM92 o = tM92 a := by
  intro a
  obtain ⟨a0, a1, a2, a3, a4⟩ := a
  refine (?_ : Qt (n92 _) _)
  unfold n92
  dsimp only
  repeat' (first | exact qt_some ⟨rfl, rfl⟩ | exact qt_none | refine qt_bif ?_ ?_ | refine qt_ask ?_ | (refine qt_bind ?_; intro v; try dsimp only) | split)
def g92 {σ : Type} : Nat → Option (SegE σ)
  | _ => none
theorem N92 : ∀ a, n92 a = bodyK (cfgOf Tryd.prog (tabs gl) tS10) (toldOf tS10) noY (inlN (cfgOf Tryd.prog (tabs gl) tS10) (toldOf tS10) noY) g92 92 Tryd.f92 (aM92 a) (bM92 a) (tM92 a) () (fun v b tk _ => rM92 v b tk) := by
  intro a
  obtain ⟨a0, a1, a2, a3, a4⟩ := a
  kernel_rfl
theorem om92 (hl : LibFits2 gl) : OddSound Tryd.prog gl (fun g => bif Nat.beq g 92 then some (methR 92 dM92 n92 vM92 cM92 kM92) else (tabs gl).odd g) :=
  told_methR (t := tabs gl) (okS10 hl) mixed oddOk Tryd.func92 (by kernel_rfl) (by kernel_rfl) (argsOf := aM92) (boxOf := bM92) (tokOf := tM92) (res := rM92) hM92 (by kernel_rfl) (segs_no (by kernel_rfl))
    (fun av bs ts a h => by
      unfold dM92 at h
      split at h
      · cases h; exact ⟨rfl, rfl, rfl⟩
      · cases h)
    (fun v b tk o h => by
      unfold rM92 at h
      split at h
      · cases h; exact ⟨rfl, rfl, rfl⟩
      · cases h)
    N92

noncomputable def tabsS11 (gl : Nat → Option (List D)) : Tabs := { tabs gl with odd := fun g => bif Nat.beq g 87 then some (methR 87 dM87 n87 vM87 cM87 kM87) else (bif Nat.beq g 88 then some (methR 88 dM88 n88 vM88 cM88 kM88) else (bif Nat.beq g 92 then some (methR 92 dM92 n92 vM92 cM92 kM92) else ((tabs gl).odd g))) }
theorem oddOkS11 (hl : LibFits2 gl) : OddSound Tryd.prog gl (tabsS11 gl).odd := OddSound.join (om87 hl) (OddSound.join (om88 hl) (OddSound.join (om92 hl) (oddOk)))
noncomputable def tS11 : Tab := (63, e63) :: (93, e93) :: tS10
theorem okS11 (hl : LibFits2 gl) : TabOk Tryd.prog gl tS11 :=
  TabOk.cons (TabOk.cons (okS10 hl) ((ok93 hl).fair (93, e93) (List.mem_cons_self (l := tS10))) ((ok93 hl).spec (93, e93) (List.mem_cons_self (l := tS10)))) ((ok63 hl).fair (63, e63) (List.mem_cons_self (l := tS10))) ((ok63 hl).spec (63, e63) (List.mem_cons_self (l := tS10)))
/-! (*sextant/token.scanner).silent -/
abbrev A60_3 := ByteArray × List D × Int
inductive O60_3 where
  | x0 (o13 : ByteArray) (o14 : List D) (o15 : Int)
def l60_3 : LoopS A60_3 O60_3 where
  n := 67
  ks := [0]
  kso := [0]
  m := 1
  mt := 1
  decV := fun vs bs ts => match vs, bs, ts with
    | [.ptr 0 0], [.cells none [.d (.val (.string v9)), .osl 0 v10, .d (.val (.int .i64 v11))]], [_] => some (v9, v10, v11)
    | _, _, _ => none
  encV := fun (v9, v10, v11) => [.ptr 0 0]
  encB := fun (v9, v10, v11) => [.cells none [.d (.val (.string v9)), .osl 0 v10, .d (.val (.int .i64 v11))]]
  tk := fun (v9, v10, v11) => [v10.length]
  decO := fun ex vs bs ts => match ex, vs, bs, ts with
    | .normal, [.ptr 0 0], [.cells none [.d (.val (.string o13)), .osl 0 o14, .d (.val (.int .i64 o15))]], [_] => some (.x0 o13 o14 o15)
    | _, _, _, _ => none
  exO := fun x => match x with
    | .x0 o13 o14 o15 => .normal
  outV := fun x => match x with
    | .x0 o13 o14 o15 => [.ptr 0 0]
  outB := fun x => match x with
    | .x0 o13 o14 o15 => [.cells none [.d (.val (.string o13)), .osl 0 o14, .d (.val (.int .i64 o15))]]
  tkO := fun x => match x with
    | .x0 o13 o14 o15 => [o14.length]
  elim := fun x k => match x with
    | .x0 o13 o14 o15 => k .normal [.ptr 0 0] [.cells none [.d (.val (.string o13)), .osl 0 o14, .d (.val (.int .i64 o15))]] [o14.length]
theorem k60_3 : l60_3.Ok where
  ok1 := by kernel_rfl
  ok2 := by kernel_rfl
  dec := by
    intro vs bs ts a h
    simp only [l60_3] at h ⊢
    split at h
    · cases h; exact ⟨rfl, rfl⟩
    · cases h
  out := by
    intro ex vs bs ts o h
    simp only [l60_3] at h ⊢
    split at h
    · cases h; exact ⟨rfl, rfl, rfl⟩
    · cases h
  len := fun _ => ⟨rfl, rfl⟩
  elim := fun β o k => by cases o <;> rfl
def L60_3 {σ : Type} : Nat → A60_3 → σ → Option (O60_3 × σ)
  | 0, _, _ => none
  | n+1, (v9, v10, v11), s => (bif (decide (v11 < ((v10.length : Nat) : Int))) then ((n87 (v9, v10, v11, 0, v10.length)).bind fun y12 => (bif (y12.1 != 10) then (ask (([v10.length] : List Nat) = [v10.length]) (L60_3 n (v9, v10, (w64 (v11 + 1))) s)) else (ask (([v10.length] : List Nat) = [v10.length]) (some (O60_3.x0 v9 v10 v11, s))))) else (ask (([v10.length] : List Nat) = [v10.length]) (some (O60_3.x0 v9 v10 v11, s))))

abbrev A60_0 := ByteArray × List D × Int
inductive O60_0 where
  | x0 (o20 : ByteArray) (o21 : List D) (o22 : Int)
  | x1 (o23 : ByteArray) (o24 : List D) (o25 : Int)
def l60_0 : LoopS A60_0 O60_0 where
  n := 67
  ks := [0]
  kso := []
  m := 1
  mt := 1
  decV := fun vs bs ts => match vs, bs, ts with
    | [.ptr 0 0], [.cells none [.d (.val (.string v4)), .osl 0 v5, .d (.val (.int .i64 v6))]], [_] => some (v4, v5, v6)
    | _, _, _ => none
  encV := fun (v4, v5, v6) => [.ptr 0 0]
  encB := fun (v4, v5, v6) => [.cells none [.d (.val (.string v4)), .osl 0 v5, .d (.val (.int .i64 v6))]]
  tk := fun (v4, v5, v6) => [v5.length]
  decO := fun ex vs bs ts => match ex, vs, bs, ts with
    | .ret, [], [.cells none [.d (.val (.string o20)), .osl 0 o21, .d (.val (.int .i64 o22))]], [_] => some (.x0 o20 o21 o22)
    | .normal, [], [.cells none [.d (.val (.string o23)), .osl 0 o24, .d (.val (.int .i64 o25))]], [_] => some (.x1 o23 o24 o25)
    | _, _, _, _ => none
  exO := fun x => match x with
    | .x0 o20 o21 o22 => .ret
    | .x1 o23 o24 o25 => .normal
  outV := fun x => match x with
    | .x0 o20 o21 o22 => []
    | .x1 o23 o24 o25 => []
  outB := fun x => match x with
    | .x0 o20 o21 o22 => [.cells none [.d (.val (.string o20)), .osl 0 o21, .d (.val (.int .i64 o22))]]
    | .x1 o23 o24 o25 => [.cells none [.d (.val (.string o23)), .osl 0 o24, .d (.val (.int .i64 o25))]]
  tkO := fun x => match x with
    | .x0 o20 o21 o22 => [o21.length]
    | .x1 o23 o24 o25 => [o24.length]
  elim := fun x k => match x with
    | .x0 o20 o21 o22 => k .ret [] [.cells none [.d (.val (.string o20)), .osl 0 o21, .d (.val (.int .i64 o22))]] [o21.length]
    | .x1 o23 o24 o25 => k .normal [] [.cells none [.d (.val (.string o23)), .osl 0 o24, .d (.val (.int .i64 o25))]] [o24.length]
theorem k60_0 : l60_0.Ok where
  ok1 := by kernel_rfl
  ok2 := by kernel_rfl
  dec := by
    intro vs bs ts a h
    simp only [l60_0] at h ⊢
    split at h
    · cases h; exact ⟨rfl, rfl⟩
    · cases h
  out := by
    intro ex vs bs ts o h
    simp only [l60_0] at h ⊢
    split at h
    · cases h; exact ⟨rfl, rfl, rfl⟩
    · cases h; exact ⟨rfl, rfl, rfl⟩
    · cases h
  len := fun _ => ⟨rfl, rfl⟩
  elim := fun β o k => by cases o <;> rfl
def L60_0 {σ : Type} : Nat → A60_0 → σ → Option (O60_0 × σ)
  | 0, _, _ => none
  | n+1, (v4, v5, v6), s => (bif (decide (v6 < ((v5.length : Nat) : Int))) then ((n87 (v4, v5, v6, 0, v5.length)).bind fun y7 => (bif (bif (bif (bif (y7.1 == 32) then true else (y7.1 == 9)) then true else (y7.1 == 10)) then true else (y7.1 == 13)) then (ask (([v5.length] : List Nat) = [v5.length]) (L60_0 n (v4, v5, (w64 (v6 + 1))) s)) else (bif (y7.1 == 47) then ((n87 (v4, v5, v6, 1, v5.length)).bind fun y8 => (bif (y8.1 == 47) then (ask (([v5.length] : List Nat) = [v5.length]) ((L60_3 1000000000000 (v4, v5, v6) s).bind fun p16 => match p16.1 with | .x0 z17 z18 z19 => (ask (([z18.length] : List Nat) = [z18.length]) (L60_0 n (z17, z18, z19) p16.2)))) else (ask (([v5.length] : List Nat) = [v5.length]) (some (O60_0.x0 v4 v5 v6, s))))) else (ask (([v5.length] : List Nat) = [v5.length]) (some (O60_0.x0 v4 v5 v6, s)))))) else (ask (([v5.length] : List Nat) = [v5.length]) (some (O60_0.x1 v4 v5 v6, s))))
def dM60 (av : List AV) (bs : List Box) (ts : List Nat) : Option (ByteArray × List D × Int × Nat) := match av, bs, ts with
  | [.ptr 0 0], [.cells none [.d (.val (.string a0)), .osl 0 a1, .d (.val (.int .i64 a3))]], [k2] => some (a0, a1, a3, k2)
  | _, _, _ => none
def aM60 : (ByteArray × List D × Int × Nat) → List AV := fun (a0, a1, a3, k2) => [.ptr 0 0]
def bM60 : (ByteArray × List D × Int × Nat) → List Box := fun (a0, a1, a3, k2) => [.cells none [.d (.val (.string a0)), .osl 0 a1, .d (.val (.int .i64 a3))]]
def tM60 : (ByteArray × List D × Int × Nat) → List Nat := fun (a0, a1, a3, k2) => [k2]
def vM60 : (ByteArray × List D × Int × Nat) → AV := fun (p30, p31, p32, q33) => .tup []
def cM60 : (ByteArray × List D × Int × Nat) → List Box := fun (p30, p31, p32, q33) => [.cells none [.d (.val (.string p30)), .osl 0 p31, .d (.val (.int .i64 p32))]]
def kM60 : (ByteArray × List D × Int × Nat) → List Nat := fun (p30, p31, p32, q33) => [q33]
def rM60 (v : AV) (bs : List Box) (ts : List Nat) : Option (ByteArray × List D × Int × Nat) := match v, bs, ts with
  | .tup [], [.cells none [.d (.val (.string p30)), .osl 0 p31, .d (.val (.int .i64 p32))]], [q33] => some (p30, p31, p32, q33)
  | _, _, _ => none
def n60 : ByteArray × List D × Int × Nat → Option (ByteArray × List D × Int × Nat) := fun (a0, a1, a3, k2) => (ask (([k2] : List Nat) = [a1.length]) ((L60_0 1000000000000 (a0, a1, a3) ()).bind fun p26 => match p26.1 with | .x0 z27 z28 z29 => (some (z27, z28, z29, z28.length)) | .x1 z34 z35 z36 => (some (z34, z35, z36, z35.length))))
def g60 {σ : Type} : Nat → Option (SegE σ)
  | 3 => some (l60_3.seg σ (L60_3 1000000000000))
  | 0 => some (l60_0.seg σ (L60_0 1000000000000))
  | _ => none
theorem E60_3 {σ : Type} (Y : Yd σ) : ∀ n a (s : σ), L60_3 (n + 1) a s = evK (cfgOf Tryd.prog (tabsS11 gl) tS11) (toldOf tS11) Y (inlN (cfgOf Tryd.prog (tabsS11 gl) tS11) (toldOf tS11) Y) g60 60 (loopAt Tryd.f60 3) ((l60_3.toT σ).enc a s) (fun ex st' => l60_3.next (cfgOf Tryd.prog (tabsS11 gl) tS11) 60 3 (L60_3 n) ex st') := by
  intro n ⟨v9, v10, v11⟩ s
  kernel_rfl
theorem Q60_3 {σ : Type} (hl : LibFits2 gl) (Y : Yd σ) (rnd : Bool) : SegOk (cfgOf Tryd.prog (tabsS11 gl) tS11) (evFn (cfgOf Tryd.prog (tabsS11 gl) tS11) 9) 60 rnd Y (l60_3.seg σ (L60_3 1000000000000)) (.block 3 (.loop (loopAt Tryd.f60 3))) :=
  told_loop (okS11 hl) k60_3 (by kernel_rfl) (by kernel_rfl) (fun _ _ => rfl) (segs_no (by kernel_rfl)) (E60_3 Y)
theorem E60_0 {σ : Type} (Y : Yd σ) : ∀ n a (s : σ), L60_0 (n + 1) a s = evK (cfgOf Tryd.prog (tabsS11 gl) tS11) (toldOf tS11) Y (inlN (cfgOf Tryd.prog (tabsS11 gl) tS11) (toldOf tS11) Y) g60 60 (loopAt Tryd.f60 0) ((l60_0.toT σ).enc a s) (fun ex st' => l60_0.next (cfgOf Tryd.prog (tabsS11 gl) tS11) 60 0 (L60_0 n) ex st') := by
  intro n ⟨v4, v5, v6⟩ s
  kernel_rfl
theorem Q60_0 {σ : Type} (hl : LibFits2 gl) (Y : Yd σ) (rnd : Bool) : SegOk (cfgOf Tryd.prog (tabsS11 gl) tS11) (evFn (cfgOf Tryd.prog (tabsS11 gl) tS11) 9) 60 rnd Y (l60_0.seg σ (L60_0 1000000000000)) (.block 0 (.loop (loopAt Tryd.f60 0))) :=
  told_loop (okS11 hl) k60_0 (by kernel_rfl) (by kernel_rfl) (fun _ _ => rfl) (fun p hp e he => by
    have hq : segsOf (σ := σ) (g60 (σ := σ)) (loopAt Tryd.f60 0) = [(3, .loop (loopAt Tryd.f60 3))] := by kernel_rfl
    rw [hq] at hp
    simp only [List.mem_cons, List.not_mem_nil, or_false] at hp
    subst hp
    cases he
    exact Q60_3 hl _ _) (E60_0 Y)
theorem N60 : ∀ a, n60 a = bodyK (cfgOf Tryd.prog (tabsS11 gl) tS11) (toldOf tS11) noY (inlN (cfgOf Tryd.prog (tabsS11 gl) tS11) (toldOf tS11) noY) g60 60 Tryd.f60 (aM60 a) (bM60 a) (tM60 a) () (fun v b tk _ => rM60 v b tk) := by
  intro a
  obtain ⟨a0, a1, a3, k2⟩ := a
  kernel_rfl
theorem om60 (hl : LibFits2 gl) : OddSound Tryd.prog gl (fun g => bif Nat.beq g 60 then some (methE 60 dM60 n60 vM60 (fun _ => cM60) (fun _ => kM60)) else (tabsS11 gl).odd g) :=
  told_meth (t := tabsS11 gl) (okS11 hl) mixed (oddOkS11 hl) Tryd.func60 (by kernel_rfl) (by kernel_rfl) (argsOf := aM60) (boxOf := bM60) (tokOf := tM60) (res := fun _ => rM60) (by kernel_rfl) (fun p hp e he => by
    have hq : segsOf (σ := Unit) (g60 (σ := Unit)) (bodyOf Tryd.f60) = [(0, .loop (loopAt Tryd.f60 0))] := by kernel_rfl
    rw [hq] at hp
    simp only [List.mem_cons, List.not_mem_nil, or_false] at hp
    subst hp
    cases he
    exact Q60_0 hl _ _)
    (fun av bs ts a h => by
      unfold dM60 at h
      split at h
      · cases h; exact ⟨rfl, rfl, rfl⟩
      · cases h)
    (fun a v b tk o h => by
      unfold rM60 at h
      split at h
      · cases h; exact ⟨rfl, rfl, rfl⟩
      · cases h)
    N60

/-! (*sextant/token.scanner).word -/
abbrev A89_0 := Int × ByteArray × List D × Int
inductive O89_0 where
  | x0 (o11 : Int) (o12 : ByteArray) (o13 : List D) (o14 : Int)
def l89_0 : LoopS A89_0 O89_0 where
  n := 38
  ks := [0, 3]
  kso := [0, 3]
  m := 1
  mt := 1
  decV := fun vs bs ts => match vs, bs, ts with
    | [.ptr 0 0, .d (.val (.int .i64 v5))], [.cells none [.d (.val (.string v6)), .osl 0 v7, .d (.val (.int .i64 v8))]], [_] => some (v5, v6, v7, v8)
    | _, _, _ => none
  encV := fun (v5, v6, v7, v8) => [.ptr 0 0, .d (.val (.int .i64 v5))]
  encB := fun (v5, v6, v7, v8) => [.cells none [.d (.val (.string v6)), .osl 0 v7, .d (.val (.int .i64 v8))]]
  tk := fun (v5, v6, v7, v8) => [v7.length]
  decO := fun ex vs bs ts => match ex, vs, bs, ts with
    | .normal, [.ptr 0 0, .d (.val (.int .i64 o11))], [.cells none [.d (.val (.string o12)), .osl 0 o13, .d (.val (.int .i64 o14))]], [_] => some (.x0 o11 o12 o13 o14)
    | _, _, _, _ => none
  exO := fun x => match x with
    | .x0 o11 o12 o13 o14 => .normal
  outV := fun x => match x with
    | .x0 o11 o12 o13 o14 => [.ptr 0 0, .d (.val (.int .i64 o11))]
  outB := fun x => match x with
    | .x0 o11 o12 o13 o14 => [.cells none [.d (.val (.string o12)), .osl 0 o13, .d (.val (.int .i64 o14))]]
  tkO := fun x => match x with
    | .x0 o11 o12 o13 o14 => [o13.length]
  elim := fun x k => match x with
    | .x0 o11 o12 o13 o14 => k .normal [.ptr 0 0, .d (.val (.int .i64 o11))] [.cells none [.d (.val (.string o12)), .osl 0 o13, .d (.val (.int .i64 o14))]] [o13.length]
theorem k89_0 : l89_0.Ok where
  ok1 := by kernel_rfl
  ok2 := by kernel_rfl
  dec := by
    intro vs bs ts a h
    simp only [l89_0] at h ⊢
    split at h
    · cases h; exact ⟨rfl, rfl⟩
    · cases h
  out := by
    intro ex vs bs ts o h
    simp only [l89_0] at h ⊢
    split at h
    · cases h; exact ⟨rfl, rfl, rfl⟩
    · cases h
  len := fun _ => ⟨rfl, rfl⟩
  elim := fun β o k => by cases o <;> rfl
def L89_0 {σ : Type} : Nat → A89_0 → σ → Option (O89_0 × σ)
  | 0, _, _ => none
  | n+1, (v5, v6, v7, v8), s => (bif (decide (v8 < ((v7.length : Nat) : Int))) then ((n87 (v6, v7, v8, 0, v7.length)).bind fun y9 => ((n109 y9.1).bind fun y10 => (bif y10 then (ask (([v7.length] : List Nat) = [v7.length]) (L89_0 n (v5, v6, v7, (w64 (v8 + 1))) s)) else (ask (([v7.length] : List Nat) = [v7.length]) (some (O89_0.x0 v5 v6 v7 v8, s)))))) else (ask (([v7.length] : List Nat) = [v7.length]) (some (O89_0.x0 v5 v6 v7 v8, s))))
def dM89 (av : List AV) (bs : List Box) (ts : List Nat) : Option (ByteArray × List D × Int × Nat) := match av, bs, ts with
  | [.ptr 0 0], [.cells none [.d (.val (.string a0)), .osl 0 a1, .d (.val (.int .i64 a3))]], [k2] => some (a0, a1, a3, k2)
  | _, _, _ => none
def aM89 : (ByteArray × List D × Int × Nat) → List AV := fun (a0, a1, a3, k2) => [.ptr 0 0]
def bM89 : (ByteArray × List D × Int × Nat) → List Box := fun (a0, a1, a3, k2) => [.cells none [.d (.val (.string a0)), .osl 0 a1, .d (.val (.int .i64 a3))]]
def tM89 : (ByteArray × List D × Int × Nat) → List Nat := fun (a0, a1, a3, k2) => [k2]
def vM89 : (ByteArray × ByteArray × List D × Int × Nat) → AV := fun (o21, p22, p23, p24, q25) => .d (.val (.string o21))
def cM89 : (ByteArray × ByteArray × List D × Int × Nat) → List Box := fun (o21, p22, p23, p24, q25) => [.cells none [.d (.val (.string p22)), .osl 0 p23, .d (.val (.int .i64 p24))]]
def kM89 : (ByteArray × ByteArray × List D × Int × Nat) → List Nat := fun (o21, p22, p23, p24, q25) => [q25]
def rM89 (v : AV) (bs : List Box) (ts : List Nat) : Option (ByteArray × ByteArray × List D × Int × Nat) := match v, bs, ts with
  | .d (.val (.string o21)), [.cells none [.d (.val (.string p22)), .osl 0 p23, .d (.val (.int .i64 p24))]], [q25] => some (o21, p22, p23, p24, q25)
  | _, _, _ => none
def n89 : ByteArray × List D × Int × Nat → Option (ByteArray × ByteArray × List D × Int × Nat) := fun (a0, a1, a3, k2) => ((n88 (a0, a1, a3, k2)).bind fun y4 => (ask (([k2] : List Nat) = [a1.length]) ((L89_0 1000000000000 (y4.1, a0, a1, a3) ()).bind fun p15 => match p15.1 with | .x0 z16 z17 z18 z19 => ((n88 (z17, z18, z19, z18.length)).bind fun y20 => (ask (cutOk z16 y20.1 z17.size) (some ((z17.extract (Int.toNat z16) (Int.toNat y20.1)), z17, z18, z19, z18.length)))))))
def g89 {σ : Type} : Nat → Option (SegE σ)
  | 0 => some (l89_0.seg σ (L89_0 1000000000000))
  | _ => none
theorem E89_0 {σ : Type} (Y : Yd σ) : ∀ n a (s : σ), L89_0 (n + 1) a s = evK (cfgOf Tryd.prog (tabsS11 gl) tS11) (toldOf tS11) Y (inlN (cfgOf Tryd.prog (tabsS11 gl) tS11) (toldOf tS11) Y) g89 89 (loopAt Tryd.f89 0) ((l89_0.toT σ).enc a s) (fun ex st' => l89_0.next (cfgOf Tryd.prog (tabsS11 gl) tS11) 89 0 (L89_0 n) ex st') := by
  intro n ⟨v5, v6, v7, v8⟩ s
  kernel_rfl
theorem Q89_0 {σ : Type} (hl : LibFits2 gl) (Y : Yd σ) (rnd : Bool) : SegOk (cfgOf Tryd.prog (tabsS11 gl) tS11) (evFn (cfgOf Tryd.prog (tabsS11 gl) tS11) 9) 89 rnd Y (l89_0.seg σ (L89_0 1000000000000)) (.block 0 (.loop (loopAt Tryd.f89 0))) :=
  told_loop (okS11 hl) k89_0 (by kernel_rfl) (by kernel_rfl) (fun _ _ => rfl) (segs_no (by kernel_rfl)) (E89_0 Y)
theorem N89 : ∀ a, n89 a = bodyK (cfgOf Tryd.prog (tabsS11 gl) tS11) (toldOf tS11) noY (inlN (cfgOf Tryd.prog (tabsS11 gl) tS11) (toldOf tS11) noY) g89 89 Tryd.f89 (aM89 a) (bM89 a) (tM89 a) () (fun v b tk _ => rM89 v b tk) := by
  intro a
  obtain ⟨a0, a1, a3, k2⟩ := a
  kernel_rfl
theorem om89 (hl : LibFits2 gl) : OddSound Tryd.prog gl (fun g => bif Nat.beq g 89 then some (methE 89 dM89 n89 vM89 (fun _ => cM89) (fun _ => kM89)) else (tabsS11 gl).odd g) :=
  told_meth (t := tabsS11 gl) (okS11 hl) mixed (oddOkS11 hl) Tryd.func89 (by kernel_rfl) (by kernel_rfl) (argsOf := aM89) (boxOf := bM89) (tokOf := tM89) (res := fun _ => rM89) (by kernel_rfl) (fun p hp e he => by
    have hq : segsOf (σ := Unit) (g89 (σ := Unit)) (bodyOf Tryd.f89) = [(0, .loop (loopAt Tryd.f89 0))] := by kernel_rfl
    rw [hq] at hp
    simp only [List.mem_cons, List.not_mem_nil, or_false] at hp
    subst hp
    cases he
    exact Q89_0 hl _ _)
    (fun av bs ts a h => by
      unfold dM89 at h
      split at h
      · cases h; exact ⟨rfl, rfl, rfl⟩
      · cases h)
    (fun a v b tk o h => by
      unfold rM89 at h
      split at h
      · cases h; exact ⟨rfl, rfl, rfl⟩
      · cases h)
    N89

/-! (*sextant/sextantref09.Scanner).skip -/
abbrev A62_2 := ByteArray × List D × Int
inductive O62_2 where
  | x0 (o19 : ByteArray) (o20 : List D) (o21 : Int)
def l62_2 : LoopS A62_2 O62_2 where
  n := 85
  ks := [0]
  kso := [0]
  m := 1
  mt := 0
  decV := fun vs bs ts => match vs, bs, ts with
    | [.ptr 0 0], [.cells none [.d (.val (.string v13)), .d (.slice v14), .d (.val (.int .i64 v15))]], [] => some (v13, v14, v15)
    | _, _, _ => none
  encV := fun (v13, v14, v15) => [.ptr 0 0]
  encB := fun (v13, v14, v15) => [.cells none [.d (.val (.string v13)), .d (.slice v14), .d (.val (.int .i64 v15))]]
  tk := fun _ => []
  decO := fun ex vs bs ts => match ex, vs, bs, ts with
    | .normal, [.ptr 0 0], [.cells none [.d (.val (.string o19)), .d (.slice o20), .d (.val (.int .i64 o21))]], [] => some (.x0 o19 o20 o21)
    | _, _, _, _ => none
  exO := fun x => match x with
    | .x0 o19 o20 o21 => .normal
  outV := fun x => match x with
    | .x0 o19 o20 o21 => [.ptr 0 0]
  outB := fun x => match x with
    | .x0 o19 o20 o21 => [.cells none [.d (.val (.string o19)), .d (.slice o20), .d (.val (.int .i64 o21))]]
  tkO := fun x => match x with
    | .x0 o19 o20 o21 => []
  elim := fun x k => match x with
    | .x0 o19 o20 o21 => k .normal [.ptr 0 0] [.cells none [.d (.val (.string o19)), .d (.slice o20), .d (.val (.int .i64 o21))]] []
theorem k62_2 : l62_2.Ok where
  ok1 := by kernel_rfl
  ok2 := by kernel_rfl
  dec := by
    intro vs bs ts a h
    simp only [l62_2] at h ⊢
    split at h
    · cases h; exact ⟨rfl, rfl⟩
    · cases h
  out := by
    intro ex vs bs ts o h
    simp only [l62_2] at h ⊢
    split at h
    · cases h; exact ⟨rfl, rfl, rfl⟩
    · cases h
  len := fun _ => ⟨rfl, rfl⟩
  elim := fun β o k => by cases o <;> rfl
def L62_2 {σ : Type} : Nat → A62_2 → σ → Option (O62_2 × σ)
  | 0, _, _ => none
  | n+1, (v13, v14, v15), s => (bif (decide (v15 < ((v14.length : Nat) : Int))) then ((lidx v14 v15).bind fun d16 => ask (d16.cells.length = 3) ((cellAt 0 d16).bind fun x17 => (asInt .i64 x17).bind fun x18 => (bif (x18 != 10) then (L62_2 n (v13, v14, (w64 (v15 + 1))) s) else (some (O62_2.x0 v13 v14 v15, s))))) else (some (O62_2.x0 v13 v14 v15, s)))

abbrev A62_0 := ByteArray × List D × Int
inductive O62_0 where
  | x0 (o9 : ByteArray) (o10 : List D) (o11 : Int)
  | x1 (o26 : ByteArray) (o27 : List D) (o28 : Int)
def l62_0 : LoopS A62_0 O62_0 where
  n := 85
  ks := [0]
  kso := []
  m := 1
  mt := 0
  decV := fun vs bs ts => match vs, bs, ts with
    | [.ptr 0 0], [.cells none [.d (.val (.string v3)), .d (.slice v4), .d (.val (.int .i64 v5))]], [] => some (v3, v4, v5)
    | _, _, _ => none
  encV := fun (v3, v4, v5) => [.ptr 0 0]
  encB := fun (v3, v4, v5) => [.cells none [.d (.val (.string v3)), .d (.slice v4), .d (.val (.int .i64 v5))]]
  tk := fun _ => []
  decO := fun ex vs bs ts => match ex, vs, bs, ts with
    | .ret, [], [.cells none [.d (.val (.string o9)), .d (.slice o10), .d (.val (.int .i64 o11))]], [] => some (.x0 o9 o10 o11)
    | .normal, [], [.cells none [.d (.val (.string o26)), .d (.slice o27), .d (.val (.int .i64 o28))]], [] => some (.x1 o26 o27 o28)
    | _, _, _, _ => none
  exO := fun x => match x with
    | .x0 o9 o10 o11 => .ret
    | .x1 o26 o27 o28 => .normal
  outV := fun x => match x with
    | .x0 o9 o10 o11 => []
    | .x1 o26 o27 o28 => []
  outB := fun x => match x with
    | .x0 o9 o10 o11 => [.cells none [.d (.val (.string o9)), .d (.slice o10), .d (.val (.int .i64 o11))]]
    | .x1 o26 o27 o28 => [.cells none [.d (.val (.string o26)), .d (.slice o27), .d (.val (.int .i64 o28))]]
  tkO := fun x => match x with
    | .x0 o9 o10 o11 => []
    | .x1 o26 o27 o28 => []
  elim := fun x k => match x with
    | .x0 o9 o10 o11 => k .ret [] [.cells none [.d (.val (.string o9)), .d (.slice o10), .d (.val (.int .i64 o11))]] []
    | .x1 o26 o27 o28 => k .normal [] [.cells none [.d (.val (.string o26)), .d (.slice o27), .d (.val (.int .i64 o28))]] []
theorem k62_0 : l62_0.Ok where
  ok1 := by kernel_rfl
  ok2 := by kernel_rfl
  dec := by
    intro vs bs ts a h
    simp only [l62_0] at h ⊢
    split at h
    · cases h; exact ⟨rfl, rfl⟩
    · cases h
  out := by
    intro ex vs bs ts o h
    simp only [l62_0] at h ⊢
    split at h
    · cases h; exact ⟨rfl, rfl, rfl⟩
    · cases h; exact ⟨rfl, rfl, rfl⟩
    · cases h
  len := fun _ => ⟨rfl, rfl⟩
  elim := fun β o k => by cases o <;> rfl
def L62_0 {σ : Type} : Nat → A62_0 → σ → Option (O62_0 × σ)
  | 0, _, _ => none
  | n+1, (v3, v4, v5), s => (bif (decide (v5 < ((v4.length : Nat) : Int))) then ((lidx v4 v5).bind fun d6 => ask (d6.cells.length = 3) ((cellAt 0 d6).bind fun x7 => (asInt .i64 x7).bind fun x8 => (bif (bif (bif (bif (x8 == 32) then true else (x8 == 9)) then true else (x8 == 10)) then true else (x8 == 13)) then (L62_0 n (v3, v4, (w64 (v5 + 1))) s) else (bif (x8 != 47) then (some (O62_0.x0 v3 v4 v5, s)) else ((n92 (v3, v4, v5, 1, 47)).bind fun y12 => (bif (!y12.1) then (some (O62_0.x0 v3 v4 v5, s)) else ((L62_2 1000000000000 (v3, v4, v5) s).bind fun p22 => match p22.1 with | .x0 z23 z24 z25 => (L62_0 n (z23, z24, z25) p22.2)))))))) else (some (O62_0.x1 v3 v4 v5, s)))
def dM62 (av : List AV) (bs : List Box) (ts : List Nat) : Option (ByteArray × List D × Int) := match av, bs, ts with
  | [.ptr 0 0], [.cells none [.d (.val (.string a0)), .d (.slice a1), .d (.val (.int .i64 a2))]], [] => some (a0, a1, a2)
  | _, _, _ => none
def aM62 : (ByteArray × List D × Int) → List AV := fun (a0, a1, a2) => [.ptr 0 0]
def bM62 : (ByteArray × List D × Int) → List Box := fun (a0, a1, a2) => [.cells none [.d (.val (.string a0)), .d (.slice a1), .d (.val (.int .i64 a2))]]
def tM62 : (ByteArray × List D × Int) → List Nat := fun (a0, a1, a2) => []
def vM62 : (ByteArray × List D × Int) → AV := fun (p33, p34, p35) => .tup []
def cM62 : (ByteArray × List D × Int) → List Box := fun (p33, p34, p35) => [.cells none [.d (.val (.string p33)), .d (.slice p34), .d (.val (.int .i64 p35))]]
def kM62 : (ByteArray × List D × Int) → List Nat := fun (p33, p34, p35) => []
def rM62 (v : AV) (bs : List Box) (ts : List Nat) : Option (ByteArray × List D × Int) := match v, bs, ts with
  | .tup [], [.cells none [.d (.val (.string p33)), .d (.slice p34), .d (.val (.int .i64 p35))]], [] => some (p33, p34, p35)
  | _, _, _ => none
def n62 : ByteArray × List D × Int → Option (ByteArray × List D × Int) := fun (a0, a1, a2) => ((L62_0 1000000000000 (a0, a1, a2) ()).bind fun p29 => match p29.1 with | .x0 z30 z31 z32 => (some (z30, z31, z32)) | .x1 z36 z37 z38 => (some (z36, z37, z38)))
def g62 {σ : Type} : Nat → Option (SegE σ)
  | 2 => some (l62_2.seg σ (L62_2 1000000000000))
  | 0 => some (l62_0.seg σ (L62_0 1000000000000))
  | _ => none
theorem E62_2 {σ : Type} (Y : Yd σ) : ∀ n a (s : σ), L62_2 (n + 1) a s = evK (cfgOf Tryd.prog (tabsS11 gl) tS11) (toldOf tS11) Y (inlN (cfgOf Tryd.prog (tabsS11 gl) tS11) (toldOf tS11) Y) g62 62 (loopAt Tryd.f62 2) ((l62_2.toT σ).enc a s) (fun ex st' => l62_2.next (cfgOf Tryd.prog (tabsS11 gl) tS11) 62 2 (L62_2 n) ex st') := by
  intro n ⟨v13, v14, v15⟩ s
  kernel_rfl
theorem Q62_2 {σ : Type} (hl : LibFits2 gl) (Y : Yd σ) (rnd : Bool) : SegOk (cfgOf Tryd.prog (tabsS11 gl) tS11) (evFn (cfgOf Tryd.prog (tabsS11 gl) tS11) 9) 62 rnd Y (l62_2.seg σ (L62_2 1000000000000)) (.block 2 (.loop (loopAt Tryd.f62 2))) :=
  told_loop (okS11 hl) k62_2 (by kernel_rfl) (by kernel_rfl) (fun _ _ => rfl) (segs_no (by kernel_rfl)) (E62_2 Y)
theorem E62_0 {σ : Type} (Y : Yd σ) : ∀ n a (s : σ), L62_0 (n + 1) a s = evK (cfgOf Tryd.prog (tabsS11 gl) tS11) (toldOf tS11) Y (inlN (cfgOf Tryd.prog (tabsS11 gl) tS11) (toldOf tS11) Y) g62 62 (loopAt Tryd.f62 0) ((l62_0.toT σ).enc a s) (fun ex st' => l62_0.next (cfgOf Tryd.prog (tabsS11 gl) tS11) 62 0 (L62_0 n) ex st') := by
  intro n ⟨v3, v4, v5⟩ s
  kernel_rfl
theorem Q62_0 {σ : Type} (hl : LibFits2 gl) (Y : Yd σ) (rnd : Bool) : SegOk (cfgOf Tryd.prog (tabsS11 gl) tS11) (evFn (cfgOf Tryd.prog (tabsS11 gl) tS11) 9) 62 rnd Y (l62_0.seg σ (L62_0 1000000000000)) (.block 0 (.loop (loopAt Tryd.f62 0))) :=
  told_loop (okS11 hl) k62_0 (by kernel_rfl) (by kernel_rfl) (fun _ _ => rfl) (fun p hp e he => by
    have hq : segsOf (σ := σ) (g62 (σ := σ)) (loopAt Tryd.f62 0) = [(2, .loop (loopAt Tryd.f62 2))] := by kernel_rfl
    rw [hq] at hp
    simp only [List.mem_cons, List.not_mem_nil, or_false] at hp
    subst hp
    cases he
    exact Q62_2 hl _ _) (E62_0 Y)
theorem N62 : ∀ a, n62 a = bodyK (cfgOf Tryd.prog (tabsS11 gl) tS11) (toldOf tS11) noY (inlN (cfgOf Tryd.prog (tabsS11 gl) tS11) (toldOf tS11) noY) g62 62 Tryd.f62 (aM62 a) (bM62 a) (tM62 a) () (fun v b tk _ => rM62 v b tk) := by
  intro a
  obtain ⟨a0, a1, a2⟩ := a
  kernel_rfl
theorem om62 (hl : LibFits2 gl) : OddSound Tryd.prog gl (fun g => bif Nat.beq g 62 then some (methE 62 dM62 n62 vM62 (fun _ => cM62) (fun _ => kM62)) else (tabsS11 gl).odd g) :=
  told_meth (t := tabsS11 gl) (okS11 hl) mixed (oddOkS11 hl) Tryd.func62 (by kernel_rfl) (by kernel_rfl) (argsOf := aM62) (boxOf := bM62) (tokOf := tM62) (res := fun _ => rM62) (by kernel_rfl) (fun p hp e he => by
    have hq : segsOf (σ := Unit) (g62 (σ := Unit)) (bodyOf Tryd.f62) = [(0, .loop (loopAt Tryd.f62 0))] := by kernel_rfl
    rw [hq] at hp
    simp only [List.mem_cons, List.not_mem_nil, or_false] at hp
    subst hp
    cases he
    exact Q62_0 hl _ _)
    (fun av bs ts a h => by
      unfold dM62 at h
      split at h
      · cases h; exact ⟨rfl, rfl, rfl⟩
      · cases h)
    (fun a v b tk o h => by
      unfold rM62 at h
      split at h
      · cases h; exact ⟨rfl, rfl, rfl⟩
      · cases h)
    N62

/-! (*sextant/sextantref09.Scanner).row -/
abbrev A94_0 := Int × Int × ByteArray × List D × Int
inductive O94_0 where
  | x0 (o13 : Int) (o14 : Int) (o15 : ByteArray) (o16 : List D) (o17 : Int)
def l94_0 : LoopS A94_0 O94_0 where
  n := 72
  ks := [0, 1, 5]
  kso := [0, 1, 5]
  m := 1
  mt := 0
  decV := fun vs bs ts => match vs, bs, ts with
    | [.ptr 0 0, .d (.val (.int .i64 v4)), .d (.val (.int .i64 v5))], [.cells none [.d (.val (.string v6)), .d (.slice v7), .d (.val (.int .i64 v8))]], [] => some (v4, v5, v6, v7, v8)
    | _, _, _ => none
  encV := fun (v4, v5, v6, v7, v8) => [.ptr 0 0, .d (.val (.int .i64 v4)), .d (.val (.int .i64 v5))]
  encB := fun (v4, v5, v6, v7, v8) => [.cells none [.d (.val (.string v6)), .d (.slice v7), .d (.val (.int .i64 v8))]]
  tk := fun _ => []
  decO := fun ex vs bs ts => match ex, vs, bs, ts with
    | .normal, [.ptr 0 0, .d (.val (.int .i64 o13)), .d (.val (.int .i64 o14))], [.cells none [.d (.val (.string o15)), .d (.slice o16), .d (.val (.int .i64 o17))]], [] => some (.x0 o13 o14 o15 o16 o17)
    | _, _, _, _ => none
  exO := fun x => match x with
    | .x0 o13 o14 o15 o16 o17 => .normal
  outV := fun x => match x with
    | .x0 o13 o14 o15 o16 o17 => [.ptr 0 0, .d (.val (.int .i64 o13)), .d (.val (.int .i64 o14))]
  outB := fun x => match x with
    | .x0 o13 o14 o15 o16 o17 => [.cells none [.d (.val (.string o15)), .d (.slice o16), .d (.val (.int .i64 o17))]]
  tkO := fun x => match x with
    | .x0 o13 o14 o15 o16 o17 => []
  elim := fun x k => match x with
    | .x0 o13 o14 o15 o16 o17 => k .normal [.ptr 0 0, .d (.val (.int .i64 o13)), .d (.val (.int .i64 o14))] [.cells none [.d (.val (.string o15)), .d (.slice o16), .d (.val (.int .i64 o17))]] []
theorem k94_0 : l94_0.Ok where
  ok1 := by kernel_rfl
  ok2 := by kernel_rfl
  dec := by
    intro vs bs ts a h
    simp only [l94_0] at h ⊢
    split at h
    · cases h; exact ⟨rfl, rfl⟩
    · cases h
  out := by
    intro ex vs bs ts o h
    simp only [l94_0] at h ⊢
    split at h
    · cases h; exact ⟨rfl, rfl, rfl⟩
    · cases h
  len := fun _ => ⟨rfl, rfl⟩
  elim := fun β o k => by cases o <;> rfl
def L94_0 {σ : Type} : Nat → A94_0 → σ → Option (O94_0 × σ)
  | 0, _, _ => none
  | n+1, (v4, v5, v6, v7, v8), s => (bif (decide (v5 < ((v7.length : Nat) : Int))) then ((lidx v7 v5).bind fun d9 => ask (d9.cells.length = 3) ((cellAt 0 d9).bind fun x10 => (asInt .i64 x10).bind fun x11 => ((n72 x11).bind fun y12 => (bif y12 then (L94_0 n (v4, (w64 (v5 + 1)), v6, v7, v8) s) else (some (O94_0.x0 v4 v5 v6 v7 v8, s)))))) else (some (O94_0.x0 v4 v5 v6 v7 v8, s)))

abbrev A94_2 := Int × ByteArray × Int × ByteArray × List D × Int
inductive O94_2 where
  | x0 (o39 : Int) (o40 : ByteArray) (o41 : ByteArray) (o42 : List D) (o43 : Int)
def l94_2 : LoopS A94_2 O94_2 where
  n := 72
  ks := [0, 5, 6, 7]
  kso := [0, 5, 6]
  m := 1
  mt := 0
  decV := fun vs bs ts => match vs, bs, ts with
    | [.ptr 0 0, .d (.val (.int .i64 v24)), .d (.val (.string v25)), .d (.val (.int .i64 v26))], [.cells none [.d (.val (.string v27)), .d (.slice v28), .d (.val (.int .i64 v29))]], [] => some (v24, v25, v26, v27, v28, v29)
    | _, _, _ => none
  encV := fun (v24, v25, v26, v27, v28, v29) => [.ptr 0 0, .d (.val (.int .i64 v24)), .d (.val (.string v25)), .d (.val (.int .i64 v26))]
  encB := fun (v24, v25, v26, v27, v28, v29) => [.cells none [.d (.val (.string v27)), .d (.slice v28), .d (.val (.int .i64 v29))]]
  tk := fun _ => []
  decO := fun ex vs bs ts => match ex, vs, bs, ts with
    | .normal, [.ptr 0 0, .d (.val (.int .i64 o39)), .d (.val (.string o40))], [.cells none [.d (.val (.string o41)), .d (.slice o42), .d (.val (.int .i64 o43))]], [] => some (.x0 o39 o40 o41 o42 o43)
    | _, _, _, _ => none
  exO := fun x => match x with
    | .x0 o39 o40 o41 o42 o43 => .normal
  outV := fun x => match x with
    | .x0 o39 o40 o41 o42 o43 => [.ptr 0 0, .d (.val (.int .i64 o39)), .d (.val (.string o40))]
  outB := fun x => match x with
    | .x0 o39 o40 o41 o42 o43 => [.cells none [.d (.val (.string o41)), .d (.slice o42), .d (.val (.int .i64 o43))]]
  tkO := fun x => match x with
    | .x0 o39 o40 o41 o42 o43 => []
  elim := fun x k => match x with
    | .x0 o39 o40 o41 o42 o43 => k .normal [.ptr 0 0, .d (.val (.int .i64 o39)), .d (.val (.string o40))] [.cells none [.d (.val (.string o41)), .d (.slice o42), .d (.val (.int .i64 o43))]] []
theorem k94_2 : l94_2.Ok where
  ok1 := by kernel_rfl
  ok2 := by kernel_rfl
  dec := by
    intro vs bs ts a h
    simp only [l94_2] at h ⊢
    split at h
    · cases h; exact ⟨rfl, rfl⟩
    · cases h
  out := by
    intro ex vs bs ts o h
    simp only [l94_2] at h ⊢
    split at h
    · cases h; exact ⟨rfl, rfl, rfl⟩
    · cases h
  len := fun _ => ⟨rfl, rfl⟩
  elim := fun β o k => by cases o <;> rfl
def L94_2 {σ : Type} : Nat → A94_2 → σ → Option (O94_2 × σ)
  | 0, _, _ => none
  | n+1, (v24, v25, v26, v27, v28, v29), s => (bif (decide (v26 < v24)) then ((lidx v28 v26).bind fun d30 => ask (d30.cells.length = 3) ((cellAt 1 d30).bind fun x31 => (asInt .i64 x31).bind fun x32 => ((lidx v28 v26).bind fun d33 => ask (d33.cells.length = 3) ((cellAt 1 d33).bind fun x34 => (asInt .i64 x34).bind fun x35 => ((lidx v28 v26).bind fun d36 => ask (d36.cells.length = 3) ((cellAt 2 d36).bind fun x37 => (asInt .i64 x37).bind fun x38 => (ask (cutOk x32 (w64 (x35 + x38)) v27.size) (ask (catOk v25 (v27.extract (Int.toNat x32) (Int.toNat (w64 (x35 + x38))))) (L94_2 n (v24, (v25 ++ (v27.extract (Int.toNat x32) (Int.toNat (w64 (x35 + x38))))), (w64 (v26 + 1)), v27, v28, v29) s))))))))) else (some (O94_2.x0 v24 v25 v27 v28 v29, s)))
def dM94 (av : List AV) (bs : List Box) (ts : List Nat) : Option (ByteArray × List D × Int × Int) := match av, bs, ts with
  | [.ptr 0 0, .d (.val (.int .i64 a3))], [.cells none [.d (.val (.string a0)), .d (.slice a1), .d (.val (.int .i64 a2))]], [] => some (a0, a1, a2, a3)
  | _, _, _ => none
def aM94 : (ByteArray × List D × Int × Int) → List AV := fun (a0, a1, a2, a3) => [.ptr 0 0, .d (.val (.int .i64 a3))]
def bM94 : (ByteArray × List D × Int × Int) → List Box := fun (a0, a1, a2, a3) => [.cells none [.d (.val (.string a0)), .d (.slice a1), .d (.val (.int .i64 a2))]]
def tM94 : (ByteArray × List D × Int × Int) → List Nat := fun (a0, a1, a2, a3) => []
def vM94 : (ByteArray × ByteArray × List D × Int) → AV := fun (o50, p51, p52, p53) => .d (.val (.string o50))
def cM94 : (ByteArray × ByteArray × List D × Int) → List Box := fun (o50, p51, p52, p53) => [.cells none [.d (.val (.string p51)), .d (.slice p52), .d (.val (.int .i64 p53))]]
def kM94 : (ByteArray × ByteArray × List D × Int) → List Nat := fun (o50, p51, p52, p53) => []
def rM94 (v : AV) (bs : List Box) (ts : List Nat) : Option (ByteArray × ByteArray × List D × Int) := match v, bs, ts with
  | .d (.val (.string o50)), [.cells none [.d (.val (.string p51)), .d (.slice p52), .d (.val (.int .i64 p53))]], [] => some (o50, p51, p52, p53)
  | _, _, _ => none
def n94 : ByteArray × List D × Int × Int → Option (ByteArray × ByteArray × List D × Int) := fun (a0, a1, a2, a3) => ((L94_0 1000000000000 (a3, a3, a0, a1, a2) ()).bind fun p18 => match p18.1 with | .x0 z19 z20 z21 z22 z23 => ((L94_2 1000000000000 (z20, (⟨#[]⟩ : ByteArray), z19, z21, z22, z23) p18.2).bind fun p44 => match p44.1 with | .x0 z45 z46 z47 z48 z49 => (some (z46, z47, z48, z45))))
def g94 {σ : Type} : Nat → Option (SegE σ)
  | 0 => some (l94_0.seg σ (L94_0 1000000000000))
  | 2 => some (l94_2.seg σ (L94_2 1000000000000))
  | _ => none
theorem E94_0 {σ : Type} (Y : Yd σ) : ∀ n a (s : σ), L94_0 (n + 1) a s = evK (cfgOf Tryd.prog (tabsS11 gl) tS11) (toldOf tS11) Y (inlN (cfgOf Tryd.prog (tabsS11 gl) tS11) (toldOf tS11) Y) g94 94 (loopAt Tryd.f94 0) ((l94_0.toT σ).enc a s) (fun ex st' => l94_0.next (cfgOf Tryd.prog (tabsS11 gl) tS11) 94 0 (L94_0 n) ex st') := by
  intro n ⟨v4, v5, v6, v7, v8⟩ s
  kernel_rfl
theorem Q94_0 {σ : Type} (hl : LibFits2 gl) (Y : Yd σ) (rnd : Bool) : SegOk (cfgOf Tryd.prog (tabsS11 gl) tS11) (evFn (cfgOf Tryd.prog (tabsS11 gl) tS11) 9) 94 rnd Y (l94_0.seg σ (L94_0 1000000000000)) (.block 0 (.loop (loopAt Tryd.f94 0))) :=
  told_loop (okS11 hl) k94_0 (by kernel_rfl) (by kernel_rfl) (fun _ _ => rfl) (segs_no (by kernel_rfl)) (E94_0 Y)
theorem E94_2 {σ : Type} (Y : Yd σ) : ∀ n a (s : σ), L94_2 (n + 1) a s = evK (cfgOf Tryd.prog (tabsS11 gl) tS11) (toldOf tS11) Y (inlN (cfgOf Tryd.prog (tabsS11 gl) tS11) (toldOf tS11) Y) g94 94 (loopAt Tryd.f94 2) ((l94_2.toT σ).enc a s) (fun ex st' => l94_2.next (cfgOf Tryd.prog (tabsS11 gl) tS11) 94 2 (L94_2 n) ex st') := by
  intro n ⟨v24, v25, v26, v27, v28, v29⟩ s
  kernel_rfl
theorem Q94_2 {σ : Type} (hl : LibFits2 gl) (Y : Yd σ) (rnd : Bool) : SegOk (cfgOf Tryd.prog (tabsS11 gl) tS11) (evFn (cfgOf Tryd.prog (tabsS11 gl) tS11) 9) 94 rnd Y (l94_2.seg σ (L94_2 1000000000000)) (.block 2 (.loop (loopAt Tryd.f94 2))) :=
  told_loop (okS11 hl) k94_2 (by kernel_rfl) (by kernel_rfl) (fun _ _ => rfl) (segs_no (by kernel_rfl)) (E94_2 Y)
theorem N94 : ∀ a, n94 a = bodyK (cfgOf Tryd.prog (tabsS11 gl) tS11) (toldOf tS11) noY (inlN (cfgOf Tryd.prog (tabsS11 gl) tS11) (toldOf tS11) noY) g94 94 Tryd.f94 (aM94 a) (bM94 a) (tM94 a) () (fun v b tk _ => rM94 v b tk) := by
  intro a
  obtain ⟨a0, a1, a2, a3⟩ := a
  kernel_rfl
theorem om94 (hl : LibFits2 gl) : OddSound Tryd.prog gl (fun g => bif Nat.beq g 94 then some (methE 94 dM94 n94 vM94 (fun _ => cM94) (fun _ => kM94)) else (tabsS11 gl).odd g) :=
  told_meth (t := tabsS11 gl) (okS11 hl) mixed (oddOkS11 hl) Tryd.func94 (by kernel_rfl) (by kernel_rfl) (argsOf := aM94) (boxOf := bM94) (tokOf := tM94) (res := fun _ => rM94) (by kernel_rfl) (fun p hp e he => by
    have hq : segsOf (σ := Unit) (g94 (σ := Unit)) (bodyOf Tryd.f94) = [(0, .loop (loopAt Tryd.f94 0)), (2, .loop (loopAt Tryd.f94 2))] := by kernel_rfl
    rw [hq] at hp
    simp only [List.mem_cons, List.not_mem_nil, or_false] at hp
    rcases hp with rfl | rfl
    · cases he; exact Q94_0 hl _ _
    · cases he; exact Q94_2 hl _ _
    )
    (fun av bs ts a h => by
      unfold dM94 at h
      split at h
      · cases h; exact ⟨rfl, rfl, rfl⟩
      · cases h)
    (fun a v b tk o h => by
      unfold rM94 at h
      split at h
      · cases h; exact ⟨rfl, rfl, rfl⟩
      · cases h)
    N94

/-! (*sextant/sextantref09.Scanner).letter -/
def dM95 (av : List AV) (bs : List Box) (ts : List Nat) : Option (ByteArray × List D × Int × Int) := match av, bs, ts with
  | [.ptr 0 0, .d (.val (.int .i64 a3))], [.cells none [.d (.val (.string a0)), .d (.slice a1), .d (.val (.int .i64 a2))]], [] => some (a0, a1, a2, a3)
  | _, _, _ => none
def aM95 : (ByteArray × List D × Int × Int) → List AV := fun (a0, a1, a2, a3) => [.ptr 0 0, .d (.val (.int .i64 a3))]
def bM95 : (ByteArray × List D × Int × Int) → List Box := fun (a0, a1, a2, a3) => [.cells none [.d (.val (.string a0)), .d (.slice a1), .d (.val (.int .i64 a2))]]
def tM95 : (ByteArray × List D × Int × Int) → List Nat := fun (a0, a1, a2, a3) => []
def vM95 : (Bool × ByteArray × List D × Int) → AV := fun (o8, p9, p10, p11) => .d (.val (.bool o8))
def cM95 : (Bool × ByteArray × List D × Int) → List Box := fun (o8, p9, p10, p11) => [.cells none [.d (.val (.string p9)), .d (.slice p10), .d (.val (.int .i64 p11))]]
def kM95 : (Bool × ByteArray × List D × Int) → List Nat := fun (o8, p9, p10, p11) => []
def rM95 (v : AV) (bs : List Box) (ts : List Nat) : Option (Bool × ByteArray × List D × Int) := match v, bs, ts with
  | .d (.val (.bool o8)), [.cells none [.d (.val (.string p9)), .d (.slice p10), .d (.val (.int .i64 p11))]], [] => some (o8, p9, p10, p11)
  | _, _, _ => none
def n95 : ByteArray × List D × Int × Int → Option (Bool × ByteArray × List D × Int) := fun (a0, a1, a2, a3) => (bif (decide ((w64 (a2 + a3)) < ((a1.length : Nat) : Int))) then ((lidx a1 (w64 (a2 + a3))).bind fun d4 => ask (d4.cells.length = 3) ((cellAt 0 d4).bind fun x5 => (asInt .i64 x5).bind fun x6 => ((n38 x6).bind fun y7 => (some (y7, a0, a1, a2))))) else (some (false, a0, a1, a2)))
def g95 {σ : Type} : Nat → Option (SegE σ)
  | _ => none
theorem N95 : ∀ a, n95 a = bodyK (cfgOf Tryd.prog (tabsS11 gl) tS11) (toldOf tS11) noY (inlN (cfgOf Tryd.prog (tabsS11 gl) tS11) (toldOf tS11) noY) g95 95 Tryd.f95 (aM95 a) (bM95 a) (tM95 a) () (fun v b tk _ => rM95 v b tk) := by
  intro a
  obtain ⟨a0, a1, a2, a3⟩ := a
  kernel_rfl
theorem om95 (hl : LibFits2 gl) : OddSound Tryd.prog gl (fun g => bif Nat.beq g 95 then some (methE 95 dM95 n95 vM95 (fun _ => cM95) (fun _ => kM95)) else (tabsS11 gl).odd g) :=
  told_meth (t := tabsS11 gl) (okS11 hl) mixed (oddOkS11 hl) Tryd.func95 (by kernel_rfl) (by kernel_rfl) (argsOf := aM95) (boxOf := bM95) (tokOf := tM95) (res := fun _ => rM95) (by kernel_rfl) (segs_no (by kernel_rfl))
    (fun av bs ts a h => by
      unfold dM95 at h
      split at h
      · cases h; exact ⟨rfl, rfl, rfl⟩
      · cases h)
    (fun a v b tk o h => by
      unfold rM95 at h
      split at h
      · cases h; exact ⟨rfl, rfl, rfl⟩
      · cases h)
    N95

/-! (*sextant/sextantref09.Scanner).mark -/
abbrev A96_0 := Int × List D × Int × ByteArray × List D × Int
inductive O96_0 where
  | x0 (o22 : ByteArray) (o23 : ByteArray) (o24 : List D) (o25 : Int)
  | x1 (o26 : ByteArray) (o27 : List D) (o28 : Int)
def l96_0 : LoopS A96_0 O96_0 where
  n := 59
  ks := [0, 3, 4, 5]
  kso := [2]
  m := 1
  mt := 0
  decV := fun vs bs ts => match vs, bs, ts with
    | [.ptr 0 0, .d (.val (.int .i64 v7)), .d (.slice v8), .d (.val (.int .i64 v9))], [.cells none [.d (.val (.string v10)), .d (.slice v11), .d (.val (.int .i64 v12))]], [] => some (v7, v8, v9, v10, v11, v12)
    | _, _, _ => none
  encV := fun (v7, v8, v9, v10, v11, v12) => [.ptr 0 0, .d (.val (.int .i64 v7)), .d (.slice v8), .d (.val (.int .i64 v9))]
  encB := fun (v7, v8, v9, v10, v11, v12) => [.cells none [.d (.val (.string v10)), .d (.slice v11), .d (.val (.int .i64 v12))]]
  tk := fun _ => []
  decO := fun ex vs bs ts => match ex, vs, bs, ts with
    | .ret, [.d (.val (.string o22))], [.cells none [.d (.val (.string o23)), .d (.slice o24), .d (.val (.int .i64 o25))]], [] => some (.x0 o22 o23 o24 o25)
    | .normal, [.undef], [.cells none [.d (.val (.string o26)), .d (.slice o27), .d (.val (.int .i64 o28))]], [] => some (.x1 o26 o27 o28)
    | _, _, _, _ => none
  exO := fun x => match x with
    | .x0 o22 o23 o24 o25 => .ret
    | .x1 o26 o27 o28 => .normal
  outV := fun x => match x with
    | .x0 o22 o23 o24 o25 => [.d (.val (.string o22))]
    | .x1 o26 o27 o28 => [.undef]
  outB := fun x => match x with
    | .x0 o22 o23 o24 o25 => [.cells none [.d (.val (.string o23)), .d (.slice o24), .d (.val (.int .i64 o25))]]
    | .x1 o26 o27 o28 => [.cells none [.d (.val (.string o26)), .d (.slice o27), .d (.val (.int .i64 o28))]]
  tkO := fun x => match x with
    | .x0 o22 o23 o24 o25 => []
    | .x1 o26 o27 o28 => []
  elim := fun x k => match x with
    | .x0 o22 o23 o24 o25 => k .ret [.d (.val (.string o22))] [.cells none [.d (.val (.string o23)), .d (.slice o24), .d (.val (.int .i64 o25))]] []
    | .x1 o26 o27 o28 => k .normal [.undef] [.cells none [.d (.val (.string o26)), .d (.slice o27), .d (.val (.int .i64 o28))]] []
theorem k96_0 : l96_0.Ok where
  ok1 := by kernel_rfl
  ok2 := by kernel_rfl
  dec := by
    intro vs bs ts a h
    simp only [l96_0] at h ⊢
    split at h
    · cases h; exact ⟨rfl, rfl⟩
    · cases h
  out := by
    intro ex vs bs ts o h
    simp only [l96_0] at h ⊢
    split at h
    · cases h; exact ⟨rfl, rfl, rfl⟩
    · cases h; exact ⟨rfl, rfl, rfl⟩
    · cases h
  len := fun _ => ⟨rfl, rfl⟩
  elim := fun β o k => by cases o <;> rfl
def L96_0 {σ : Type} : Nat → A96_0 → σ → Option (O96_0 × σ)
  | 0, _, _ => none
  | n+1, (v7, v8, v9, v10, v11, v12), s => (bif (decide (v9 < ((v8.length : Nat) : Int))) then ((lidx v8 v9).bind fun d13 => ask (d13.cells.length = 1) ((cellAt 0 d13).bind fun x14 => (asStr x14).bind fun x15 => (bif (decide ((w64 (v7 + (x15.size : Int))) ≤ (v10.size : Int))) then (ask (cutOk v7 (w64 (v7 + (x15.size : Int))) v10.size) ((lidx v8 v9).bind fun d16 => ask (d16.cells.length = 1) ((cellAt 0 d16).bind fun x17 => (asStr x17).bind fun x18 => (bif (sEq (v10.extract (Int.toNat v7) (Int.toNat (w64 (v7 + (x15.size : Int))))) x18) then ((lidx v8 v9).bind fun d19 => ask (d19.cells.length = 1) ((cellAt 0 d19).bind fun x20 => (asStr x20).bind fun x21 => (some (O96_0.x0 x21 v10 v11 v12, s)))) else (L96_0 n (v7, v8, (w64 (v9 + 1)), v10, v11, v12) s))))) else (L96_0 n (v7, v8, (w64 (v9 + 1)), v10, v11, v12) s)))) else (some (O96_0.x1 v10 v11 v12, s)))
def dM96 (av : List AV) (bs : List Box) (ts : List Nat) : Option (ByteArray × List D × Int) := match av, bs, ts with
  | [.ptr 0 0], [.cells none [.d (.val (.string a0)), .d (.slice a1), .d (.val (.int .i64 a2))]], [] => some (a0, a1, a2)
  | _, _, _ => none
def aM96 : (ByteArray × List D × Int) → List AV := fun (a0, a1, a2) => [.ptr 0 0]
def bM96 : (ByteArray × List D × Int) → List Box := fun (a0, a1, a2) => [.cells none [.d (.val (.string a0)), .d (.slice a1), .d (.val (.int .i64 a2))]]
def tM96 : (ByteArray × List D × Int) → List Nat := fun (a0, a1, a2) => []
def vM96 : (ByteArray × ByteArray × List D × Int) → AV := fun (o34, p35, p36, p37) => .d (.val (.string o34))
def cM96 : (ByteArray × ByteArray × List D × Int) → List Box := fun (o34, p35, p36, p37) => [.cells none [.d (.val (.string p35)), .d (.slice p36), .d (.val (.int .i64 p37))]]
def kM96 : (ByteArray × ByteArray × List D × Int) → List Nat := fun (o34, p35, p36, p37) => []
def rM96 (v : AV) (bs : List Box) (ts : List Nat) : Option (ByteArray × ByteArray × List D × Int) := match v, bs, ts with
  | .d (.val (.string o34)), [.cells none [.d (.val (.string p35)), .d (.slice p36), .d (.val (.int .i64 p37))]], [] => some (o34, p35, p36, p37)
  | _, _, _ => none
def n96 : ByteArray × List D × Int → Option (ByteArray × ByteArray × List D × Int) := fun (a0, a1, a2) => ((lidx a1 a2).bind fun d3 => ask (d3.cells.length = 3) ((cellAt 1 d3).bind fun x4 => (asInt .i64 x4).bind fun x5 => ((n112 ()).bind fun y6 => ((L96_0 1000000000000 (x5, y6, 0, a0, a1, a2) ()).bind fun p29 => match p29.1 with | .x0 z30 z31 z32 z33 => (some (z30, z31, z32, z33)) | .x1 z38 z39 z40 => (some ((⟨#[]⟩ : ByteArray), z38, z39, z40))))))
def g96 {σ : Type} : Nat → Option (SegE σ)
  | 0 => some (l96_0.seg σ (L96_0 1000000000000))
  | _ => none
theorem E96_0 {σ : Type} (Y : Yd σ) : ∀ n a (s : σ), L96_0 (n + 1) a s = evK (cfgOf Tryd.prog (tabsS11 gl) tS11) (toldOf tS11) Y (inlN (cfgOf Tryd.prog (tabsS11 gl) tS11) (toldOf tS11) Y) g96 96 (loopAt Tryd.f96 0) ((l96_0.toT σ).enc a s) (fun ex st' => l96_0.next (cfgOf Tryd.prog (tabsS11 gl) tS11) 96 0 (L96_0 n) ex st') := by
  intro n ⟨v7, v8, v9, v10, v11, v12⟩ s
  kernel_rfl
theorem Q96_0 {σ : Type} (hl : LibFits2 gl) (Y : Yd σ) (rnd : Bool) : SegOk (cfgOf Tryd.prog (tabsS11 gl) tS11) (evFn (cfgOf Tryd.prog (tabsS11 gl) tS11) 9) 96 rnd Y (l96_0.seg σ (L96_0 1000000000000)) (.block 0 (.loop (loopAt Tryd.f96 0))) :=
  told_loop (okS11 hl) k96_0 (by kernel_rfl) (by kernel_rfl) (fun _ _ => rfl) (segs_no (by kernel_rfl)) (E96_0 Y)
theorem N96 : ∀ a, n96 a = bodyK (cfgOf Tryd.prog (tabsS11 gl) tS11) (toldOf tS11) noY (inlN (cfgOf Tryd.prog (tabsS11 gl) tS11) (toldOf tS11) noY) g96 96 Tryd.f96 (aM96 a) (bM96 a) (tM96 a) () (fun v b tk _ => rM96 v b tk) := by
  intro a
  obtain ⟨a0, a1, a2⟩ := a
  kernel_rfl
theorem om96 (hl : LibFits2 gl) : OddSound Tryd.prog gl (fun g => bif Nat.beq g 96 then some (methE 96 dM96 n96 vM96 (fun _ => cM96) (fun _ => kM96)) else (tabsS11 gl).odd g) :=
  told_meth (t := tabsS11 gl) (okS11 hl) mixed (oddOkS11 hl) Tryd.func96 (by kernel_rfl) (by kernel_rfl) (argsOf := aM96) (boxOf := bM96) (tokOf := tM96) (res := fun _ => rM96) (by kernel_rfl) (fun p hp e he => by
    have hq : segsOf (σ := Unit) (g96 (σ := Unit)) (bodyOf Tryd.f96) = [(0, .loop (loopAt Tryd.f96 0))] := by kernel_rfl
    rw [hq] at hp
    simp only [List.mem_cons, List.not_mem_nil, or_false] at hp
    subst hp
    cases he
    exact Q96_0 hl _ _)
    (fun av bs ts a h => by
      unfold dM96 at h
      split at h
      · cases h; exact ⟨rfl, rfl, rfl⟩
      · cases h)
    (fun a v b tk o h => by
      unfold rM96 at h
      split at h
      · cases h; exact ⟨rfl, rfl, rfl⟩
      · cases h)
    N96

noncomputable def tabsS12 (gl : Nat → Option (List D)) : Tabs := { tabsS11 gl with odd := fun g => bif Nat.beq g 60 then some (methE 60 dM60 n60 vM60 (fun _ => cM60) (fun _ => kM60)) else (bif Nat.beq g 89 then some (methE 89 dM89 n89 vM89 (fun _ => cM89) (fun _ => kM89)) else (bif Nat.beq g 62 then some (methE 62 dM62 n62 vM62 (fun _ => cM62) (fun _ => kM62)) else (bif Nat.beq g 94 then some (methE 94 dM94 n94 vM94 (fun _ => cM94) (fun _ => kM94)) else (bif Nat.beq g 95 then some (methE 95 dM95 n95 vM95 (fun _ => cM95) (fun _ => kM95)) else (bif Nat.beq g 96 then some (methE 96 dM96 n96 vM96 (fun _ => cM96) (fun _ => kM96)) else ((tabsS11 gl).odd g)))))) }
theorem oddOkS12 (hl : LibFits2 gl) : OddSound Tryd.prog gl (tabsS12 gl).odd := OddSound.join (om60 hl) (OddSound.join (om89 hl) (OddSound.join (om62 hl) (OddSound.join (om94 hl) (OddSound.join (om95 hl) (OddSound.join (om96 hl) ((oddOkS11 hl)))))))
noncomputable abbrev tS12 : Tab := tS11
theorem okS12 (hl : LibFits2 gl) : TabOk Tryd.prog gl tS12 := okS11 hl
/-! (*sextant/token.scanner).next -/
abbrev A61_1 := List D × Int × Int × ByteArray × List D × Int × Int × Int × Int × Int × ByteArray × Int × Int × Int × Int × Int × ByteArray × Int
inductive O61_1 where
  | x0 (o49 : Int) (o50 : ByteArray) (o51 : List D) (o52 : Int) (o53 : Int) (o54 : Int) (o55 : Int) (o56 : Int) (o57 : ByteArray) (o58 : Int) (o59 : Int) (o60 : Int) (o61 : Int) (o62 : Int) (o63 : ByteArray) (o64 : Int)
  | x1 (o65 : ByteArray) (o66 : List D) (o67 : Int) (o68 : Int) (o69 : Int) (o70 : Int) (o71 : Int) (o72 : ByteArray) (o73 : Int) (o74 : Int) (o75 : Int) (o76 : Int) (o77 : Int) (o78 : ByteArray) (o79 : Int)
def l61_1 : LoopS A61_1 O61_1 where
  n := 119
  ks := [0, 2, 4, 88, 89, 90]
  kso := [2, 3, 4]
  m := 3
  mt := 1
  decV := fun vs bs ts => match vs, bs, ts with
    | [.ptr 0 0, .ptr 1 0, .ptr 2 0, .d (.slice v27), .d (.val (.int .i64 v28)), .d (.val (.int .i64 v29))], [.cells none [.d (.val (.string v30)), .osl 0 v31, .d (.val (.int .i64 v32))], .cells (some 35) [.d (.val (.int .i64 v33)), .d (.val (.int .i64 v34)), .d (.val (.int .i64 v35)), .d (.val (.int .i64 v36)), .d (.val (.string v37)), .d (.val (.int .i64 v38))], .cells (some 35) [.d (.val (.int .i64 v39)), .d (.val (.int .i64 v40)), .d (.val (.int .i64 v41)), .d (.val (.int .i64 v42)), .d (.val (.string v43)), .d (.val (.int .i64 v44))]], [_] => some (v27, v28, v29, v30, v31, v32, v33, v34, v35, v36, v37, v38, v39, v40, v41, v42, v43, v44)
    | _, _, _ => none
  encV := fun (v27, v28, v29, v30, v31, v32, v33, v34, v35, v36, v37, v38, v39, v40, v41, v42, v43, v44) => [.ptr 0 0, .ptr 1 0, .ptr 2 0, .d (.slice v27), .d (.val (.int .i64 v28)), .d (.val (.int .i64 v29))]
  encB := fun (v27, v28, v29, v30, v31, v32, v33, v34, v35, v36, v37, v38, v39, v40, v41, v42, v43, v44) => [.cells none [.d (.val (.string v30)), .osl 0 v31, .d (.val (.int .i64 v32))], .cells (some 35) [.d (.val (.int .i64 v33)), .d (.val (.int .i64 v34)), .d (.val (.int .i64 v35)), .d (.val (.int .i64 v36)), .d (.val (.string v37)), .d (.val (.int .i64 v38))], .cells (some 35) [.d (.val (.int .i64 v39)), .d (.val (.int .i64 v40)), .d (.val (.int .i64 v41)), .d (.val (.int .i64 v42)), .d (.val (.string v43)), .d (.val (.int .i64 v44))]]
  tk := fun (v27, v28, v29, v30, v31, v32, v33, v34, v35, v36, v37, v38, v39, v40, v41, v42, v43, v44) => [v31.length]
  decO := fun ex vs bs ts => match ex, vs, bs, ts with
    | .ret, [.ptr 1 0, .d (.val (.int .i64 o49)), .ptr 2 0], [.cells none [.d (.val (.string o50)), .osl 0 o51, .d (.val (.int .i64 o52))], .cells (some 35) [.d (.val (.int .i64 o53)), .d (.val (.int .i64 o54)), .d (.val (.int .i64 o55)), .d (.val (.int .i64 o56)), .d (.val (.string o57)), .d (.val (.int .i64 o58))], .cells (some 35) [.d (.val (.int .i64 o59)), .d (.val (.int .i64 o60)), .d (.val (.int .i64 o61)), .d (.val (.int .i64 o62)), .d (.val (.string o63)), .d (.val (.int .i64 o64))]], [_] => some (.x0 o49 o50 o51 o52 o53 o54 o55 o56 o57 o58 o59 o60 o61 o62 o63 o64)
    | .normal, [.ptr 1 0, .undef, .ptr 2 0], [.cells none [.d (.val (.string o65)), .osl 0 o66, .d (.val (.int .i64 o67))], .cells (some 35) [.d (.val (.int .i64 o68)), .d (.val (.int .i64 o69)), .d (.val (.int .i64 o70)), .d (.val (.int .i64 o71)), .d (.val (.string o72)), .d (.val (.int .i64 o73))], .cells (some 35) [.d (.val (.int .i64 o74)), .d (.val (.int .i64 o75)), .d (.val (.int .i64 o76)), .d (.val (.int .i64 o77)), .d (.val (.string o78)), .d (.val (.int .i64 o79))]], [_] => some (.x1 o65 o66 o67 o68 o69 o70 o71 o72 o73 o74 o75 o76 o77 o78 o79)
    | _, _, _, _ => none
  exO := fun x => match x with
    | .x0 o49 o50 o51 o52 o53 o54 o55 o56 o57 o58 o59 o60 o61 o62 o63 o64 => .ret
    | .x1 o65 o66 o67 o68 o69 o70 o71 o72 o73 o74 o75 o76 o77 o78 o79 => .normal
  outV := fun x => match x with
    | .x0 o49 o50 o51 o52 o53 o54 o55 o56 o57 o58 o59 o60 o61 o62 o63 o64 => [.ptr 1 0, .d (.val (.int .i64 o49)), .ptr 2 0]
    | .x1 o65 o66 o67 o68 o69 o70 o71 o72 o73 o74 o75 o76 o77 o78 o79 => [.ptr 1 0, .undef, .ptr 2 0]
  outB := fun x => match x with
    | .x0 o49 o50 o51 o52 o53 o54 o55 o56 o57 o58 o59 o60 o61 o62 o63 o64 => [.cells none [.d (.val (.string o50)), .osl 0 o51, .d (.val (.int .i64 o52))], .cells (some 35) [.d (.val (.int .i64 o53)), .d (.val (.int .i64 o54)), .d (.val (.int .i64 o55)), .d (.val (.int .i64 o56)), .d (.val (.string o57)), .d (.val (.int .i64 o58))], .cells (some 35) [.d (.val (.int .i64 o59)), .d (.val (.int .i64 o60)), .d (.val (.int .i64 o61)), .d (.val (.int .i64 o62)), .d (.val (.string o63)), .d (.val (.int .i64 o64))]]
    | .x1 o65 o66 o67 o68 o69 o70 o71 o72 o73 o74 o75 o76 o77 o78 o79 => [.cells none [.d (.val (.string o65)), .osl 0 o66, .d (.val (.int .i64 o67))], .cells (some 35) [.d (.val (.int .i64 o68)), .d (.val (.int .i64 o69)), .d (.val (.int .i64 o70)), .d (.val (.int .i64 o71)), .d (.val (.string o72)), .d (.val (.int .i64 o73))], .cells (some 35) [.d (.val (.int .i64 o74)), .d (.val (.int .i64 o75)), .d (.val (.int .i64 o76)), .d (.val (.int .i64 o77)), .d (.val (.string o78)), .d (.val (.int .i64 o79))]]
  tkO := fun x => match x with
    | .x0 o49 o50 o51 o52 o53 o54 o55 o56 o57 o58 o59 o60 o61 o62 o63 o64 => [o51.length]
    | .x1 o65 o66 o67 o68 o69 o70 o71 o72 o73 o74 o75 o76 o77 o78 o79 => [o66.length]
  elim := fun x k => match x with
    | .x0 o49 o50 o51 o52 o53 o54 o55 o56 o57 o58 o59 o60 o61 o62 o63 o64 => k .ret [.ptr 1 0, .d (.val (.int .i64 o49)), .ptr 2 0] [.cells none [.d (.val (.string o50)), .osl 0 o51, .d (.val (.int .i64 o52))], .cells (some 35) [.d (.val (.int .i64 o53)), .d (.val (.int .i64 o54)), .d (.val (.int .i64 o55)), .d (.val (.int .i64 o56)), .d (.val (.string o57)), .d (.val (.int .i64 o58))], .cells (some 35) [.d (.val (.int .i64 o59)), .d (.val (.int .i64 o60)), .d (.val (.int .i64 o61)), .d (.val (.int .i64 o62)), .d (.val (.string o63)), .d (.val (.int .i64 o64))]] [o51.length]
    | .x1 o65 o66 o67 o68 o69 o70 o71 o72 o73 o74 o75 o76 o77 o78 o79 => k .normal [.ptr 1 0, .undef, .ptr 2 0] [.cells none [.d (.val (.string o65)), .osl 0 o66, .d (.val (.int .i64 o67))], .cells (some 35) [.d (.val (.int .i64 o68)), .d (.val (.int .i64 o69)), .d (.val (.int .i64 o70)), .d (.val (.int .i64 o71)), .d (.val (.string o72)), .d (.val (.int .i64 o73))], .cells (some 35) [.d (.val (.int .i64 o74)), .d (.val (.int .i64 o75)), .d (.val (.int .i64 o76)), .d (.val (.int .i64 o77)), .d (.val (.string o78)), .d (.val (.int .i64 o79))]] [o66.length]
theorem k61_1 : l61_1.Ok where
  ok1 := by kernel_rfl
  ok2 := by kernel_rfl
  dec := by
    intro vs bs ts a h
    simp only [l61_1] at h ⊢
    split at h
    · cases h; exact ⟨rfl, rfl⟩
    · cases h
  out := by
    intro ex vs bs ts o h
    simp only [l61_1] at h ⊢
    split at h
    · cases h; exact ⟨rfl, rfl, rfl⟩
    · cases h; exact ⟨rfl, rfl, rfl⟩
    · cases h
  len := fun _ => ⟨rfl, rfl⟩
  elim := fun β o k => by cases o <;> rfl
def L61_1 {σ : Type} : Nat → A61_1 → σ → Option (O61_1 × σ)
  | 0, _, _ => none
  | n+1, (v27, v28, v29, v30, v31, v32, v33, v34, v35, v36, v37, v38, v39, v40, v41, v42, v43, v44), s => (bif (decide (v29 < v28)) then ((lidx v27 v29).bind fun d45 => ask (d45.cells.length = 1) ((cellAt 0 d45).bind fun x46 => (asStr x46).bind fun x47 => (ask (cutOk v40 (v30.size : Int) v30.size) ((n91 ((v30.extract (Int.toNat v40) (Int.toNat (v30.size : Int))), x47)).bind fun y48 => (bif y48 then (ask (([v31.length] : List Nat) = [v31.length]) (some (O61_1.x0 0 v30 v31 (w64 (v32 + (x47.size : Int))) 4 v40 v41 v42 x47 v44 4 v40 v41 v42 x47 v44, s))) else (ask (([v31.length] : List Nat) = [v31.length]) (L61_1 n (v27, v28, (w64 (v29 + 1)), v30, v31, v32, v33, v34, v35, v36, v37, v38, v39, v40, v41, v42, v43, v44) s))))))) else (ask (([v31.length] : List Nat) = [v31.length]) (some (O61_1.x1 v30 v31 v32 v33 v34 v35 v36 v37 v38 v39 v40 v41 v42 v43 v44, s))))
def dM61 (av : List AV) (bs : List Box) (ts : List Nat) : Option (ByteArray × List D × Int × Nat) := match av, bs, ts with
  | [.ptr 0 0], [.cells none [.d (.val (.string a0)), .osl 0 a1, .d (.val (.int .i64 a3))]], [k2] => some (a0, a1, a3, k2)
  | _, _, _ => none
def aM61 : (ByteArray × List D × Int × Nat) → List AV := fun (a0, a1, a3, k2) => [.ptr 0 0]
def bM61 : (ByteArray × List D × Int × Nat) → List Box := fun (a0, a1, a3, k2) => [.cells none [.d (.val (.string a0)), .osl 0 a1, .d (.val (.int .i64 a3))]]
def tM61 : (ByteArray × List D × Int × Nat) → List Nat := fun (a0, a1, a3, k2) => [k2]
def vM61 : (Int × Int × Int × Int × ByteArray × Int × Int × ByteArray × List D × Int × Nat) → AV := fun (o6, o7, o8, o9, o10, o11, o12, p13, p14, p15, q16) => .tup [.d (.agg [.val (.int .i64 o6), .val (.int .i64 o7), .val (.int .i64 o8), .val (.int .i64 o9), .val (.string o10), .val (.int .i64 o11)]), .d (.val (.int .i64 o12))]
def cM61 : (Int × Int × Int × Int × ByteArray × Int × Int × ByteArray × List D × Int × Nat) → List Box := fun (o6, o7, o8, o9, o10, o11, o12, p13, p14, p15, q16) => [.cells none [.d (.val (.string p13)), .osl 0 p14, .d (.val (.int .i64 p15))]]
def kM61 : (Int × Int × Int × Int × ByteArray × Int × Int × ByteArray × List D × Int × Nat) → List Nat := fun (o6, o7, o8, o9, o10, o11, o12, p13, p14, p15, q16) => [q16]
def rM61 (v : AV) (bs : List Box) (ts : List Nat) : Option (Int × Int × Int × Int × ByteArray × Int × Int × ByteArray × List D × Int × Nat) := match v, bs, ts with
  | .tup [.d (.agg [.val (.int .i64 o6), .val (.int .i64 o7), .val (.int .i64 o8), .val (.int .i64 o9), .val (.string o10), .val (.int .i64 o11)]), .d (.val (.int .i64 o12))], [.cells none [.d (.val (.string p13)), .osl 0 p14, .d (.val (.int .i64 p15))]], [q16] => some (o6, o7, o8, o9, o10, o11, o12, p13, p14, p15, q16)
  | _, _, _ => none
def n61 : ByteArray × List D × Int × Nat → Option (Int × Int × Int × Int × ByteArray × Int × Int × ByteArray × List D × Int × Nat) := fun (a0, a1, a3, k2) => ((n88 (a0, a1, a3, k2)).bind fun y4 => ((n87 (a0, a1, a3, 0, k2)).bind fun y5 => (bif (decide (a3 ≥ ((a1.length : Nat) : Int))) then (some (0, y4.1, y4.2.1, y4.2.2.1, (⟨#[]⟩ : ByteArray), 0, 0, a0, a1, a3, k2)) else ((n37 y5.1).bind fun y17 => (bif y17 then ((n89 (a0, a1, a3, k2)).bind fun y18 => ((n40 y18.1).bind fun y19 => (some (1, y4.1, y4.2.1, y4.2.2.1, y18.1, 0, y19, y18.2.1, y18.2.2.1, y18.2.2.2.1, y18.2.2.2.2)))) else (bif (bif (decide (y5.1 ≥ 48)) then (decide (y5.1 ≤ 57)) else false) then ((n89 (a0, a1, a3, k2)).bind fun y20 => ((n42 y20.1).bind fun y21 => (some (2, y4.1, y4.2.1, y4.2.2.1, (⟨#[]⟩ : ByteArray), y21.1, y21.2, y20.2.1, y20.2.2.1, y20.2.2.2.1, y20.2.2.2.2)))) else (bif (y5.1 == 35) then ((n87 (a0, a1, a3, 1, k2)).bind fun y22 => ((n37 y22.1).bind fun y23 => (bif y23 then ((n89 (a0, a1, (w64 (a3 + 1)), k2)).bind fun y24 => (bif (bif (sEq y24.1 (⟨#[116, 114, 117, 101]⟩ : ByteArray)) then true else (sEq y24.1 (⟨#[102, 97, 108, 115, 101]⟩ : ByteArray))) then (some (3, y4.1, y4.2.1, y4.2.2.1, y24.1, 0, 21, y24.2.1, y24.2.2.1, y24.2.2.2.1, y24.2.2.2.2)) else ((n40 y24.1).bind fun y25 => (some (3, y4.1, y4.2.1, y4.2.2.1, y24.1, 0, y25, y24.2.1, y24.2.2.1, y24.2.2.2.1, y24.2.2.2.2))))) else ((n90 ()).bind fun y26 => (ask (([k2] : List Nat) = [a1.length]) ((L61_1 1000000000000 (y26, ((y26.length : Nat) : Int), 0, a0, a1, a3, 0, 0, 0, 0, (⟨#[]⟩ : ByteArray), 0, 0, y4.1, y4.2.1, y4.2.2.1, (⟨#[]⟩ : ByteArray), 0) ()).bind fun p80 => match p80.1 with | .x0 z81 z82 z83 z84 z85 z86 z87 z88 z89 z90 z91 z92 z93 z94 z95 z96 => (some (z85, z86, z87, z88, z89, z90, z81, z82, z83, z84, z83.length)) | .x1 z97 z98 z99 z100 z101 z102 z103 z104 z105 z106 z107 z108 z109 z110 z111 => (some (z106, z107, z108, z109, z110, z111, 90, z97, z98, z99, z98.length)))))))) else ((n90 ()).bind fun y112 => (ask (([k2] : List Nat) = [a1.length]) ((L61_1 1000000000000 (y112, ((y112.length : Nat) : Int), 0, a0, a1, a3, 0, 0, 0, 0, (⟨#[]⟩ : ByteArray), 0, 0, y4.1, y4.2.1, y4.2.2.1, (⟨#[]⟩ : ByteArray), 0) ()).bind fun p166 => match p166.1 with | .x0 z167 z168 z169 z170 z171 z172 z173 z174 z175 z176 z177 z178 z179 z180 z181 z182 => (some (z171, z172, z173, z174, z175, z176, z167, z168, z169, z170, z169.length)) | .x1 z183 z184 z185 z186 z187 z188 z189 z190 z191 z192 z193 z194 z195 z196 z197 => (some (z192, z193, z194, z195, z196, z197, 90, z183, z184, z185, z184.length))))))))))))
def g61 {σ : Type} : Nat → Option (SegE σ)
  | 1 => some (l61_1.seg σ (L61_1 1000000000000))
  | _ => none
theorem E61_1 {σ : Type} (Y : Yd σ) : ∀ n a (s : σ), L61_1 (n + 1) a s = evK (cfgOf Tryd.prog (tabsS12 gl) tS12) (toldOf tS12) Y (inlN (cfgOf Tryd.prog (tabsS12 gl) tS12) (toldOf tS12) Y) g61 61 (loopAt Tryd.f61 1) ((l61_1.toT σ).enc a s) (fun ex st' => l61_1.next (cfgOf Tryd.prog (tabsS12 gl) tS12) 61 1 (L61_1 n) ex st') := by
  intro n ⟨v27, v28, v29, v30, v31, v32, v33, v34, v35, v36, v37, v38, v39, v40, v41, v42, v43, v44⟩ s
  kernel_rfl
theorem Q61_1 {σ : Type} (hl : LibFits2 gl) (Y : Yd σ) (rnd : Bool) : SegOk (cfgOf Tryd.prog (tabsS12 gl) tS12) (evFn (cfgOf Tryd.prog (tabsS12 gl) tS12) 9) 61 rnd Y (l61_1.seg σ (L61_1 1000000000000)) (.block 1 (.loop (loopAt Tryd.f61 1))) :=
  told_loop (okS12 hl) k61_1 (by kernel_rfl) (by kernel_rfl) (fun _ _ => rfl) (segs_no (by kernel_rfl)) (E61_1 Y)
theorem N61 : ∀ a, n61 a = bodyK (cfgOf Tryd.prog (tabsS12 gl) tS12) (toldOf tS12) noY (inlN (cfgOf Tryd.prog (tabsS12 gl) tS12) (toldOf tS12) noY) g61 61 Tryd.f61 (aM61 a) (bM61 a) (tM61 a) () (fun v b tk _ => rM61 v b tk) := by
  intro a
  obtain ⟨a0, a1, a3, k2⟩ := a
  kernel_rfl
theorem om61 (hl : LibFits2 gl) : OddSound Tryd.prog gl (fun g => bif Nat.beq g 61 then some (methE 61 dM61 n61 vM61 (fun _ => cM61) (fun _ => kM61)) else (tabsS12 gl).odd g) :=
  told_meth (t := tabsS12 gl) (okS12 hl) mixed (oddOkS12 hl) Tryd.func61 (by kernel_rfl) (by kernel_rfl) (argsOf := aM61) (boxOf := bM61) (tokOf := tM61) (res := fun _ => rM61) (by kernel_rfl) (fun p hp e he => by
    have hq : segsOf (σ := Unit) (g61 (σ := Unit)) (bodyOf Tryd.f61) = [(1, .loop (loopAt Tryd.f61 1))] := by kernel_rfl
    rw [hq] at hp
    simp only [List.mem_cons, List.not_mem_nil, or_false] at hp
    subst hp
    cases he
    exact Q61_1 hl _ _)
    (fun av bs ts a h => by
      unfold dM61 at h
      split at h
      · cases h; exact ⟨rfl, rfl, rfl⟩
      · cases h)
    (fun a v b tk o h => by
      unfold rM61 at h
      split at h
      · cases h; exact ⟨rfl, rfl, rfl⟩
      · cases h)
    N61

/-! (*sextant/sextantref09.Scanner).one -/
def dM64 (av : List AV) (bs : List Box) (ts : List Nat) : Option (ByteArray × List D × Int) := match av, bs, ts with
  | [.ptr 0 0], [.cells none [.d (.val (.string a0)), .d (.slice a1), .d (.val (.int .i64 a2))]], [] => some (a0, a1, a2)
  | _, _, _ => none
def aM64 : (ByteArray × List D × Int) → List AV := fun (a0, a1, a2) => [.ptr 0 0]
def bM64 : (ByteArray × List D × Int) → List Box := fun (a0, a1, a2) => [.cells none [.d (.val (.string a0)), .d (.slice a1), .d (.val (.int .i64 a2))]]
def tM64 : (ByteArray × List D × Int) → List Nat := fun (a0, a1, a2) => []
def vM64 : (Int × Int × Int × Int × ByteArray × Int × Int × ByteArray × List D × Int) → AV := fun (o9, o10, o11, o12, o13, o14, o15, p16, p17, p18) => .tup [.d (.agg [.val (.int .i64 o9), .val (.int .i64 o10), .val (.int .i64 o11), .val (.int .i64 o12), .val (.string o13), .val (.int .i64 o14)]), .d (.val (.int .i64 o15))]
def cM64 : (Int × Int × Int × Int × ByteArray × Int × Int × ByteArray × List D × Int) → List Box := fun (o9, o10, o11, o12, o13, o14, o15, p16, p17, p18) => [.cells none [.d (.val (.string p16)), .d (.slice p17), .d (.val (.int .i64 p18))]]
def kM64 : (Int × Int × Int × Int × ByteArray × Int × Int × ByteArray × List D × Int) → List Nat := fun (o9, o10, o11, o12, o13, o14, o15, p16, p17, p18) => []
def rM64 (v : AV) (bs : List Box) (ts : List Nat) : Option (Int × Int × Int × Int × ByteArray × Int × Int × ByteArray × List D × Int) := match v, bs, ts with
  | .tup [.d (.agg [.val (.int .i64 o9), .val (.int .i64 o10), .val (.int .i64 o11), .val (.int .i64 o12), .val (.string o13), .val (.int .i64 o14)]), .d (.val (.int .i64 o15))], [.cells none [.d (.val (.string p16)), .d (.slice p17), .d (.val (.int .i64 p18))]], [] => some (o9, o10, o11, o12, o13, o14, o15, p16, p17, p18)
  | _, _, _ => none
def n64 : ByteArray × List D × Int → Option (Int × Int × Int × Int × ByteArray × Int × Int × ByteArray × List D × Int) := fun (a0, a1, a2) => ((lidx a1 a2).bind fun d3 => ask (d3.cells.length = 3) ((cellAt 0 d3).bind fun x4 => (asInt .i64 x4).bind fun x5 => ((n38 x5).bind fun y6 => (bif y6 then ((n94 (a0, a1, a2, a2)).bind fun y7 => ((n93 (1, y7.1)).bind fun y8 => (some (y8.1, y8.2.1, y8.2.2.1, y8.2.2.2.1, y8.2.2.2.2.1, y8.2.2.2.2.2.1, y8.2.2.2.2.2.2, y7.2.1, y7.2.2.1, y7.2.2.2)))) else (bif (bif (decide (x5 ≥ 48)) then (decide (x5 ≤ 57)) else false) then ((n94 (a0, a1, a2, a2)).bind fun y19 => ((n43 y19.1).bind fun y20 => (bif (y20.2 != 0) then (some (0, 0, 0, 0, (⟨#[]⟩ : ByteArray), 0, 22, y19.2.1, y19.2.2.1, y19.2.2.2)) else (some (2, 0, 0, 0, (⟨#[]⟩ : ByteArray), y20.1, 0, y19.2.1, y19.2.2.1, y19.2.2.2))))) else (bif (x5 == 35) then ((n95 (a0, a1, a2, 1)).bind fun y21 => (bif (!y21.1) then (some (0, 0, 0, 0, (⟨#[]⟩ : ByteArray), 0, 90, y21.2.1, y21.2.2.1, y21.2.2.2)) else ((n94 (y21.2.1, y21.2.2.1, y21.2.2.2, (w64 (y21.2.2.2 + 1)))).bind fun y22 => ((n93 (3, y22.1)).bind fun y23 => (some (y23.1, y23.2.1, y23.2.2.1, y23.2.2.2.1, y23.2.2.2.2.1, y23.2.2.2.2.2.1, y23.2.2.2.2.2.2, y22.2.1, y22.2.2.1, y22.2.2.2)))))) else (bif (decide (x5 < 0)) then (some (0, 0, 0, 0, (⟨#[]⟩ : ByteArray), 0, 90, a0, a1, a2)) else ((n96 (a0, a1, a2)).bind fun y24 => (bif (sEq y24.1 (⟨#[]⟩ : ByteArray)) then (some (0, 0, 0, 0, (⟨#[]⟩ : ByteArray), 0, 90, y24.2.1, y24.2.2.1, y24.2.2.2)) else (some (4, 0, 0, 0, y24.1, 0, 0, y24.2.1, y24.2.2.1, (w64 (y24.2.2.2 + (y24.1.size : Int))))))))))))))
def g64 {σ : Type} : Nat → Option (SegE σ)
  | _ => none
theorem N64 : ∀ a, n64 a = bodyK (cfgOf Tryd.prog (tabsS12 gl) tS12) (toldOf tS12) noY (inlN (cfgOf Tryd.prog (tabsS12 gl) tS12) (toldOf tS12) noY) g64 64 Tryd.f64 (aM64 a) (bM64 a) (tM64 a) () (fun v b tk _ => rM64 v b tk) := by
  intro a
  obtain ⟨a0, a1, a2⟩ := a
  kernel_rfl
theorem om64 (hl : LibFits2 gl) : OddSound Tryd.prog gl (fun g => bif Nat.beq g 64 then some (methE 64 dM64 n64 vM64 (fun _ => cM64) (fun _ => kM64)) else (tabsS12 gl).odd g) :=
  told_meth (t := tabsS12 gl) (okS12 hl) mixed (oddOkS12 hl) Tryd.func64 (by kernel_rfl) (by kernel_rfl) (argsOf := aM64) (boxOf := bM64) (tokOf := tM64) (res := fun _ => rM64) (by kernel_rfl) (segs_no (by kernel_rfl))
    (fun av bs ts a h => by
      unfold dM64 at h
      split at h
      · cases h; exact ⟨rfl, rfl, rfl⟩
      · cases h)
    (fun a v b tk o h => by
      unfold rM64 at h
      split at h
      · cases h; exact ⟨rfl, rfl, rfl⟩
      · cases h)
    N64

noncomputable def tabsS13 (gl : Nat → Option (List D)) : Tabs := { tabsS12 gl with odd := fun g => bif Nat.beq g 61 then some (methE 61 dM61 n61 vM61 (fun _ => cM61) (fun _ => kM61)) else (bif Nat.beq g 64 then some (methE 64 dM64 n64 vM64 (fun _ => cM64) (fun _ => kM64)) else ((tabsS12 gl).odd g)) }
theorem oddOkS13 (hl : LibFits2 gl) : OddSound Tryd.prog gl (tabsS13 gl).odd := OddSound.join (om61 hl) (OddSound.join (om64 hl) ((oddOkS12 hl)))
noncomputable abbrev tS13 : Tab := tS12
theorem okS13 (hl : LibFits2 gl) : TabOk Tryd.prog gl tS13 := okS12 hl
theorem E83_0r13 {σ : Type} (Y : Yd σ) : ∀ n a (s : σ), L83_0 Y (n + 1) a s = evK (cfgOf Tryd.prog (tabsS13 gl) tS13) (toldOf tS13) Y (inlI (cfgOf Tryd.prog (tabsS13 gl) tS13) (toldOf tS13) Y) (g83 Y) 83 (loopAt Tryd.f83 0) ((l83_0.toT σ).enc a s) (fun ex st' => l83_0.next (cfgOf Tryd.prog (tabsS13 gl) tS13) 83 0 (L83_0 Y n) ex st') := by
  intro n ⟨v1, v2, v3, v4, v5, v6⟩ s
  kernel_rfl
theorem Q83_0r13 {σ : Type} (hl : LibFits2 gl) (Y : Yd σ) (rnd : Bool) : SegOk (cfgOf Tryd.prog (tabsS13 gl) tS13) (evFn (cfgOf Tryd.prog (tabsS13 gl) tS13) 8) 83 rnd Y (l83_0.seg σ (L83_0 Y 1000000000000)) (.block 0 (.loop (loopAt Tryd.f83 0))) :=
  told_loopI (okS13 hl) k83_0 (by kernel_rfl) (by kernel_rfl) (fun _ _ => rfl) (segs_no (by kernel_rfl)) (E83_0r13 Y)
theorem N83r13 : ∀ (σ : Type) (Y : Yd σ) (i : ByteArray) (s : σ), n83 Y i s = bodyK (cfgOf Tryd.prog (tabsS13 gl) tS13) (toldOf tS13) Y (inlI (cfgOf Tryd.prog (tabsS13 gl) tS13) (toldOf tS13) Y) (g83 Y) 83 Tryd.f83 (.yld :: (fun (_ : ByteArray) => ([.ptr 0 0] : List AV)) i) (encL83 i) [] s (fun _ b _ s => (decL83 b).bind fun i => some (i, s)) := by
  intro σ Y a0 s
  kernel_rfl
theorem J83r13 (hl : LibFits2 gl) : ∀ caps lent i, itDec83 caps lent = some i → IterOk (evFn (cfgOf Tryd.prog (tabsS13 gl) tS13) 9) 83 caps lent encL83 (fun σ Y => n83 Y i) := by
  intro caps lent i h
  unfold itDec83 at h
  split at h
  · cases h
    exact told_iter (okS13 hl) Tryd.func83 (by kernel_rfl) (by kernel_rfl) (capsOf := fun (_ : ByteArray) => [.ptr 0 0]) (encL := encL83) (decL := decL83) (fun b i h => by
      unfold decL83 at h
      split at h
      · cases h; rfl
      · cases h) (n := fun {σ} Y i s => n83 Y i s) (seg := fun {σ} Y => g83 Y) (by kernel_rfl) (fun σ Y => (fun p hp e he => by
    have hq : segsOf (σ := σ) (g83 Y) (bodyOf Tryd.f83) = [(0, .loop (loopAt Tryd.f83 0))] := by kernel_rfl
    rw [hq] at hp
    simp only [List.mem_cons, List.not_mem_nil, or_false] at hp
    subst hp
    cases he
    exact Q83_0r13 hl _ _)) N83r13 _
  · cases h

/-! sextant/token.Scan -/
abbrev P18_0 := Unit
abbrev X18_0 := Int × Int × Int × Int
abbrev A18_0 := Int × Int × Int × Int × ByteArray × List D × Int × Nat
inductive O18_0 where

def l18_0 : RangeS P18_0 X18_0 A18_0 O18_0 where
  n := 51
  ks := [4, 15, 16]
  ps := [15, 16]
  ks0 := [4]
  m := 4
  mt := 2
  decE := fun vs => match vs with
    | [.ptr 2 0] => some ()
    | _ => none
  encE := fun () => [.ptr 2 0]
  decX := fun xs => match xs with
    | [.agg [.val (.int .i64 e6), .val (.int .i64 e7), .val (.int .i64 e8)], .val (.int .i32 e9)] => some (e6, e7, e8, e9)
    | _ => none
  encX := fun (e6, e7, e8, e9) => [.agg [.val (.int .i64 e6), .val (.int .i64 e7), .val (.int .i64 e8)], .val (.int .i32 e9)]
  decB := fun bs ts => match bs, ts with
    | [.cells (some 27) [.d (.val (.int .i64 v10)), .d (.val (.int .i64 v11)), .d (.val (.int .i64 v12)), .d (.val (.int .i64 v13))], .cells none [.d (.val (.string v14)), .osl 1 v15, .d (.val (.int .i64 v16))], .cells (some 103) [.ptr 1 0], .gone], [k17, _] => some (v10, v11, v12, v13, v14, v15, v16, k17)
    | _, _ => none
  encB := fun (v10, v11, v12, v13, v14, v15, v16, k17) => [.cells (some 27) [.d (.val (.int .i64 v10)), .d (.val (.int .i64 v11)), .d (.val (.int .i64 v12)), .d (.val (.int .i64 v13))], .cells none [.d (.val (.string v14)), .osl 1 v15, .d (.val (.int .i64 v16))], .cells (some 103) [.ptr 1 0], .gone]
  tk := fun (v10, v11, v12, v13, v14, v15, v16, k17) => [k17, v15.length]
  decO := fun ex bs ts => match ex, bs, ts with
    | _, _, _ => none
  exO := fun x => nomatch x
  outB := fun x => nomatch x
  tkO := fun x => nomatch x
  elim := fun x _ => nomatch x
theorem k18_0 : l18_0.Ok where
  ok1 := by kernel_rfl
  ok2 := by kernel_rfl
  ok3 := by kernel_rfl
  decE := by
    intro vs p h
    simp only [l18_0] at h ⊢
    split at h
    · cases h; rfl
    · cases h
  decX := by
    intro xs x h
    simp only [l18_0] at h ⊢
    split at h
    · cases h; rfl
    · cases h
  lenX := fun _ => rfl
  decB := by
    intro bs ts a h
    simp only [l18_0] at h ⊢
    split at h
    · cases h; rfl
    · cases h
  lenB := fun _ => ⟨rfl, rfl⟩
  decO := by
    intro ex bs ts o h
    simp only [l18_0] at h ⊢
    cases h
  exO := fun o => by cases o <;> exact ⟨fun h => (by cases h), rfl⟩
  elim := fun β o k => by cases o <;> rfl
def W18_0 {σ : Type} (p : P18_0) : Yd ((A18_0 ⊕ O18_0) × σ) := fun xs q => match p, xs, q with
  | (), [.agg [.val (.int .i64 e6), .val (.int .i64 e7), .val (.int .i64 e8)], .val (.int .i32 e9)], (.inl (v10, v11, v12, v13, v14, v15, v16, k17), s) => (ask (addOk v15.length v15 ([.agg [.val (.int .i32 e9), .val (.int .i64 e6), .val (.int .i64 e7), .val (.int .i64 e8)]] : List D) 4 32) (ask (([k17, (v15.length + ([.agg [.val (.int .i32 e9), .val (.int .i64 e6), .val (.int .i64 e7), .val (.int .i64 e8)]] : List D).length)] : List Nat) = [k17, (v15 ++ ([.agg [.val (.int .i32 e9), .val (.int .i64 e6), .val (.int .i64 e7), .val (.int .i64 e8)]] : List D)).length]) (some (true, (Sum.inl (v10, v11, v12, v13, v14, (v15 ++ ([.agg [.val (.int .i32 e9), .val (.int .i64 e6), .val (.int .i64 e7), .val (.int .i64 e8)]] : List D)), v16, k17), s)))))
  | _, _, _ => none

abbrev A18_2 := List D × Int × Int × Int × Int × ByteArray × List D × Int × ByteArray × Nat
inductive O18_2 where
  | x0 (o32 : List D) (o33 : Int) (o34 : Int) (o35 : Int) (o36 : Int) (o37 : ByteArray) (o38 : List D) (o39 : Int) (o40 : ByteArray) (q41 : Nat) (q42 : Nat)
  | x1 (o43 : List D) (o44 : Int) (o45 : Int) (o46 : Int) (o47 : Int) (o48 : ByteArray) (o49 : List D) (o50 : Int) (o51 : ByteArray) (q52 : Nat)
def l18_2 : LoopS A18_2 O18_2 where
  n := 51
  ks := [3, 4, 7]
  kso := [2, 3]
  m := 4
  mt := 3
  decV := fun vs bs ts => match vs, bs, ts with
    | [.ptr 0 0, .ptr 2 0, .osl 2 v20], [.cells (some 27) [.d (.val (.int .i64 v21)), .d (.val (.int .i64 v22)), .d (.val (.int .i64 v23)), .d (.val (.int .i64 v24))], .cells none [.d (.val (.string v25)), .osl 1 v26, .d (.val (.int .i64 v27))], .cells (some 103) [.ptr 1 0], .cells none [.d (.val (.string v28))]], [k29, _, _] => some (v20, v21, v22, v23, v24, v25, v26, v27, v28, k29)
    | _, _, _ => none
  encV := fun (v20, v21, v22, v23, v24, v25, v26, v27, v28, k29) => [.ptr 0 0, .ptr 2 0, .osl 2 v20]
  encB := fun (v20, v21, v22, v23, v24, v25, v26, v27, v28, k29) => [.cells (some 27) [.d (.val (.int .i64 v21)), .d (.val (.int .i64 v22)), .d (.val (.int .i64 v23)), .d (.val (.int .i64 v24))], .cells none [.d (.val (.string v25)), .osl 1 v26, .d (.val (.int .i64 v27))], .cells (some 103) [.ptr 1 0], .cells none [.d (.val (.string v28))]]
  tk := fun (v20, v21, v22, v23, v24, v25, v26, v27, v28, k29) => [k29, v26.length, v20.length]
  decO := fun ex vs bs ts => match ex, vs, bs, ts with
    | .ret, [.d (.slice o32), .ptr 0 0], [.cells (some 27) [.d (.val (.int .i64 o33)), .d (.val (.int .i64 o34)), .d (.val (.int .i64 o35)), .d (.val (.int .i64 o36))], .cells none [.d (.val (.string o37)), .osl 1 o38, .d (.val (.int .i64 o39))], .cells (some 103) [.ptr 1 0], .cells none [.d (.val (.string o40))]], [q41, _, q42] => some (.x0 o32 o33 o34 o35 o36 o37 o38 o39 o40 q41 q42)
    | .ret, [.osl 2 o43, .ptr 0 0], [.cells (some 27) [.d (.val (.int .i64 o44)), .d (.val (.int .i64 o45)), .d (.val (.int .i64 o46)), .d (.val (.int .i64 o47))], .cells none [.d (.val (.string o48)), .osl 1 o49, .d (.val (.int .i64 o50))], .cells (some 103) [.ptr 1 0], .cells none [.d (.val (.string o51))]], [q52, _, _] => some (.x1 o43 o44 o45 o46 o47 o48 o49 o50 o51 q52)
    | _, _, _, _ => none
  exO := fun x => match x with
    | .x0 o32 o33 o34 o35 o36 o37 o38 o39 o40 q41 q42 => .ret
    | .x1 o43 o44 o45 o46 o47 o48 o49 o50 o51 q52 => .ret
  outV := fun x => match x with
    | .x0 o32 o33 o34 o35 o36 o37 o38 o39 o40 q41 q42 => [.d (.slice o32), .ptr 0 0]
    | .x1 o43 o44 o45 o46 o47 o48 o49 o50 o51 q52 => [.osl 2 o43, .ptr 0 0]
  outB := fun x => match x with
    | .x0 o32 o33 o34 o35 o36 o37 o38 o39 o40 q41 q42 => [.cells (some 27) [.d (.val (.int .i64 o33)), .d (.val (.int .i64 o34)), .d (.val (.int .i64 o35)), .d (.val (.int .i64 o36))], .cells none [.d (.val (.string o37)), .osl 1 o38, .d (.val (.int .i64 o39))], .cells (some 103) [.ptr 1 0], .cells none [.d (.val (.string o40))]]
    | .x1 o43 o44 o45 o46 o47 o48 o49 o50 o51 q52 => [.cells (some 27) [.d (.val (.int .i64 o44)), .d (.val (.int .i64 o45)), .d (.val (.int .i64 o46)), .d (.val (.int .i64 o47))], .cells none [.d (.val (.string o48)), .osl 1 o49, .d (.val (.int .i64 o50))], .cells (some 103) [.ptr 1 0], .cells none [.d (.val (.string o51))]]
  tkO := fun x => match x with
    | .x0 o32 o33 o34 o35 o36 o37 o38 o39 o40 q41 q42 => [q41, o38.length, q42]
    | .x1 o43 o44 o45 o46 o47 o48 o49 o50 o51 q52 => [q52, o49.length, o43.length]
  elim := fun x k => match x with
    | .x0 o32 o33 o34 o35 o36 o37 o38 o39 o40 q41 q42 => k .ret [.d (.slice o32), .ptr 0 0] [.cells (some 27) [.d (.val (.int .i64 o33)), .d (.val (.int .i64 o34)), .d (.val (.int .i64 o35)), .d (.val (.int .i64 o36))], .cells none [.d (.val (.string o37)), .osl 1 o38, .d (.val (.int .i64 o39))], .cells (some 103) [.ptr 1 0], .cells none [.d (.val (.string o40))]] [q41, o38.length, q42]
    | .x1 o43 o44 o45 o46 o47 o48 o49 o50 o51 q52 => k .ret [.osl 2 o43, .ptr 0 0] [.cells (some 27) [.d (.val (.int .i64 o44)), .d (.val (.int .i64 o45)), .d (.val (.int .i64 o46)), .d (.val (.int .i64 o47))], .cells none [.d (.val (.string o48)), .osl 1 o49, .d (.val (.int .i64 o50))], .cells (some 103) [.ptr 1 0], .cells none [.d (.val (.string o51))]] [q52, o49.length, o43.length]
theorem k18_2 : l18_2.Ok where
  ok1 := by kernel_rfl
  ok2 := by kernel_rfl
  dec := by
    intro vs bs ts a h
    simp only [l18_2] at h ⊢
    split at h
    · cases h; exact ⟨rfl, rfl⟩
    · cases h
  out := by
    intro ex vs bs ts o h
    simp only [l18_2] at h ⊢
    split at h
    · cases h; exact ⟨rfl, rfl, rfl⟩
    · cases h; exact ⟨rfl, rfl, rfl⟩
    · cases h
  len := fun _ => ⟨rfl, rfl⟩
  elim := fun β o k => by cases o <;> rfl
def L18_2 {σ : Type} : Nat → A18_2 → σ → Option (O18_2 × σ)
  | 0, _, _ => none
  | n+1, (v20, v21, v22, v23, v24, v25, v26, v27, v28, k29), s => ((n60 (v25, v26, v27, v26.length)).bind fun y30 => ((n61 (y30.1, y30.2.1, y30.2.2.1, y30.2.2.2)).bind fun y31 => (bif (y31.2.2.2.2.2.2.1 != 0) then (ask (([k29, y31.2.2.2.2.2.2.2.2.2.2, v20.length] : List Nat) = [k29, y31.2.2.2.2.2.2.2.2.1.length, v20.length]) (some (O18_2.x0 ([] : List D) y31.2.2.2.2.2.2.1 y31.2.1 y31.2.2.1 y31.2.2.2.1 y31.2.2.2.2.2.2.2.1 y31.2.2.2.2.2.2.2.2.1 y31.2.2.2.2.2.2.2.2.2.1 v28 k29 v20.length, s))) else (ask (addOk v20.length v20 ([.agg [.val (.int .i64 y31.1), .val (.int .i64 y31.2.1), .val (.int .i64 y31.2.2.1), .val (.int .i64 y31.2.2.2.1), .val (.string y31.2.2.2.2.1), .val (.int .i64 y31.2.2.2.2.2.1)]] : List D) 6 56) (bif (y31.1 == 0) then (ask (([k29, y31.2.2.2.2.2.2.2.2.2.2, (v20.length + ([.agg [.val (.int .i64 y31.1), .val (.int .i64 y31.2.1), .val (.int .i64 y31.2.2.1), .val (.int .i64 y31.2.2.2.1), .val (.string y31.2.2.2.2.1), .val (.int .i64 y31.2.2.2.2.2.1)]] : List D).length)] : List Nat) = [k29, y31.2.2.2.2.2.2.2.2.1.length, (v20 ++ ([.agg [.val (.int .i64 y31.1), .val (.int .i64 y31.2.1), .val (.int .i64 y31.2.2.1), .val (.int .i64 y31.2.2.2.1), .val (.string y31.2.2.2.2.1), .val (.int .i64 y31.2.2.2.2.2.1)]] : List D)).length]) (some (O18_2.x1 (v20 ++ ([.agg [.val (.int .i64 y31.1), .val (.int .i64 y31.2.1), .val (.int .i64 y31.2.2.1), .val (.int .i64 y31.2.2.2.1), .val (.string y31.2.2.2.2.1), .val (.int .i64 y31.2.2.2.2.2.1)]] : List D)) 0 0 0 0 y31.2.2.2.2.2.2.2.1 y31.2.2.2.2.2.2.2.2.1 y31.2.2.2.2.2.2.2.2.2.1 v28 k29, s))) else (ask (([k29, y31.2.2.2.2.2.2.2.2.2.2, (v20.length + ([.agg [.val (.int .i64 y31.1), .val (.int .i64 y31.2.1), .val (.int .i64 y31.2.2.1), .val (.int .i64 y31.2.2.2.1), .val (.string y31.2.2.2.2.1), .val (.int .i64 y31.2.2.2.2.2.1)]] : List D).length)] : List Nat) = [k29, y31.2.2.2.2.2.2.2.2.1.length, (v20 ++ ([.agg [.val (.int .i64 y31.1), .val (.int .i64 y31.2.1), .val (.int .i64 y31.2.2.1), .val (.int .i64 y31.2.2.2.1), .val (.string y31.2.2.2.2.1), .val (.int .i64 y31.2.2.2.2.2.1)]] : List D)).length]) (L18_2 n ((v20 ++ ([.agg [.val (.int .i64 y31.1), .val (.int .i64 y31.2.1), .val (.int .i64 y31.2.2.1), .val (.int .i64 y31.2.2.2.1), .val (.string y31.2.2.2.2.1), .val (.int .i64 y31.2.2.2.2.2.1)]] : List D)), v21, v22, v23, v24, y31.2.2.2.2.2.2.2.1, y31.2.2.2.2.2.2.2.2.1, y31.2.2.2.2.2.2.2.2.2.1, v28, k29) s)))))))
def d18 (ds : List D) : Option (ByteArray) := match ds with
  | [.val (.string a0)] => some a0
  | _ => none
def r18 (v : AV) : Option (List D × Int × Int × Int × Int) := match toPR v with
  | some (.many [.slice a1, .agg [.val (.int .i64 a2), .val (.int .i64 a3), .val (.int .i64 a4), .val (.int .i64 a5)]]) => some (a1, a2, a3, a4, a5)
  | _ => none
def n18 : ByteArray → Option (List D × Int × Int × Int × Int) := fun a0 => (ask (([0, 0] : List Nat) = [0, ([] : List D).length]) ((n83 (W18_0 ()) a0 (Sum.inl (0, 0, 0, 0, a0, ([] : List D), 0, 0), ())).bind fun p18 => match p18.2.1 with | .inl z19 => (ask (([(z19.2.2.2.2.2.2.2), (z19.2.2.2.2.2.1).length, 0] : List Nat) = [(z19.2.2.2.2.2.2.2), (z19.2.2.2.2.2.1).length, ([] : List D).length]) ((L18_2 1000000000000 (([] : List D), (z19.1), (z19.2.1), (z19.2.2.1), (z19.2.2.2.1), (z19.2.2.2.2.1), (z19.2.2.2.2.2.1), (z19.2.2.2.2.2.2.1), p18.1, (z19.2.2.2.2.2.2.2)) p18.2.2).bind fun p53 => match p53.1 with | .x0 z54 z55 z56 z57 z58 z59 z60 z61 z62 z63 z64 => (some (z54, z55, z56, z57, z58)) | .x1 z65 z66 z67 z68 z69 z70 z71 z72 z73 z74 => (some (z65, z66, z67, z68, z69)))) | .inr o75 => nomatch o75))
def e18 : PureE := mkE d18 n18 (fun (a1, a2, a3, a4, a5) => .many [.slice a1, .agg [.val (.int .i64 a2), .val (.int .i64 a3), .val (.int .i64 a4), .val (.int .i64 a5)]])
noncomputable def g18 (gl : Nat → Option (List D)) {σ : Type} : Nat → Option (SegE σ)
  | 0 => some (l18_0.seg (cfgOf Tryd.prog (tabsS13 gl) tS13) 18 0 (rangeG Tryd.f18 0) 83 itDec83 encL83 (fun i σ Y => n83 Y i) σ W18_0)
  | 2 => some (l18_2.seg σ (L18_2 1000000000000))
  | _ => none
theorem E18_2 {σ : Type} (Y : Yd σ) : ∀ n a (s : σ), L18_2 (n + 1) a s = evK (cfgOf Tryd.prog (tabsS13 gl) tS13) (toldOf tS13) Y (inlN (cfgOf Tryd.prog (tabsS13 gl) tS13) (toldOf tS13) Y) (g18 gl) 18 (loopAt Tryd.f18 2) ((l18_2.toT σ).enc a s) (fun ex st' => l18_2.next (cfgOf Tryd.prog (tabsS13 gl) tS13) 18 2 (L18_2 n) ex st') := by
  intro n ⟨v20, v21, v22, v23, v24, v25, v26, v27, v28, k29⟩ s
  kernel_rfl
theorem Q18_2 {σ : Type} (hl : LibFits2 gl) (Y : Yd σ) (rnd : Bool) : SegOk (cfgOf Tryd.prog (tabsS13 gl) tS13) (evFn (cfgOf Tryd.prog (tabsS13 gl) tS13) 9) 18 rnd Y (l18_2.seg σ (L18_2 1000000000000)) (.block 2 (.loop (loopAt Tryd.f18 2))) :=
  told_loop (okS13 hl) k18_2 (by kernel_rfl) (by kernel_rfl) (fun _ _ => rfl) (segs_no (by kernel_rfl)) (E18_2 Y)
theorem E18_0 {σ : Type} (Y : Yd σ) : ∀ p x a (s : σ), W18_0 p (l18_0.encX x) (.inl a, s) = evK (cfgOf Tryd.prog (tabsS13 gl) tS13) (toldOf tS13) Y (inlN (cfgOf Tryd.prog (tabsS13 gl) tS13) (toldOf tS13) Y) (g18 gl) 18 (.seq (rangeA Tryd.f18 0) (rangeB Tryd.f18 0)) (l18_0.encS p x a s) (fun ex st' => l18_0.next ex st') := by
  intro p x a s
  obtain ⟨e6, e7, e8, e9⟩ := x
  obtain ⟨v10, v11, v12, v13, v14, v15, v16, k17⟩ := a
  kernel_rfl
theorem D18_0 {σ : Type} : ∀ p xs q r, W18_0 (σ := σ) p xs q = some r → ∃ x a s, xs = l18_0.encX x ∧ q = (.inl a, s) := by
  intro p xs q r h
  unfold W18_0 at h
  split at h
  · rename_i e6 e7 e8 e9 v10 v11 v12 v13 v14 v15 v16 k17 s
    exact ⟨(e6, e7, e8, e9), (v10, v11, v12, v13, v14, v15, v16, k17), _, rfl, rfl⟩
  · cases h
theorem Q18_0 {σ : Type} (hl : LibFits2 gl) (Y : Yd σ) (_ : Bool) : SegOk (cfgOf Tryd.prog (tabsS13 gl) tS13) (evFn (cfgOf Tryd.prog (tabsS13 gl) tS13) 9) 18 false Y (l18_0.seg (cfgOf Tryd.prog (tabsS13 gl) tS13) 18 0 (rangeG Tryd.f18 0) 83 itDec83 encL83 (fun i σ Y => n83 Y i) σ W18_0) (.block 0 (.rangeFunc (rangeG Tryd.f18 0) (rangeP Tryd.f18 0) (rangeA Tryd.f18 0) (rangeB Tryd.f18 0))) :=
  told_range (okS13 hl) k18_0 (by kernel_rfl) (by kernel_rfl) (by kernel_rfl) (segs_no (by kernel_rfl)) D18_0 (E18_0 Y) (J83r13 hl) S83
theorem N18 : ∀ a, n18 a = bodyK (cfgOf Tryd.prog (tabsS13 gl) tS13) (toldOf tS13) noY (inlN (cfgOf Tryd.prog (tabsS13 gl) tS13) (toldOf tS13) noY) (g18 gl) 18 Tryd.f18 (((fun a0 => [.val (.string a0)] : (ByteArray) → List D) a).map .d) [] [] () (fun v _ _ _ => r18 v) := by
  intro a0
  kernel_rfl
noncomputable def t18 : Tab := (18, e18) :: tS13
theorem ok18 (hl : LibFits2 gl) : TabOk Tryd.prog gl t18 :=
  told_fn (okS13 hl) mixed (oddOkS13 hl) Tryd.func18 (by kernel_rfl) (by kernel_rfl) (by kernel_rfl) (fun p hp e he => by
    have hq : segsOf (σ := Unit) (g18 gl (σ := Unit)) (bodyOf Tryd.f18) = [(0, .rangeFunc (rangeG Tryd.f18 0) (rangeP Tryd.f18 0) (rangeA Tryd.f18 0) (rangeB Tryd.f18 0)), (2, .loop (loopAt Tryd.f18 2))] := by kernel_rfl
    rw [hq] at hp
    simp only [List.mem_cons, List.not_mem_nil, or_false] at hp
    rcases hp with rfl | rfl
    · cases he; exact Q18_0 hl _ true
    · cases he; exact Q18_2 hl _ _
    )
    (args := fun a0 => [.val (.string a0)]) (res := r18)
    (fun ds a h => by
      unfold d18 at h
      split at h
      · cases h; rfl
      · cases h)
    (fun v r h => by
      unfold r18 at h
      split at h
      · rename_i hv; cases h; exact hv
      · cases h)
    N18

/-! sextant/sextantref09.Scan -/
abbrev A19_0 := ByteArray × List D × Int × Int × Int × Int × ByteArray × List D × Int × Nat
inductive O19_0 where
  | x0 (o19 : List D) (o20 : Int) (o21 : Int) (o22 : Int) (o23 : Int) (o24 : ByteArray) (o25 : List D) (o26 : Int) (q27 : Nat)
  | x1 (o33 : List D) (o34 : Int) (o35 : Int) (o36 : Int) (o37 : Int) (o38 : ByteArray) (o39 : List D) (o40 : Int) (q41 : Nat) (q42 : Nat)
def l19_0 : LoopS A19_0 O19_0 where
  n := 66
  ks := [0, 3, 4, 5]
  kso := [2, 3]
  m := 2
  mt := 2
  decV := fun vs bs ts => match vs, bs, ts with
    | [.d (.val (.string v7)), .ptr 0 0, .ptr 1 0, .osl 1 v8], [.cells (some 27) [.d (.val (.int .i64 v9)), .d (.val (.int .i64 v10)), .d (.val (.int .i64 v11)), .d (.val (.int .i64 v12))], .cells none [.d (.val (.string v13)), .d (.slice v14), .d (.val (.int .i64 v15))]], [k16, _] => some (v7, v8, v9, v10, v11, v12, v13, v14, v15, k16)
    | _, _, _ => none
  encV := fun (v7, v8, v9, v10, v11, v12, v13, v14, v15, k16) => [.d (.val (.string v7)), .ptr 0 0, .ptr 1 0, .osl 1 v8]
  encB := fun (v7, v8, v9, v10, v11, v12, v13, v14, v15, k16) => [.cells (some 27) [.d (.val (.int .i64 v9)), .d (.val (.int .i64 v10)), .d (.val (.int .i64 v11)), .d (.val (.int .i64 v12))], .cells none [.d (.val (.string v13)), .d (.slice v14), .d (.val (.int .i64 v15))]]
  tk := fun (v7, v8, v9, v10, v11, v12, v13, v14, v15, k16) => [k16, v8.length]
  decO := fun ex vs bs ts => match ex, vs, bs, ts with
    | .ret, [.osl 1 o19, .ptr 0 0], [.cells (some 27) [.d (.val (.int .i64 o20)), .d (.val (.int .i64 o21)), .d (.val (.int .i64 o22)), .d (.val (.int .i64 o23))], .cells none [.d (.val (.string o24)), .d (.slice o25), .d (.val (.int .i64 o26))]], [q27, _] => some (.x0 o19 o20 o21 o22 o23 o24 o25 o26 q27)
    | .ret, [.d (.slice o33), .ptr 0 0], [.cells (some 27) [.d (.val (.int .i64 o34)), .d (.val (.int .i64 o35)), .d (.val (.int .i64 o36)), .d (.val (.int .i64 o37))], .cells none [.d (.val (.string o38)), .d (.slice o39), .d (.val (.int .i64 o40))]], [q41, q42] => some (.x1 o33 o34 o35 o36 o37 o38 o39 o40 q41 q42)
    | _, _, _, _ => none
  exO := fun x => match x with
    | .x0 o19 o20 o21 o22 o23 o24 o25 o26 q27 => .ret
    | .x1 o33 o34 o35 o36 o37 o38 o39 o40 q41 q42 => .ret
  outV := fun x => match x with
    | .x0 o19 o20 o21 o22 o23 o24 o25 o26 q27 => [.osl 1 o19, .ptr 0 0]
    | .x1 o33 o34 o35 o36 o37 o38 o39 o40 q41 q42 => [.d (.slice o33), .ptr 0 0]
  outB := fun x => match x with
    | .x0 o19 o20 o21 o22 o23 o24 o25 o26 q27 => [.cells (some 27) [.d (.val (.int .i64 o20)), .d (.val (.int .i64 o21)), .d (.val (.int .i64 o22)), .d (.val (.int .i64 o23))], .cells none [.d (.val (.string o24)), .d (.slice o25), .d (.val (.int .i64 o26))]]
    | .x1 o33 o34 o35 o36 o37 o38 o39 o40 q41 q42 => [.cells (some 27) [.d (.val (.int .i64 o34)), .d (.val (.int .i64 o35)), .d (.val (.int .i64 o36)), .d (.val (.int .i64 o37))], .cells none [.d (.val (.string o38)), .d (.slice o39), .d (.val (.int .i64 o40))]]
  tkO := fun x => match x with
    | .x0 o19 o20 o21 o22 o23 o24 o25 o26 q27 => [q27, o19.length]
    | .x1 o33 o34 o35 o36 o37 o38 o39 o40 q41 q42 => [q41, q42]
  elim := fun x k => match x with
    | .x0 o19 o20 o21 o22 o23 o24 o25 o26 q27 => k .ret [.osl 1 o19, .ptr 0 0] [.cells (some 27) [.d (.val (.int .i64 o20)), .d (.val (.int .i64 o21)), .d (.val (.int .i64 o22)), .d (.val (.int .i64 o23))], .cells none [.d (.val (.string o24)), .d (.slice o25), .d (.val (.int .i64 o26))]] [q27, o19.length]
    | .x1 o33 o34 o35 o36 o37 o38 o39 o40 q41 q42 => k .ret [.d (.slice o33), .ptr 0 0] [.cells (some 27) [.d (.val (.int .i64 o34)), .d (.val (.int .i64 o35)), .d (.val (.int .i64 o36)), .d (.val (.int .i64 o37))], .cells none [.d (.val (.string o38)), .d (.slice o39), .d (.val (.int .i64 o40))]] [q41, q42]
theorem k19_0 : l19_0.Ok where
  ok1 := by kernel_rfl
  ok2 := by kernel_rfl
  dec := by
    intro vs bs ts a h
    simp only [l19_0] at h ⊢
    split at h
    · cases h; exact ⟨rfl, rfl⟩
    · cases h
  out := by
    intro ex vs bs ts o h
    simp only [l19_0] at h ⊢
    split at h
    · cases h; exact ⟨rfl, rfl, rfl⟩
    · cases h; exact ⟨rfl, rfl, rfl⟩
    · cases h
  len := fun _ => ⟨rfl, rfl⟩
  elim := fun β o k => by cases o <;> rfl
def L19_0 {σ : Type} : Nat → A19_0 → σ → Option (O19_0 × σ)
  | 0, _, _ => none
  | n+1, (v7, v8, v9, v10, v11, v12, v13, v14, v15, k16), s => ((n62 (v13, v14, v15)).bind fun y17 => (bif (decide (y17.2.2 ≥ ((y17.2.1.length : Nat) : Int))) then ((n63 (v7, (v7.size : Int))).bind fun y18 => (ask (addOk v8.length v8 ([.agg [.val (.int .i64 0), .val (.int .i64 y18.1), .val (.int .i64 y18.2.1), .val (.int .i64 y18.2.2), .val (.string (⟨#[]⟩ : ByteArray)), .val (.int .i64 0)]] : List D) 6 56) (ask (([k16, (v8.length + ([.agg [.val (.int .i64 0), .val (.int .i64 y18.1), .val (.int .i64 y18.2.1), .val (.int .i64 y18.2.2), .val (.string (⟨#[]⟩ : ByteArray)), .val (.int .i64 0)]] : List D).length)] : List Nat) = [k16, (v8 ++ ([.agg [.val (.int .i64 0), .val (.int .i64 y18.1), .val (.int .i64 y18.2.1), .val (.int .i64 y18.2.2), .val (.string (⟨#[]⟩ : ByteArray)), .val (.int .i64 0)]] : List D)).length]) (some (O19_0.x0 (v8 ++ ([.agg [.val (.int .i64 0), .val (.int .i64 y18.1), .val (.int .i64 y18.2.1), .val (.int .i64 y18.2.2), .val (.string (⟨#[]⟩ : ByteArray)), .val (.int .i64 0)]] : List D)) 0 0 0 0 y17.1 y17.2.1 y17.2.2 k16, s))))) else ((lidx y17.2.1 y17.2.2).bind fun d28 => ask (d28.cells.length = 3) ((cellAt 1 d28).bind fun x29 => (asInt .i64 x29).bind fun x30 => ((n64 (y17.1, y17.2.1, y17.2.2)).bind fun y31 => (bif (y31.2.2.2.2.2.2.1 != 0) then ((n63 (v7, x30)).bind fun y32 => (ask (([k16, v8.length] : List Nat) = [k16, v8.length]) (some (O19_0.x1 ([] : List D) y31.2.2.2.2.2.2.1 y32.1 y32.2.1 y32.2.2 y31.2.2.2.2.2.2.2.1 y31.2.2.2.2.2.2.2.2.1 y31.2.2.2.2.2.2.2.2.2 k16 v8.length, s)))) else ((n63 (v7, x30)).bind fun y43 => (ask (addOk v8.length v8 ([.agg [.val (.int .i64 y31.1), .val (.int .i64 y43.1), .val (.int .i64 y43.2.1), .val (.int .i64 y43.2.2), .val (.string y31.2.2.2.2.1), .val (.int .i64 y31.2.2.2.2.2.1)]] : List D) 6 56) (ask (([k16, (v8.length + ([.agg [.val (.int .i64 y31.1), .val (.int .i64 y43.1), .val (.int .i64 y43.2.1), .val (.int .i64 y43.2.2), .val (.string y31.2.2.2.2.1), .val (.int .i64 y31.2.2.2.2.2.1)]] : List D).length)] : List Nat) = [k16, (v8 ++ ([.agg [.val (.int .i64 y31.1), .val (.int .i64 y43.1), .val (.int .i64 y43.2.1), .val (.int .i64 y43.2.2), .val (.string y31.2.2.2.2.1), .val (.int .i64 y31.2.2.2.2.2.1)]] : List D)).length]) (L19_0 n (v7, (v8 ++ ([.agg [.val (.int .i64 y31.1), .val (.int .i64 y43.1), .val (.int .i64 y43.2.1), .val (.int .i64 y43.2.2), .val (.string y31.2.2.2.2.1), .val (.int .i64 y31.2.2.2.2.2.1)]] : List D)), v9, v10, v11, v12, y31.2.2.2.2.2.2.2.1, y31.2.2.2.2.2.2.2.2.1, y31.2.2.2.2.2.2.2.2.2, k16) s))))))))))
def d19 (ds : List D) : Option (ByteArray) := match ds with
  | [.val (.string a0)] => some a0
  | _ => none
def r19 (v : AV) : Option (List D × Int × Int × Int × Int) := match toPR v with
  | some (.many [.slice a1, .agg [.val (.int .i64 a2), .val (.int .i64 a3), .val (.int .i64 a4), .val (.int .i64 a5)]]) => some (a1, a2, a3, a4, a5)
  | _ => none
def n19 : ByteArray → Option (List D × Int × Int × Int × Int) := fun a0 => ((n29 a0).bind fun y6 => (ask (([0, 0] : List Nat) = [0, ([] : List D).length]) ((L19_0 1000000000000 (a0, ([] : List D), 0, 0, 0, 0, a0, y6, 0, 0) ()).bind fun p44 => match p44.1 with | .x0 z45 z46 z47 z48 z49 z50 z51 z52 z53 => (some (z45, z46, z47, z48, z49)) | .x1 z54 z55 z56 z57 z58 z59 z60 z61 z62 z63 => (some (z54, z55, z56, z57, z58)))))
def e19 : PureE := mkE d19 n19 (fun (a1, a2, a3, a4, a5) => .many [.slice a1, .agg [.val (.int .i64 a2), .val (.int .i64 a3), .val (.int .i64 a4), .val (.int .i64 a5)]])
def g19 {σ : Type} : Nat → Option (SegE σ)
  | 0 => some (l19_0.seg σ (L19_0 1000000000000))
  | _ => none
theorem E19_0 {σ : Type} (Y : Yd σ) : ∀ n a (s : σ), L19_0 (n + 1) a s = evK (cfgOf Tryd.prog (tabsS13 gl) tS13) (toldOf tS13) Y (inlN (cfgOf Tryd.prog (tabsS13 gl) tS13) (toldOf tS13) Y) g19 19 (loopAt Tryd.f19 0) ((l19_0.toT σ).enc a s) (fun ex st' => l19_0.next (cfgOf Tryd.prog (tabsS13 gl) tS13) 19 0 (L19_0 n) ex st') := by
  intro n ⟨v7, v8, v9, v10, v11, v12, v13, v14, v15, k16⟩ s
  kernel_rfl
theorem Q19_0 {σ : Type} (hl : LibFits2 gl) (Y : Yd σ) (rnd : Bool) : SegOk (cfgOf Tryd.prog (tabsS13 gl) tS13) (evFn (cfgOf Tryd.prog (tabsS13 gl) tS13) 9) 19 rnd Y (l19_0.seg σ (L19_0 1000000000000)) (.block 0 (.loop (loopAt Tryd.f19 0))) :=
  told_loop (okS13 hl) k19_0 (by kernel_rfl) (by kernel_rfl) (fun _ _ => rfl) (segs_no (by kernel_rfl)) (E19_0 Y)
theorem N19 : ∀ a, n19 a = bodyK (cfgOf Tryd.prog (tabsS13 gl) tS13) (toldOf tS13) noY (inlN (cfgOf Tryd.prog (tabsS13 gl) tS13) (toldOf tS13) noY) g19 19 Tryd.f19 (((fun a0 => [.val (.string a0)] : (ByteArray) → List D) a).map .d) [] [] () (fun v _ _ _ => r19 v) := by
  intro a0
  kernel_rfl
noncomputable def t19 : Tab := (19, e19) :: tS13
theorem ok19 (hl : LibFits2 gl) : TabOk Tryd.prog gl t19 :=
  told_fn (okS13 hl) mixed (oddOkS13 hl) Tryd.func19 (by kernel_rfl) (by kernel_rfl) (by kernel_rfl) (fun p hp e he => by
    have hq : segsOf (σ := Unit) (g19 (σ := Unit)) (bodyOf Tryd.f19) = [(0, .loop (loopAt Tryd.f19 0))] := by kernel_rfl
    rw [hq] at hp
    simp only [List.mem_cons, List.not_mem_nil, or_false] at hp
    subst hp
    cases he
    exact Q19_0 hl _ _)
    (args := fun a0 => [.val (.string a0)]) (res := r19)
    (fun ds a h => by
      unfold d19 at h
      split at h
      · cases h; rfl
      · cases h)
    (fun v r h => by
      unfold r19 at h
      split at h
      · rename_i hv; cases h; exact hv
      · cases h)
    N19

/-! sextant/sextantlaw09.same -/
abbrev A20_0 := List D × List D × Int
inductive O20_0 where
  | x0 (o32 : Bool)
  | x1 
def l20_0 : LoopS A20_0 O20_0 where
  n := 26
  ks := [0, 1, 5]
  kso := [4]
  m := 0
  mt := 0
  decV := fun vs bs ts => match vs, bs, ts with
    | [.d (.slice v3), .d (.slice v4), .d (.val (.int .i64 v5))], [], [] => some (v3, v4, v5)
    | _, _, _ => none
  encV := fun (v3, v4, v5) => [.d (.slice v3), .d (.slice v4), .d (.val (.int .i64 v5))]
  encB := fun (v3, v4, v5) => []
  tk := fun _ => []
  decO := fun ex vs bs ts => match ex, vs, bs, ts with
    | .ret, [.d (.val (.bool o32))], [], [] => some (.x0 o32)
    | .normal, [.undef], [], [] => some (.x1 )
    | _, _, _, _ => none
  exO := fun x => match x with
    | .x0 o32 => .ret
    | .x1  => .normal
  outV := fun x => match x with
    | .x0 o32 => [.d (.val (.bool o32))]
    | .x1  => [.undef]
  outB := fun x => match x with
    | .x0 o32 => []
    | .x1  => []
  tkO := fun x => match x with
    | .x0 o32 => []
    | .x1  => []
  elim := fun x k => match x with
    | .x0 o32 => k .ret [.d (.val (.bool o32))] [] []
    | .x1  => k .normal [.undef] [] []
theorem k20_0 : l20_0.Ok where
  ok1 := by kernel_rfl
  ok2 := by kernel_rfl
  dec := by
    intro vs bs ts a h
    simp only [l20_0] at h ⊢
    split at h
    · cases h; exact ⟨rfl, rfl⟩
    · cases h
  out := by
    intro ex vs bs ts o h
    simp only [l20_0] at h ⊢
    split at h
    · cases h; exact ⟨rfl, rfl, rfl⟩
    · cases h; exact ⟨rfl, rfl, rfl⟩
    · cases h
  len := fun _ => ⟨rfl, rfl⟩
  elim := fun β o k => by cases o <;> rfl
def L20_0 {σ : Type} : Nat → A20_0 → σ → Option (O20_0 × σ)
  | 0, _, _ => none
  | n+1, (v3, v4, v5), s => (bif (decide (v5 < ((v3.length : Nat) : Int))) then ((lidx v3 v5).bind fun d6 => ask (d6.cells.length = 6) ((cellAt 0 d6).bind fun x7 => (asInt .i64 x7).bind fun x8 => ((cellAt 1 d6).bind fun x9 => (asInt .i64 x9).bind fun x10 => ((cellAt 2 d6).bind fun x11 => (asInt .i64 x11).bind fun x12 => ((cellAt 3 d6).bind fun x13 => (asInt .i64 x13).bind fun x14 => ((cellAt 4 d6).bind fun x15 => (asStr x15).bind fun x16 => ((cellAt 5 d6).bind fun x17 => (asInt .i64 x17).bind fun x18 => ((lidx v4 v5).bind fun d19 => ask (d19.cells.length = 6) ((cellAt 0 d19).bind fun x20 => (asInt .i64 x20).bind fun x21 => ((cellAt 1 d19).bind fun x22 => (asInt .i64 x22).bind fun x23 => ((cellAt 2 d19).bind fun x24 => (asInt .i64 x24).bind fun x25 => ((cellAt 3 d19).bind fun x26 => (asInt .i64 x26).bind fun x27 => ((cellAt 4 d19).bind fun x28 => (asStr x28).bind fun x29 => ((cellAt 5 d19).bind fun x30 => (asInt .i64 x30).bind fun x31 => (bif (!((x8 == x21) && (((x10 == x23) && ((x12 == x25) && ((x14 == x27) && true))) && ((sEq x16 x29) && ((x18 == x31) && true))))) then (some (O20_0.x0 false, s)) else (L20_0 n (v3, v4, (w64 (v5 + 1))) s)))))))))))))))) else (some (O20_0.x1 , s)))
def d20 (ds : List D) : Option (List D × List D) := match ds with
  | [.slice a0, .slice a1] => some (a0, a1)
  | _ => none
def r20 (v : AV) : Option (Bool) := match toPR v with
  | some (.one (.val (.bool a2))) => some a2
  | _ => none
def n20 : List D × List D → Option (Bool) := fun (a0, a1) => (bif (((a0.length : Nat) : Int) != ((a1.length : Nat) : Int)) then (some false) else ((L20_0 1000000000000 (a0, a1, 0) ()).bind fun p33 => match p33.1 with | .x0 z34 => (some z34) | .x1  => (some true)))
def e20 : PureE := mkE d20 n20 (fun a2 => .one (.val (.bool a2)))
def g20 {σ : Type} : Nat → Option (SegE σ)
  | 0 => some (l20_0.seg σ (L20_0 1000000000000))
  | _ => none
theorem E20_0 {σ : Type} (Y : Yd σ) : ∀ n a (s : σ), L20_0 (n + 1) a s = evK (cfgOf Tryd.prog (tabsS13 gl) tS13) (toldOf tS13) Y (inlN (cfgOf Tryd.prog (tabsS13 gl) tS13) (toldOf tS13) Y) g20 20 (loopAt Tryd.f20 0) ((l20_0.toT σ).enc a s) (fun ex st' => l20_0.next (cfgOf Tryd.prog (tabsS13 gl) tS13) 20 0 (L20_0 n) ex st') := by
  intro n ⟨v3, v4, v5⟩ s
  kernel_rfl
theorem Q20_0 {σ : Type} (hl : LibFits2 gl) (Y : Yd σ) (rnd : Bool) : SegOk (cfgOf Tryd.prog (tabsS13 gl) tS13) (evFn (cfgOf Tryd.prog (tabsS13 gl) tS13) 9) 20 rnd Y (l20_0.seg σ (L20_0 1000000000000)) (.block 0 (.loop (loopAt Tryd.f20 0))) :=
  told_loop (okS13 hl) k20_0 (by kernel_rfl) (by kernel_rfl) (fun _ _ => rfl) (segs_no (by kernel_rfl)) (E20_0 Y)
theorem N20 : ∀ a, n20 a = bodyK (cfgOf Tryd.prog (tabsS13 gl) tS13) (toldOf tS13) noY (inlN (cfgOf Tryd.prog (tabsS13 gl) tS13) (toldOf tS13) noY) g20 20 Tryd.f20 (((fun (a0, a1) => [.slice a0, .slice a1] : (List D × List D) → List D) a).map .d) [] [] () (fun v _ _ _ => r20 v) := by
  intro a
  obtain ⟨a0, a1⟩ := a
  kernel_rfl
noncomputable def t20 : Tab := (20, e20) :: tS13
theorem ok20 (hl : LibFits2 gl) : TabOk Tryd.prog gl t20 :=
  told_fn (okS13 hl) mixed (oddOkS13 hl) Tryd.func20 (by kernel_rfl) (by kernel_rfl) (by kernel_rfl) (fun p hp e he => by
    have hq : segsOf (σ := Unit) (g20 (σ := Unit)) (bodyOf Tryd.f20) = [(0, .loop (loopAt Tryd.f20 0))] := by kernel_rfl
    rw [hq] at hp
    simp only [List.mem_cons, List.not_mem_nil, or_false] at hp
    subst hp
    cases he
    exact Q20_0 hl _ _)
    (args := fun (a0, a1) => [.slice a0, .slice a1]) (res := r20)
    (fun ds a h => by
      unfold d20 at h
      split at h
      · cases h; rfl
      · cases h)
    (fun v r h => by
      unfold r20 at h
      split at h
      · rename_i hv; cases h; exact hv
      · cases h)
    N20

noncomputable def tS14 : Tab := (18, e18) :: (19, e19) :: (20, e20) :: tS13
theorem okS14 (hl : LibFits2 gl) : TabOk Tryd.prog gl tS14 :=
  TabOk.cons (TabOk.cons (TabOk.cons (okS13 hl) ((ok20 hl).fair (20, e20) (List.mem_cons_self (l := tS13))) ((ok20 hl).spec (20, e20) (List.mem_cons_self (l := tS13)))) ((ok19 hl).fair (19, e19) (List.mem_cons_self (l := tS13))) ((ok19 hl).spec (19, e19) (List.mem_cons_self (l := tS13)))) ((ok18 hl).fair (18, e18) (List.mem_cons_self (l := tS13))) ((ok18 hl).spec (18, e18) (List.mem_cons_self (l := tS13)))
/-! sextant/token.Spell -/
def d22 (ds : List D) : Option (Int × Int × Int × Int × ByteArray × Int) := match ds with
  | [.agg [.val (.int .i64 a0), .val (.int .i64 a1), .val (.int .i64 a2), .val (.int .i64 a3), .val (.string a4), .val (.int .i64 a5)]] => some (a0, a1, a2, a3, a4, a5)
  | _ => none
def r22 (v : AV) : Option (ByteArray × Int) := match toPR v with
  | some (.many [.val (.string a6), .val (.int .i64 a7)]) => some (a6, a7)
  | _ => none
def n22 : Int × Int × Int × Int × ByteArray × Int → Option (ByteArray × Int) := fun (a0, a1, a2, a3, a4, a5) => (bif (a0 == 1) then ((n18 a4).bind fun y8 => (bif (bif (y8.2.1 != 0) then true else (decide (((y8.1.length : Nat) : Int) > 2))) then (some ((⟨#[]⟩ : ByteArray), 2)) else ((lidx y8.1 0).bind fun d9 => ask (d9.cells.length = 6) ((cellAt 0 d9).bind fun x10 => (asInt .i64 x10).bind fun x11 => ((cellAt 1 d9).bind fun x12 => (asInt .i64 x12).bind fun x13 => ((cellAt 2 d9).bind fun x14 => (asInt .i64 x14).bind fun x15 => ((cellAt 3 d9).bind fun x16 => (asInt .i64 x16).bind fun x17 => ((cellAt 4 d9).bind fun x18 => (asStr x18).bind fun x19 => ((cellAt 5 d9).bind fun x20 => (asInt .i64 x20).bind fun x21 => (bif (!((x11 == a0) && (((0 == 0) && ((0 == 0) && ((0 == 0) && true))) && ((sEq x19 a4) && ((x21 == a5) && true))))) then (some ((⟨#[]⟩ : ByteArray), 2)) else (bif (!(sEq a4 (⟨#[]⟩ : ByteArray))) then (bif (((y8.1.length : Nat) : Int) != 2) then (some ((⟨#[]⟩ : ByteArray), 2)) else (some (a4, 0))) else (some (a4, 0))))))))))))) else (bif (a0 == 4) then ((n18 a4).bind fun y22 => (bif (bif (y22.2.1 != 0) then true else (decide (((y22.1.length : Nat) : Int) > 2))) then (some ((⟨#[]⟩ : ByteArray), 2)) else ((lidx y22.1 0).bind fun d23 => ask (d23.cells.length = 6) ((cellAt 0 d23).bind fun x24 => (asInt .i64 x24).bind fun x25 => ((cellAt 1 d23).bind fun x26 => (asInt .i64 x26).bind fun x27 => ((cellAt 2 d23).bind fun x28 => (asInt .i64 x28).bind fun x29 => ((cellAt 3 d23).bind fun x30 => (asInt .i64 x30).bind fun x31 => ((cellAt 4 d23).bind fun x32 => (asStr x32).bind fun x33 => ((cellAt 5 d23).bind fun x34 => (asInt .i64 x34).bind fun x35 => (bif (!((x25 == a0) && (((0 == 0) && ((0 == 0) && ((0 == 0) && true))) && ((sEq x33 a4) && ((x35 == a5) && true))))) then (some ((⟨#[]⟩ : ByteArray), 2)) else (bif (!(sEq a4 (⟨#[]⟩ : ByteArray))) then (bif (((y22.1.length : Nat) : Int) != 2) then (some ((⟨#[]⟩ : ByteArray), 2)) else (some (a4, 0))) else (some (a4, 0))))))))))))) else (bif (a0 == 3) then (ask (catOk (⟨#[35]⟩ : ByteArray) a4) ((n18 ((⟨#[35]⟩ : ByteArray) ++ a4)).bind fun y36 => (bif (bif (y36.2.1 != 0) then true else (decide (((y36.1.length : Nat) : Int) > 2))) then (some ((⟨#[]⟩ : ByteArray), 2)) else ((lidx y36.1 0).bind fun d37 => ask (d37.cells.length = 6) ((cellAt 0 d37).bind fun x38 => (asInt .i64 x38).bind fun x39 => ((cellAt 1 d37).bind fun x40 => (asInt .i64 x40).bind fun x41 => ((cellAt 2 d37).bind fun x42 => (asInt .i64 x42).bind fun x43 => ((cellAt 3 d37).bind fun x44 => (asInt .i64 x44).bind fun x45 => ((cellAt 4 d37).bind fun x46 => (asStr x46).bind fun x47 => ((cellAt 5 d37).bind fun x48 => (asInt .i64 x48).bind fun x49 => (bif (!((x39 == a0) && (((0 == 0) && ((0 == 0) && ((0 == 0) && true))) && ((sEq x47 a4) && ((x49 == a5) && true))))) then (some ((⟨#[]⟩ : ByteArray), 2)) else (bif (!(sEq ((⟨#[35]⟩ : ByteArray) ++ a4) (⟨#[]⟩ : ByteArray))) then (bif (((y36.1.length : Nat) : Int) != 2) then (some ((⟨#[]⟩ : ByteArray), 2)) else (some (((⟨#[35]⟩ : ByteArray) ++ a4), 0))) else (some (((⟨#[35]⟩ : ByteArray) ++ a4), 0)))))))))))))) else (bif (a0 == 2) then ((n44 a5).bind fun y50 => ((n18 y50).bind fun y51 => (bif (bif (y51.2.1 != 0) then true else (decide (((y51.1.length : Nat) : Int) > 2))) then (some ((⟨#[]⟩ : ByteArray), 2)) else ((lidx y51.1 0).bind fun d52 => ask (d52.cells.length = 6) ((cellAt 0 d52).bind fun x53 => (asInt .i64 x53).bind fun x54 => ((cellAt 1 d52).bind fun x55 => (asInt .i64 x55).bind fun x56 => ((cellAt 2 d52).bind fun x57 => (asInt .i64 x57).bind fun x58 => ((cellAt 3 d52).bind fun x59 => (asInt .i64 x59).bind fun x60 => ((cellAt 4 d52).bind fun x61 => (asStr x61).bind fun x62 => ((cellAt 5 d52).bind fun x63 => (asInt .i64 x63).bind fun x64 => (bif (!((x54 == a0) && (((0 == 0) && ((0 == 0) && ((0 == 0) && true))) && ((sEq x62 a4) && ((x64 == a5) && true))))) then (some ((⟨#[]⟩ : ByteArray), 2)) else (bif (!(sEq y50 (⟨#[]⟩ : ByteArray))) then (bif (((y51.1.length : Nat) : Int) != 2) then (some ((⟨#[]⟩ : ByteArray), 2)) else (some (y50, 0))) else (some (y50, 0)))))))))))))) else ((n18 (⟨#[]⟩ : ByteArray)).bind fun y65 => (bif (bif (y65.2.1 != 0) then true else (decide (((y65.1.length : Nat) : Int) > 2))) then (some ((⟨#[]⟩ : ByteArray), 2)) else ((lidx y65.1 0).bind fun d66 => ask (d66.cells.length = 6) ((cellAt 0 d66).bind fun x67 => (asInt .i64 x67).bind fun x68 => ((cellAt 1 d66).bind fun x69 => (asInt .i64 x69).bind fun x70 => ((cellAt 2 d66).bind fun x71 => (asInt .i64 x71).bind fun x72 => ((cellAt 3 d66).bind fun x73 => (asInt .i64 x73).bind fun x74 => ((cellAt 4 d66).bind fun x75 => (asStr x75).bind fun x76 => ((cellAt 5 d66).bind fun x77 => (asInt .i64 x77).bind fun x78 => (bif (!((x68 == a0) && (((0 == 0) && ((0 == 0) && ((0 == 0) && true))) && ((sEq x76 a4) && ((x78 == a5) && true))))) then (some ((⟨#[]⟩ : ByteArray), 2)) else (bif (!(sEq (⟨#[]⟩ : ByteArray) (⟨#[]⟩ : ByteArray))) then (bif (((y65.1.length : Nat) : Int) != 2) then (some ((⟨#[]⟩ : ByteArray), 2)) else (some ((⟨#[]⟩ : ByteArray), 0))) else (some ((⟨#[]⟩ : ByteArray), 0)))))))))))))))))
def e22 : PureE := mkE d22 n22 (fun (a6, a7) => .many [.val (.string a6), .val (.int .i64 a7)])
def g22 {σ : Type} : Nat → Option (SegE σ)
  | _ => none
theorem N22 : ∀ a, n22 a = bodyK (cfgOf Tryd.prog (tabsS13 gl) tS14) (toldOf tS14) noY (inlN (cfgOf Tryd.prog (tabsS13 gl) tS14) (toldOf tS14) noY) g22 22 Tryd.f22 (((fun (a0, a1, a2, a3, a4, a5) => [.agg [.val (.int .i64 a0), .val (.int .i64 a1), .val (.int .i64 a2), .val (.int .i64 a3), .val (.string a4), .val (.int .i64 a5)]] : (Int × Int × Int × Int × ByteArray × Int) → List D) a).map .d) [] [] () (fun v _ _ _ => r22 v) := by
  intro a
  obtain ⟨a0, a1, a2, a3, a4, a5⟩ := a
  kernel_rfl
noncomputable def t22 : Tab := (22, e22) :: tS14
theorem ok22 (hl : LibFits2 gl) : TabOk Tryd.prog gl t22 :=
  told_fn (okS14 hl) mixed (oddOkS13 hl) Tryd.func22 (by kernel_rfl) (by kernel_rfl) (by kernel_rfl) (segs_no (by kernel_rfl))
    (args := fun (a0, a1, a2, a3, a4, a5) => [.agg [.val (.int .i64 a0), .val (.int .i64 a1), .val (.int .i64 a2), .val (.int .i64 a3), .val (.string a4), .val (.int .i64 a5)]]) (res := r22)
    (fun ds a h => by
      unfold d22 at h
      split at h
      · cases h; rfl
      · cases h)
    (fun v r h => by
      unfold r22 at h
      split at h
      · rename_i hv; cases h; exact hv
      · cases h)
    N22

/-! sextant/sextantlaw09.plain -/
abbrev A26_0 := List D × List D × Int × Nat
inductive O26_0 where
  | x0 (o19 : List D) (q20 : Nat)
def l26_0 : LoopS A26_0 O26_0 where
  n := 23
  ks := [0, 3, 4]
  kso := [3]
  m := 0
  mt := 2
  decV := fun vs bs ts => match vs, bs, ts with
    | [.d (.slice v2), .osl 1 v3, .d (.val (.int .i64 v4))], [], [k5, _] => some (v2, v3, v4, k5)
    | _, _, _ => none
  encV := fun (v2, v3, v4, k5) => [.d (.slice v2), .osl 1 v3, .d (.val (.int .i64 v4))]
  encB := fun (v2, v3, v4, k5) => []
  tk := fun (v2, v3, v4, k5) => [k5, v3.length]
  decO := fun ex vs bs ts => match ex, vs, bs, ts with
    | .normal, [.osl 1 o19], [], [q20, _] => some (.x0 o19 q20)
    | _, _, _, _ => none
  exO := fun x => match x with
    | .x0 o19 q20 => .normal
  outV := fun x => match x with
    | .x0 o19 q20 => [.osl 1 o19]
  outB := fun x => match x with
    | .x0 o19 q20 => []
  tkO := fun x => match x with
    | .x0 o19 q20 => [q20, o19.length]
  elim := fun x k => match x with
    | .x0 o19 q20 => k .normal [.osl 1 o19] [] [q20, o19.length]
theorem k26_0 : l26_0.Ok where
  ok1 := by kernel_rfl
  ok2 := by kernel_rfl
  dec := by
    intro vs bs ts a h
    simp only [l26_0] at h ⊢
    split at h
    · cases h; exact ⟨rfl, rfl⟩
    · cases h
  out := by
    intro ex vs bs ts o h
    simp only [l26_0] at h ⊢
    split at h
    · cases h; exact ⟨rfl, rfl, rfl⟩
    · cases h
  len := fun _ => ⟨rfl, rfl⟩
  elim := fun β o k => by cases o <;> rfl
def L26_0 {σ : Type} : Nat → A26_0 → σ → Option (O26_0 × σ)
  | 0, _, _ => none
  | n+1, (v2, v3, v4, k5), s => (bif (decide (v4 < ((v2.length : Nat) : Int))) then ((lidx v2 v4).bind fun d6 => ask (d6.cells.length = 6) ((cellAt 0 d6).bind fun x7 => (asInt .i64 x7).bind fun x8 => ((cellAt 1 d6).bind fun x9 => (asInt .i64 x9).bind fun x10 => ((cellAt 2 d6).bind fun x11 => (asInt .i64 x11).bind fun x12 => ((cellAt 3 d6).bind fun x13 => (asInt .i64 x13).bind fun x14 => ((cellAt 4 d6).bind fun x15 => (asStr x15).bind fun x16 => ((cellAt 5 d6).bind fun x17 => (asInt .i64 x17).bind fun x18 => (ask (addOk v3.length v3 ([.agg [.val (.int .i64 x8), .val (.int .i64 0), .val (.int .i64 0), .val (.int .i64 0), .val (.string x16), .val (.int .i64 x18)]] : List D) 6 56) (ask (([k5, (v3.length + ([.agg [.val (.int .i64 x8), .val (.int .i64 0), .val (.int .i64 0), .val (.int .i64 0), .val (.string x16), .val (.int .i64 x18)]] : List D).length)] : List Nat) = [k5, (v3 ++ ([.agg [.val (.int .i64 x8), .val (.int .i64 0), .val (.int .i64 0), .val (.int .i64 0), .val (.string x16), .val (.int .i64 x18)]] : List D)).length]) (L26_0 n (v2, (v3 ++ ([.agg [.val (.int .i64 x8), .val (.int .i64 0), .val (.int .i64 0), .val (.int .i64 0), .val (.string x16), .val (.int .i64 x18)]] : List D)), (w64 (v4 + 1)), k5) s)))))))))) else (ask (([k5, v3.length] : List Nat) = [k5, v3.length]) (some (O26_0.x0 v3 k5, s))))
def d26 (ds : List D) : Option (List D) := match ds with
  | [.slice a0] => some a0
  | _ => none
def r26 (v : AV) : Option (List D) := match toPR v with
  | some (.one (.slice a1)) => some a1
  | _ => none
def n26 : List D → Option (List D) := fun a0 => (ask (([0, 0] : List Nat) = [0, ([] : List D).length]) ((L26_0 1000000000000 (a0, ([] : List D), 0, 0) ()).bind fun p21 => match p21.1 with | .x0 z22 z23 => (some z22)))
def e26 : PureE := mkE d26 n26 (fun a1 => .one (.slice a1))
def g26 {σ : Type} : Nat → Option (SegE σ)
  | 0 => some (l26_0.seg σ (L26_0 1000000000000))
  | _ => none
theorem E26_0 {σ : Type} (Y : Yd σ) : ∀ n a (s : σ), L26_0 (n + 1) a s = evK (cfgOf Tryd.prog (tabsS13 gl) tS14) (toldOf tS14) Y (inlN (cfgOf Tryd.prog (tabsS13 gl) tS14) (toldOf tS14) Y) g26 26 (loopAt Tryd.f26 0) ((l26_0.toT σ).enc a s) (fun ex st' => l26_0.next (cfgOf Tryd.prog (tabsS13 gl) tS14) 26 0 (L26_0 n) ex st') := by
  intro n ⟨v2, v3, v4, k5⟩ s
  kernel_rfl
theorem Q26_0 {σ : Type} (hl : LibFits2 gl) (Y : Yd σ) (rnd : Bool) : SegOk (cfgOf Tryd.prog (tabsS13 gl) tS14) (evFn (cfgOf Tryd.prog (tabsS13 gl) tS14) 9) 26 rnd Y (l26_0.seg σ (L26_0 1000000000000)) (.block 0 (.loop (loopAt Tryd.f26 0))) :=
  told_loop (okS14 hl) k26_0 (by kernel_rfl) (by kernel_rfl) (fun _ _ => rfl) (segs_no (by kernel_rfl)) (E26_0 Y)
theorem N26 : ∀ a, n26 a = bodyK (cfgOf Tryd.prog (tabsS13 gl) tS14) (toldOf tS14) noY (inlN (cfgOf Tryd.prog (tabsS13 gl) tS14) (toldOf tS14) noY) g26 26 Tryd.f26 (((fun a0 => [.slice a0] : (List D) → List D) a).map .d) [] [] () (fun v _ _ _ => r26 v) := by
  intro a0
  kernel_rfl
noncomputable def t26 : Tab := (26, e26) :: tS14
theorem ok26 (hl : LibFits2 gl) : TabOk Tryd.prog gl t26 :=
  told_fn (okS14 hl) mixed (oddOkS13 hl) Tryd.func26 (by kernel_rfl) (by kernel_rfl) (by kernel_rfl) (fun p hp e he => by
    have hq : segsOf (σ := Unit) (g26 (σ := Unit)) (bodyOf Tryd.f26) = [(0, .loop (loopAt Tryd.f26 0))] := by kernel_rfl
    rw [hq] at hp
    simp only [List.mem_cons, List.not_mem_nil, or_false] at hp
    subst hp
    cases he
    exact Q26_0 hl _ _)
    (args := fun a0 => [.slice a0]) (res := r26)
    (fun ds a h => by
      unfold d26 at h
      split at h
      · cases h; rfl
      · cases h)
    (fun v r h => by
      unfold r26 at h
      split at h
      · rename_i hv; cases h; exact hv
      · cases h)
    N26

/-! sextant/sextantlaw09.fill -/
def d27 (ds : List D) : Option (Int) := match ds with
  | [.val (.int .i64 a0)] => some a0
  | _ => none
def r27 (v : AV) : Option (ByteArray) := match toPR v with
  | some (.one (.val (.string a1))) => some a1
  | _ => none
def n27 : Int → Option (ByteArray) := fun a0 => (bif (a0 == 1) then (some (⟨#[9, 32]⟩ : ByteArray)) else (bif (a0 == 2) then (some (⟨#[32, 47, 47, 32, 35, 32, 33, 32, 195, 169, 10]⟩ : ByteArray)) else (bif (a0 == 3) then (some (⟨#[13, 10]⟩ : ByteArray)) else (some (⟨#[32]⟩ : ByteArray)))))
def e27 : PureE := mkE d27 n27 (fun a1 => .one (.val (.string a1)))
def g27 {σ : Type} : Nat → Option (SegE σ)
  | _ => none
theorem N27 : ∀ a, n27 a = bodyK (cfgOf Tryd.prog (tabsS13 gl) tS14) (toldOf tS14) noY (inlN (cfgOf Tryd.prog (tabsS13 gl) tS14) (toldOf tS14) noY) g27 27 Tryd.f27 (((fun a0 => [.val (.int .i64 a0)] : (Int) → List D) a).map .d) [] [] () (fun v _ _ _ => r27 v) := by
  intro a0
  kernel_rfl
noncomputable def t27 : Tab := (27, e27) :: tS14
theorem ok27 (hl : LibFits2 gl) : TabOk Tryd.prog gl t27 :=
  told_fn (okS14 hl) mixed (oddOkS13 hl) Tryd.func27 (by kernel_rfl) (by kernel_rfl) (by kernel_rfl) (segs_no (by kernel_rfl))
    (args := fun a0 => [.val (.int .i64 a0)]) (res := r27)
    (fun ds a h => by
      unfold d27 at h
      split at h
      · cases h; rfl
      · cases h)
    (fun v r h => by
      unfold r27 at h
      split at h
      · rename_i hv; cases h; exact hv
      · cases h)
    N27

noncomputable def tS15 : Tab := (22, e22) :: (26, e26) :: (27, e27) :: tS14
theorem okS15 (hl : LibFits2 gl) : TabOk Tryd.prog gl tS15 :=
  TabOk.cons (TabOk.cons (TabOk.cons (okS14 hl) ((ok27 hl).fair (27, e27) (List.mem_cons_self (l := tS14))) ((ok27 hl).spec (27, e27) (List.mem_cons_self (l := tS14)))) ((ok26 hl).fair (26, e26) (List.mem_cons_self (l := tS14))) ((ok26 hl).spec (26, e26) (List.mem_cons_self (l := tS14)))) ((ok22 hl).fair (22, e22) (List.mem_cons_self (l := tS14))) ((ok22 hl).spec (22, e22) (List.mem_cons_self (l := tS14)))
/-! sextant/token.Join -/
abbrev A24_0 := List D × List D × List D × Int × Int
inductive O24_0 where
  | x0 (o22 : ByteArray) (o23 : Int) (q24 : Nat)
  | x1 (o25 : List D)
def l24_0 : LoopS A24_0 O24_0 where
  n := 43
  ks := [0, 4, 9, 10, 11]
  kso := [2, 3, 4]
  m := 0
  mt := 1
  decV := fun vs bs ts => match vs, bs, ts with
    | [.d (.slice v3), .osl 0 v4, .d (.slice v5), .d (.val (.int .i64 v6)), .d (.val (.int .i64 v7))], [], [_] => some (v3, v4, v5, v6, v7)
    | _, _, _ => none
  encV := fun (v3, v4, v5, v6, v7) => [.d (.slice v3), .osl 0 v4, .d (.slice v5), .d (.val (.int .i64 v6)), .d (.val (.int .i64 v7))]
  encB := fun (v3, v4, v5, v6, v7) => []
  tk := fun (v3, v4, v5, v6, v7) => [v4.length]
  decO := fun ex vs bs ts => match ex, vs, bs, ts with
    | .ret, [.d (.val (.string o22)), .d (.val (.int .i64 o23)), .undef], [], [q24] => some (.x0 o22 o23 q24)
    | .normal, [.undef, .undef, .osl 0 o25], [], [_] => some (.x1 o25)
    | _, _, _, _ => none
  exO := fun x => match x with
    | .x0 o22 o23 q24 => .ret
    | .x1 o25 => .normal
  outV := fun x => match x with
    | .x0 o22 o23 q24 => [.d (.val (.string o22)), .d (.val (.int .i64 o23)), .undef]
    | .x1 o25 => [.undef, .undef, .osl 0 o25]
  outB := fun x => match x with
    | .x0 o22 o23 q24 => []
    | .x1 o25 => []
  tkO := fun x => match x with
    | .x0 o22 o23 q24 => [q24]
    | .x1 o25 => [o25.length]
  elim := fun x k => match x with
    | .x0 o22 o23 q24 => k .ret [.d (.val (.string o22)), .d (.val (.int .i64 o23)), .undef] [] [q24]
    | .x1 o25 => k .normal [.undef, .undef, .osl 0 o25] [] [o25.length]
theorem k24_0 : l24_0.Ok where
  ok1 := by kernel_rfl
  ok2 := by kernel_rfl
  dec := by
    intro vs bs ts a h
    simp only [l24_0] at h ⊢
    split at h
    · cases h; exact ⟨rfl, rfl⟩
    · cases h
  out := by
    intro ex vs bs ts o h
    simp only [l24_0] at h ⊢
    split at h
    · cases h; exact ⟨rfl, rfl, rfl⟩
    · cases h; exact ⟨rfl, rfl, rfl⟩
    · cases h
  len := fun _ => ⟨rfl, rfl⟩
  elim := fun β o k => by cases o <;> rfl
def L24_0 {σ : Type} : Nat → A24_0 → σ → Option (O24_0 × σ)
  | 0, _, _ => none
  | n+1, (v3, v4, v5, v6, v7), s => (bif (decide (v7 < v6)) then ((lidx v5 v7).bind fun d8 => ask (d8.cells.length = 6) ((cellAt 0 d8).bind fun x9 => (asInt .i64 x9).bind fun x10 => ((cellAt 1 d8).bind fun x11 => (asInt .i64 x11).bind fun x12 => ((cellAt 2 d8).bind fun x13 => (asInt .i64 x13).bind fun x14 => ((cellAt 3 d8).bind fun x15 => (asInt .i64 x15).bind fun x16 => ((cellAt 4 d8).bind fun x17 => (asStr x17).bind fun x18 => ((cellAt 5 d8).bind fun x19 => (asInt .i64 x19).bind fun x20 => ((n22 (x10, x12, x14, x16, x18, x20)).bind fun y21 => (bif (y21.2 != 0) then (ask (([v4.length] : List Nat) = [v4.length]) (some (O24_0.x0 (⟨#[]⟩ : ByteArray) 2 v4.length, s))) else (bif (x10 == 0) then (bif (decide (v7 < (w64 (((v3.length : Nat) : Int) - 1)))) then (ask (([v4.length] : List Nat) = [v4.length]) (some (O24_0.x0 (⟨#[]⟩ : ByteArray) 2 v4.length, s))) else (ask (addOk v4.length v4 ([.val (.string y21.1)] : List D) 1 16) (ask (([(v4.length + ([.val (.string y21.1)] : List D).length)] : List Nat) = [(v4 ++ ([.val (.string y21.1)] : List D)).length]) (L24_0 n (v3, (v4 ++ ([.val (.string y21.1)] : List D)), v5, v6, (w64 (v7 + 1))) s)))) else (ask (addOk v4.length v4 ([.val (.string y21.1)] : List D) 1 16) (ask (([(v4.length + ([.val (.string y21.1)] : List D).length)] : List Nat) = [(v4 ++ ([.val (.string y21.1)] : List D)).length]) (L24_0 n (v3, (v4 ++ ([.val (.string y21.1)] : List D)), v5, v6, (w64 (v7 + 1))) s))))))))))))) else (ask (([v4.length] : List Nat) = [v4.length]) (some (O24_0.x1 v4, s))))
def d24 (ds : List D) : Option (List D) := match ds with
  | [.slice a0] => some a0
  | _ => none
def r24 (v : AV) : Option (ByteArray × Int) := match toPR v with
  | some (.many [.val (.string a1), .val (.int .i64 a2)]) => some (a1, a2)
  | _ => none
def n24 : List D → Option (ByteArray × Int) := fun a0 => (ask (([0] : List Nat) = [([] : List D).length]) ((L24_0 1000000000000 (a0, ([] : List D), a0, ((a0.length : Nat) : Int), 0) ()).bind fun p26 => match p26.1 with | .x0 z27 z28 z29 => (some (z27, z28)) | .x1 z30 => ((n66 z30).bind fun y31 => ((n65 (y31, (⟨#[32]⟩ : ByteArray))).bind fun y32 => (some (y32, 0))))))
def e24 : PureE := mkE d24 n24 (fun (a1, a2) => .many [.val (.string a1), .val (.int .i64 a2)])
def g24 {σ : Type} : Nat → Option (SegE σ)
  | 0 => some (l24_0.seg σ (L24_0 1000000000000))
  | _ => none
theorem E24_0 {σ : Type} (Y : Yd σ) : ∀ n a (s : σ), L24_0 (n + 1) a s = evK (cfgOf Tryd.prog (tabsS13 gl) tS15) (toldOf tS15) Y (inlN (cfgOf Tryd.prog (tabsS13 gl) tS15) (toldOf tS15) Y) g24 24 (loopAt Tryd.f24 0) ((l24_0.toT σ).enc a s) (fun ex st' => l24_0.next (cfgOf Tryd.prog (tabsS13 gl) tS15) 24 0 (L24_0 n) ex st') := by
  intro n ⟨v3, v4, v5, v6, v7⟩ s
  kernel_rfl
theorem Q24_0 {σ : Type} (hl : LibFits2 gl) (Y : Yd σ) (rnd : Bool) : SegOk (cfgOf Tryd.prog (tabsS13 gl) tS15) (evFn (cfgOf Tryd.prog (tabsS13 gl) tS15) 9) 24 rnd Y (l24_0.seg σ (L24_0 1000000000000)) (.block 0 (.loop (loopAt Tryd.f24 0))) :=
  told_loop (okS15 hl) k24_0 (by kernel_rfl) (by kernel_rfl) (fun _ _ => rfl) (segs_no (by kernel_rfl)) (E24_0 Y)
theorem N24 : ∀ a, n24 a = bodyK (cfgOf Tryd.prog (tabsS13 gl) tS15) (toldOf tS15) noY (inlN (cfgOf Tryd.prog (tabsS13 gl) tS15) (toldOf tS15) noY) g24 24 Tryd.f24 (((fun a0 => [.slice a0] : (List D) → List D) a).map .d) [] [] () (fun v _ _ _ => r24 v) := by
  intro a0
  kernel_rfl
noncomputable def t24 : Tab := (24, e24) :: tS15
theorem ok24 (hl : LibFits2 gl) : TabOk Tryd.prog gl t24 :=
  told_fn (okS15 hl) mixed (oddOkS13 hl) Tryd.func24 (by kernel_rfl) (by kernel_rfl) (by kernel_rfl) (fun p hp e he => by
    have hq : segsOf (σ := Unit) (g24 (σ := Unit)) (bodyOf Tryd.f24) = [(0, .loop (loopAt Tryd.f24 0))] := by kernel_rfl
    rw [hq] at hp
    simp only [List.mem_cons, List.not_mem_nil, or_false] at hp
    subst hp
    cases he
    exact Q24_0 hl _ _)
    (args := fun a0 => [.slice a0]) (res := r24)
    (fun ds a h => by
      unfold d24 at h
      split at h
      · cases h; rfl
      · cases h)
    (fun v r h => by
      unfold r24 at h
      split at h
      · rename_i hv; cases h; exact hv
      · cases h)
    N24

noncomputable def tS16 : Tab := (24, e24) :: tS15
theorem okS16 (hl : LibFits2 gl) : TabOk Tryd.prog gl tS16 :=
  TabOk.cons (okS15 hl) ((ok24 hl).fair (24, e24) (List.mem_cons_self (l := tS15))) ((ok24 hl).spec (24, e24) (List.mem_cons_self (l := tS15)))
/-! sextant/sextantlaw09.heads -/
def d21 (ds : List D) : Option (Unit) := match ds with
  | [] => some ()
  | _ => none
def r21 (v : AV) : Option (Bool) := match toPR v with
  | some (.one (.val (.bool a0))) => some a0
  | _ => none
def n21 : Unit → Option (Bool) := fun () => ((n18 (⟨#[120, 39, 32, 60, 61, 32, 49, 48, 32, 47, 47, 32, 121]⟩ : ByteArray)).bind fun y1 => ((n18 (⟨#[97, 32, 48, 48, 55]⟩ : ByteArray)).bind fun y2 => ((n24 ([.agg [.val (.int .i64 1), .val (.int .i64 0), .val (.int .i64 0), .val (.int .i64 0), .val (.string (⟨#[97]⟩ : ByteArray)), .val (.int .i64 0)], .agg [.val (.int .i64 4), .val (.int .i64 0), .val (.int .i64 0), .val (.int .i64 0), .val (.string (⟨#[61, 61]⟩ : ByteArray)), .val (.int .i64 0)], .agg [.val (.int .i64 3), .val (.int .i64 0), .val (.int .i64 0), .val (.int .i64 0), .val (.string (⟨#[98]⟩ : ByteArray)), .val (.int .i64 0)]] : List D)).bind fun y3 => (bif (bif ((y1.2.1 == 0) && (((y1.2.2.1 == 0) && ((y1.2.2.2.1 == 0) && ((y1.2.2.2.2 == 0) && true))) && true)) then (((y1.1.length : Nat) : Int) == 4) else false) then ((lidx y1.1 0).bind fun d4 => ask (d4.cells.length = 6) ((cellAt 4 d4).bind fun x5 => (asStr x5).bind fun x6 => (bif (sEq x6 (⟨#[120, 39]⟩ : ByteArray)) then ((lidx y1.1 1).bind fun d7 => ask (d7.cells.length = 6) ((cellAt 4 d7).bind fun x8 => (asStr x8).bind fun x9 => (bif (sEq x9 (⟨#[60, 61]⟩ : ByteArray)) then ((lidx y1.1 2).bind fun d10 => ask (d10.cells.length = 6) ((cellAt 5 d10).bind fun x11 => (asInt .i64 x11).bind fun x12 => (bif (x12 == 10) then (some (bif (bif ((y2.2.1 == 22) && (((y2.2.2.1 == 2) && ((y2.2.2.2.1 == 1) && ((y2.2.2.2.2 == 3) && true))) && true)) then (sEq y3.1 (⟨#[97, 32, 61, 61, 32, 35, 98]⟩ : ByteArray)) else false) then (y3.2 == 0) else false)) else (some false)))) else (some false)))) else (some false)))) else (some false)))))
def e21 : PureE := mkE d21 n21 (fun a0 => .one (.val (.bool a0)))
def g21 {σ : Type} : Nat → Option (SegE σ)
  | _ => none
theorem N21 : ∀ a, n21 a = bodyK (cfgOf Tryd.prog (tabsS13 gl) tS16) (toldOf tS16) noY (inlN (cfgOf Tryd.prog (tabsS13 gl) tS16) (toldOf tS16) noY) g21 21 Tryd.f21 (((fun () => [] : (Unit) → List D) a).map .d) [] [] () (fun v _ _ _ => r21 v) := by
  intro a
  kernel_rfl
noncomputable def t21 : Tab := (21, e21) :: tS16
theorem ok21 (hl : LibFits2 gl) : TabOk Tryd.prog gl t21 :=
  told_fn (okS16 hl) mixed (oddOkS13 hl) Tryd.func21 (by kernel_rfl) (by kernel_rfl) (by kernel_rfl) (segs_no (by kernel_rfl))
    (args := fun () => []) (res := r21)
    (fun ds a h => by
      unfold d21 at h
      split at h
      · cases h; rfl
      · cases h)
    (fun v r h => by
      unfold r21 at h
      split at h
      · rename_i hv; cases h; exact hv
      · cases h)
    N21

noncomputable def tS17 : Tab := (21, e21) :: tS16
theorem okS17 (hl : LibFits2 gl) : TabOk Tryd.prog gl tS17 :=
  TabOk.cons (okS16 hl) ((ok21 hl).fair (21, e21) (List.mem_cons_self (l := tS16))) ((ok21 hl).spec (21, e21) (List.mem_cons_self (l := tS16)))
/-! sextant/sextantlaw09.TokenScans -/
def d3 (ds : List D) : Option (ByteArray) := match ds with
  | [.val (.string a0)] => some a0
  | _ => none
def r3 (v : AV) : Option (Bool) := match toPR v with
  | some (.one (.val (.bool a1))) => some a1
  | _ => none
def n3 : ByteArray → Option (Bool) := fun a0 => ((n18 a0).bind fun y2 => ((n19 a0).bind fun y3 => ((n20 (y2.1, y3.1)).bind fun y4 => (bif y4 then (bif ((y2.2.1 == y3.2.1) && (((y2.2.2.1 == y3.2.2.1) && ((y2.2.2.2.1 == y3.2.2.2.1) && ((y2.2.2.2.2 == y3.2.2.2.2) && true))) && true)) then ((n21 ()).bind fun y5 => (some y5)) else (some false)) else (some false)))))
def e3 : PureE := mkE d3 n3 (fun a1 => .one (.val (.bool a1)))
def g3 {σ : Type} : Nat → Option (SegE σ)
  | _ => none
theorem N3 : ∀ a, n3 a = bodyK (cfgOf Tryd.prog (tabsS13 gl) tS17) (toldOf tS17) noY (inlN (cfgOf Tryd.prog (tabsS13 gl) tS17) (toldOf tS17) noY) g3 3 Tryd.f3 (((fun a0 => [.val (.string a0)] : (ByteArray) → List D) a).map .d) [] [] () (fun v _ _ _ => r3 v) := by
  intro a0
  kernel_rfl
noncomputable def t3 : Tab := (3, e3) :: tS17
theorem ok3 (hl : LibFits2 gl) : TabOk Tryd.prog gl t3 :=
  told_fn (okS17 hl) mixed (oddOkS13 hl) Tryd.func3 (by kernel_rfl) (by kernel_rfl) (by kernel_rfl) (segs_no (by kernel_rfl))
    (args := fun a0 => [.val (.string a0)]) (res := r3)
    (fun ds a h => by
      unfold d3 at h
      split at h
      · cases h; rfl
      · cases h)
    (fun v r h => by
      unfold r3 at h
      split at h
      · rename_i hv; cases h; exact hv
      · cases h)
    N3

/-! sextant/sextantlaw09.TokenSilent -/
abbrev A6_0 := List D × List D × ByteArray × ByteArray × Int
inductive O6_0 where
  | x0 (o24 : Bool)
  | x1 (o30 : ByteArray) (o31 : ByteArray)
def l6_0 : LoopS A6_0 O6_0 where
  n := 89
  ks := [0, 1, 5, 7, 8]
  kso := [4, 5, 7]
  m := 0
  mt := 0
  decV := fun vs bs ts => match vs, bs, ts with
    | [.d (.slice v5), .d (.slice v6), .d (.val (.string v7)), .d (.val (.string v8)), .d (.val (.int .i64 v9))], [], [] => some (v5, v6, v7, v8, v9)
    | _, _, _ => none
  encV := fun (v5, v6, v7, v8, v9) => [.d (.slice v5), .d (.slice v6), .d (.val (.string v7)), .d (.val (.string v8)), .d (.val (.int .i64 v9))]
  encB := fun (v5, v6, v7, v8, v9) => []
  tk := fun _ => []
  decO := fun ex vs bs ts => match ex, vs, bs, ts with
    | .ret, [.d (.val (.bool o24)), .undef, .undef], [], [] => some (.x0 o24)
    | .normal, [.undef, .d (.val (.string o30)), .d (.val (.string o31))], [], [] => some (.x1 o30 o31)
    | _, _, _, _ => none
  exO := fun x => match x with
    | .x0 o24 => .ret
    | .x1 o30 o31 => .normal
  outV := fun x => match x with
    | .x0 o24 => [.d (.val (.bool o24)), .undef, .undef]
    | .x1 o30 o31 => [.undef, .d (.val (.string o30)), .d (.val (.string o31))]
  outB := fun x => match x with
    | .x0 o24 => []
    | .x1 o30 o31 => []
  tkO := fun x => match x with
    | .x0 o24 => []
    | .x1 o30 o31 => []
  elim := fun x k => match x with
    | .x0 o24 => k .ret [.d (.val (.bool o24)), .undef, .undef] [] []
    | .x1 o30 o31 => k .normal [.undef, .d (.val (.string o30)), .d (.val (.string o31))] [] []
theorem k6_0 : l6_0.Ok where
  ok1 := by kernel_rfl
  ok2 := by kernel_rfl
  dec := by
    intro vs bs ts a h
    simp only [l6_0] at h ⊢
    split at h
    · cases h; exact ⟨rfl, rfl⟩
    · cases h
  out := by
    intro ex vs bs ts o h
    simp only [l6_0] at h ⊢
    split at h
    · cases h; exact ⟨rfl, rfl, rfl⟩
    · cases h; exact ⟨rfl, rfl, rfl⟩
    · cases h
  len := fun _ => ⟨rfl, rfl⟩
  elim := fun β o k => by cases o <;> rfl
def L6_0 {σ : Type} : Nat → A6_0 → σ → Option (O6_0 × σ)
  | 0, _, _ => none
  | n+1, (v5, v6, v7, v8, v9), s => (bif (decide (v9 < ((v5.length : Nat) : Int))) then ((lidx v5 v9).bind fun d10 => ask (d10.cells.length = 6) ((cellAt 0 d10).bind fun x11 => (asInt .i64 x11).bind fun x12 => ((cellAt 1 d10).bind fun x13 => (asInt .i64 x13).bind fun x14 => ((cellAt 2 d10).bind fun x15 => (asInt .i64 x15).bind fun x16 => ((cellAt 3 d10).bind fun x17 => (asInt .i64 x17).bind fun x18 => ((cellAt 4 d10).bind fun x19 => (asStr x19).bind fun x20 => ((cellAt 5 d10).bind fun x21 => (asInt .i64 x21).bind fun x22 => ((n22 (x12, x14, x16, x18, x20, x22)).bind fun y23 => (bif (y23.2 != 0) then (some (O6_0.x0 false, s)) else (bif (decide (v9 < ((v6.length : Nat) : Int))) then ((lidx v6 v9).bind fun d25 => ask (d25.cells.length = 1) ((cellAt 0 d25).bind fun x26 => (asInt .i64 x26).bind fun x27 => (ask (catOk v8 y23.1) ((n27 x27).bind fun y28 => (ask (catOk (v8 ++ y23.1) y28) (L6_0 n (v5, v6, v7, ((v8 ++ y23.1) ++ y28), (w64 (v9 + 1))) s)))))) else (ask (catOk v8 y23.1) ((n27 0).bind fun y29 => (ask (catOk (v8 ++ y23.1) y29) (L6_0 n (v5, v6, v7, ((v8 ++ y23.1) ++ y29), (w64 (v9 + 1))) s)))))))))))))) else (some (O6_0.x1 v7 v8, s)))
def d6 (ds : List D) : Option (List D × List D) := match ds with
  | [.slice a0, .slice a1] => some (a0, a1)
  | _ => none
def r6 (v : AV) : Option (Bool) := match toPR v with
  | some (.one (.val (.bool a2))) => some a2
  | _ => none
def n6 : List D × List D → Option (Bool) := fun (a0, a1) => ((n24 a0).bind fun y3 => (bif (bif (y3.2 != 0) then true else (((a0.length : Nat) : Int) == 0)) then ((n21 ()).bind fun y4 => (some y4)) else ((L6_0 1000000000000 (a0, a1, y3.1, (⟨#[]⟩ : ByteArray), 0) ()).bind fun p32 => match p32.1 with | .x0 z33 => (some z33) | .x1 z34 z35 => ((n18 z34).bind fun y36 => ((n18 z35).bind fun y37 => ((n26 y36.1).bind fun y38 => ((n26 y37.1).bind fun y39 => ((n20 (y38, y39)).bind fun y40 => (bif ((y36.2.1 == 0) && (((y36.2.2.1 == 0) && ((y36.2.2.2.1 == 0) && ((y36.2.2.2.2 == 0) && true))) && true)) then (bif (bif ((y37.2.1 == 0) && (((y37.2.2.1 == 0) && ((y37.2.2.2.1 == 0) && ((y37.2.2.2.2 == 0) && true))) && true)) then y40 else false) then ((n21 ()).bind fun y41 => (some y41)) else (some false)) else (some false))))))))))
def e6 : PureE := mkE d6 n6 (fun a2 => .one (.val (.bool a2)))
def g6 {σ : Type} : Nat → Option (SegE σ)
  | 0 => some (l6_0.seg σ (L6_0 1000000000000))
  | _ => none
theorem E6_0 {σ : Type} (Y : Yd σ) : ∀ n a (s : σ), L6_0 (n + 1) a s = evK (cfgOf Tryd.prog (tabsS13 gl) tS17) (toldOf tS17) Y (inlN (cfgOf Tryd.prog (tabsS13 gl) tS17) (toldOf tS17) Y) g6 6 (loopAt Tryd.f6 0) ((l6_0.toT σ).enc a s) (fun ex st' => l6_0.next (cfgOf Tryd.prog (tabsS13 gl) tS17) 6 0 (L6_0 n) ex st') := by
  intro n ⟨v5, v6, v7, v8, v9⟩ s
  kernel_rfl
theorem Q6_0 {σ : Type} (hl : LibFits2 gl) (Y : Yd σ) (rnd : Bool) : SegOk (cfgOf Tryd.prog (tabsS13 gl) tS17) (evFn (cfgOf Tryd.prog (tabsS13 gl) tS17) 9) 6 rnd Y (l6_0.seg σ (L6_0 1000000000000)) (.block 0 (.loop (loopAt Tryd.f6 0))) :=
  told_loop (okS17 hl) k6_0 (by kernel_rfl) (by kernel_rfl) (fun _ _ => rfl) (segs_no (by kernel_rfl)) (E6_0 Y)
theorem N6 : ∀ a, n6 a = bodyK (cfgOf Tryd.prog (tabsS13 gl) tS17) (toldOf tS17) noY (inlN (cfgOf Tryd.prog (tabsS13 gl) tS17) (toldOf tS17) noY) g6 6 Tryd.f6 (((fun (a0, a1) => [.slice a0, .slice a1] : (List D × List D) → List D) a).map .d) [] [] () (fun v _ _ _ => r6 v) := by
  intro a
  obtain ⟨a0, a1⟩ := a
  kernel_rfl
noncomputable def t6 : Tab := (6, e6) :: tS17
theorem ok6 (hl : LibFits2 gl) : TabOk Tryd.prog gl t6 :=
  told_fn (okS17 hl) mixed (oddOkS13 hl) Tryd.func6 (by kernel_rfl) (by kernel_rfl) (by kernel_rfl) (fun p hp e he => by
    have hq : segsOf (σ := Unit) (g6 (σ := Unit)) (bodyOf Tryd.f6) = [(0, .loop (loopAt Tryd.f6 0))] := by kernel_rfl
    rw [hq] at hp
    simp only [List.mem_cons, List.not_mem_nil, or_false] at hp
    subst hp
    cases he
    exact Q6_0 hl _ _)
    (args := fun (a0, a1) => [.slice a0, .slice a1]) (res := r6)
    (fun ds a h => by
      unfold d6 at h
      split at h
      · cases h; rfl
      · cases h)
    (fun v r h => by
      unfold r6 at h
      split at h
      · rename_i hv; cases h; exact hv
      · cases h)
    N6

noncomputable def tS18 : Tab := (3, e3) :: (6, e6) :: tS17
theorem okS18 (hl : LibFits2 gl) : TabOk Tryd.prog gl tS18 :=
  TabOk.cons (TabOk.cons (okS17 hl) ((ok6 hl).fair (6, e6) (List.mem_cons_self (l := tS17))) ((ok6 hl).spec (6, e6) (List.mem_cons_self (l := tS17)))) ((ok3 hl).fair (3, e3) (List.mem_cons_self (l := tS17))) ((ok3 hl).spec (3, e3) (List.mem_cons_self (l := tS17)))
end
end Ev
