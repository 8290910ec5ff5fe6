/- Models of the functions that the statements reach, part 2. -/
import Derived.Test.YtadinocaadlgmaaS
namespace Go.Proofs.Ytadinocaadlgmaa
open Go Go.Eng
set_option linter.unusedVariables false
set_option linter.unusedSimpArgs false

/-! 43: consol/consollaw41.option -/
theorem ca43 : callable Try.prog 43 := ⟨Try.f43, Try.func43, by kernel_rfl, by kernel_rfl⟩
noncomputable def E43 : Env := mkEnv2 Try.prog [] []
theorem ok43 : EnvOk (E43) := mkEnv2_ok (by simp) (by simp)
noncomputable def C43 : Cfg := noCfg
theorem lm43 : ∀ c, Try.f43.body = some c → LmOk (E43) (C43) Try.f43.ntmps c := fun _ _ => noCfg_lm
noncomputable def m43 (a0 : Int) : Option (T37) :=
  some ([a0], (-1), 0, ())
noncomputable def e43 : PmE := entry 43 [(.int .i64)] false G37 (fun x => m43 x.1)
theorem q43 (x : tyL [(.int .i64)]) : execF E43 C43 Try.f43 (datL [(.int .i64)] x) [] (retK false G37) = m43 x.1 := by kernel_rfl
theorem p43 : PmOk Try.prog e43 := pm_ok (E := E43) ok43 ord lm43 Try.func43 ca43 q43

noncomputable def cK43 : CmE := konE 43 [(.int .i64)] false G37 (fun x => m43 x.1)
theorem dK43 : CmOk Try.prog cK43 := kon_ok p43

/-! 11: consol/margin.Stays -/
theorem ca11 : callable Try.prog 11 := ⟨Try.f11, Try.func11, by kernel_rfl, by kernel_rfl⟩
noncomputable def E11 : Env := mkEnv2 Try.prog [e15, e17] []
theorem ok11 : EnvOk (E11) := mkEnv2_ok (by simp only [List.mem_cons, List.not_mem_nil, or_false, forall_eq_or_imp, forall_eq]; exact ⟨p15, p17⟩) (by simp)
noncomputable def C11 : Cfg := noCfg
theorem lm11 : ∀ c, Try.f11.body = some c → LmOk (E11) (C11) Try.f11.ntmps c := fun _ _ => noCfg_lm
noncomputable def m11 (a0 : T24) (a1 : (List Int)) : Option (Bool) :=
  (m15 a0).bind fun r1 =>
  (m17 a0 a1).bind fun r2 =>
  some (((r1.2.2.2.1 == 0) && r2.2.1) && (r2.1 == r1.2.1))
noncomputable def e11 : PmE := entry 11 [G24, (.sl (.int .i64))] false .bool (fun x => m11 x.1 x.2.1)
theorem q11 (x : tyL [G24, (.sl (.int .i64))]) : execF E11 C11 Try.f11 (datL [G24, (.sl (.int .i64))] x) [] (retK false .bool) = m11 x.1 x.2.1 := by kernel_rfl
theorem p11 : PmOk Try.prog e11 := pm_ok (E := E11) ok11 ord lm11 Try.func11 ca11 q11

/-! 19: consol/consollaw41.is -/
theorem ca19 : callable Try.prog 19 := ⟨Try.f19, Try.func19, by kernel_rfl, by kernel_rfl⟩
noncomputable def E19 : Env := mkEnv2 Try.prog [e9, e11, e43] []
theorem ok19 : EnvOk (E19) := mkEnv2_ok (by simp only [List.mem_cons, List.not_mem_nil, or_false, forall_eq_or_imp, forall_eq]; exact ⟨p9, p11, p43⟩) (by simp)
noncomputable def C19 : Cfg := noCfg
theorem lm19 : ∀ c, Try.f19.body = some c → LmOk (E19) (C19) Try.f19.ntmps c := fun _ _ => noCfg_lm
noncomputable def m19 (a0 : Int) (a1 : Int) (a2 : Int) (a3 : Int) : Option (Bool) :=
  (m43 10).bind fun r1 =>
  (m43 14).bind fun r2 =>
  (m43 5).bind fun r3 =>
  (m43 7).bind fun r4 =>
  (m9 ([[r1, r2], [r3, r4]], [], ()) a0 a1 0).bind fun r5 =>
  bif ((((r5.1 == a2) && (r5.2.1 == a3)) && (r5.2.2.1 == 0)) == true) then
    (bif ((((r5.1 == a2) && (r5.2.1 == a3)) && (r5.2.2.1 == 0)) == true) then (m11 ([[r1, r2], [r3, r4]], [], ()) [0, 0]) else some false).bind fun r6 =>
    bif (((((r5.1 == a2) && (r5.2.1 == a3)) && (r5.2.2.1 == 0)) && r6) == true) then
      (bif (((((r5.1 == a2) && (r5.2.1 == a3)) && (r5.2.2.1 == 0)) && r6) == true) then (m11 ([[r1, r2], [r3, r4]], [], ()) [0, 1]) else some false).bind fun r7 =>
      some (((((r5.1 == a2) && (r5.2.1 == a3)) && (r5.2.2.1 == 0)) && r6) && (!r7))
    else
      (bif (((((r5.1 == a2) && (r5.2.1 == a3)) && (r5.2.2.1 == 0)) && r6) == true) then (m11 ([[r1, r2], [r3, r4]], [], ()) []) else some false).bind fun r8 =>
      some (((((r5.1 == a2) && (r5.2.1 == a3)) && (r5.2.2.1 == 0)) && r6) && (!r8))
  else
    (bif ((((r5.1 == a2) && (r5.2.1 == a3)) && (r5.2.2.1 == 0)) == true) then (m11 ([[r1, r2], [r3, r4]], [], ()) []) else some false).bind fun r9 =>
    bif (((((r5.1 == a2) && (r5.2.1 == a3)) && (r5.2.2.1 == 0)) && r9) == true) then
      (bif (((((r5.1 == a2) && (r5.2.1 == a3)) && (r5.2.2.1 == 0)) && r9) == true) then (m11 ([[r1, r2], [r3, r4]], [], ()) [0, 1]) else some false).bind fun r10 =>
      some (((((r5.1 == a2) && (r5.2.1 == a3)) && (r5.2.2.1 == 0)) && r9) && (!r10))
    else
      (bif (((((r5.1 == a2) && (r5.2.1 == a3)) && (r5.2.2.1 == 0)) && r9) == true) then (m11 ([[r1, r2], [r3, r4]], [], ()) []) else some false).bind fun r11 =>
      some (((((r5.1 == a2) && (r5.2.1 == a3)) && (r5.2.2.1 == 0)) && r9) && (!r11))
noncomputable def e19 : PmE := entry 19 [(.int .i64), (.int .i64), (.int .i64), (.int .i64)] false .bool (fun x => m19 x.1 x.2.1 x.2.2.1 x.2.2.2.1)
theorem q19 (x : tyL [(.int .i64), (.int .i64), (.int .i64), (.int .i64)]) : execF E19 C19 Try.f19 (datL [(.int .i64), (.int .i64), (.int .i64), (.int .i64)] x) [] (retK false .bool) = m19 x.1 x.2.1 x.2.2.1 x.2.2.2.1 := by kernel_rfl
theorem p19 : PmOk Try.prog e19 := pm_ok (E := E19) ok19 ord lm19 Try.func19 ca19 q19

/-! 7: consol/consollaw41.small -/
theorem ca7 : callable Try.prog 7 := ⟨Try.f7, Try.func7, by kernel_rfl, by kernel_rfl⟩
noncomputable def E7 : Env := mkEnv2 Try.prog [e9, e19] []
theorem ok7 : EnvOk (E7) := mkEnv2_ok (by simp only [List.mem_cons, List.not_mem_nil, or_false, forall_eq_or_imp, forall_eq]; exact ⟨p9, p19⟩) (by simp)
noncomputable def C7 : Cfg := noCfg
theorem lm7 : ∀ c, Try.f7.body = some c → LmOk (E7) (C7) Try.f7.ntmps c := fun _ _ => noCfg_lm
noncomputable def m7  : Option (Bool) :=
  (m9 ([], [], ()) 0 0 0).bind fun r1 =>
  (m19 0 0 0 14).bind fun r2 =>
  (bif (r2 == true) then (m19 0 1 10 1000000000000000) else some false).bind fun r3 =>
  (bif ((r2 && r3) == true) then (m19 1 0 0 7) else some false).bind fun r4 =>
  some (((r2 && r3) && r4) && (r1.2.2.1 == 1))
noncomputable def e7 : PmE := entry 7 [] false .bool (fun x => m7 )
theorem q7 (x : tyL []) : execF E7 C7 Try.f7 (datL [] x) [] (retK false .bool) = m7  := by kernel_rfl
theorem p7 : PmOk Try.prog e7 := pm_ok (E := E7) ok7 ord lm7 Try.func7 ca7 q7

/-! 8: consol/consolref41.Few -/
theorem ca8 : callable Try.prog 8 := ⟨Try.f8, Try.func8, by kernel_rfl, by kernel_rfl⟩
noncomputable def E8 : Env := mkEnv2 Try.prog [] []
theorem ok8 : EnvOk (E8) := mkEnv2_ok (by simp) (by simp)
/-- a round of a loop of consol/consolref41.Few -/
noncomputable def s8_1 {R : Type} (t3 : Int) (o0 : T24) (kn : Int → Option R) (k1 : Option R) (k2 : Option R) (t4 : Int) : Option R :=
  (idx o0.1 t3).bind fun x2 =>
  bif (decide (t4 < (List.length x2 : Int))) then
    (idx o0.1 t3).bind fun x3 =>
    (idx x3 t4).bind fun x4 =>
    bif (decide ((List.length x4.1 : Int) > 4)) then
      k2
    else
      kn (IntKind.i64.wrap (t4 + 1))
  else
    k1
noncomputable def l8_1 {R : Type} (t3 : Int) (o0 : T24) (k1 : Option R) (k2 : Option R) : Nat → Int → Option R
  | 0, _ => none
  | n + 1, t4 => s8_1 t3 o0 (l8_1 t3 o0 k1 k2 n) k1 k2 t4
noncomputable def L8_1 : LE := ⟨8, 0, ⟨[(1, (.box 0 [] 0)), (3, (.dat (.int .i64))), (4, (.dat (.int .i64)))], [(.box (.dat G24))]⟩, fun R n x k => l8_1 x.1.2.1 x.2.1 (k (.exit 2) ⟨[(1, (.box 0 [] 0)), (3, (.dat (.int .i64) x.1.2.1))], [(.box (.dat G24 x.2.1))]⟩) (k .ret ⟨[(2, (.dat .bool false))], []⟩) n x.1.2.2.1⟩
/-- a round of a loop of consol/consolref41.Few -/
noncomputable def s8_2 {R : Type} (o0 : T24) (kn : Int → Option R) (k1 : Option R) (k2 : Option R) (t3 : Int) : Option R :=
  bif ((decide (t3 < (List.length o0.1 : Int))) && (decide (t3 ≤ 4))) then
    (idx o0.1 t3).bind fun x1 =>
    bif (decide ((List.length x1 : Int) > 3)) then
      k2
    else
      l8_1 t3 o0 (
          kn (IntKind.i64.wrap (t3 + 1))) (
          k2) FUEL 0
  else
    k1
noncomputable def l8_2 {R : Type} (o0 : T24) (k1 : Option R) (k2 : Option R) : Nat → Int → Option R
  | 0, _ => none
  | n + 1, t3 => s8_2 o0 (l8_2 o0 k1 k2 n) k1 k2 t3
noncomputable def L8_2 : LE := ⟨3, 0, ⟨[(1, (.box 0 [] 0)), (3, (.dat (.int .i64)))], [(.box (.dat G24))]⟩, fun R n x k => l8_2 x.2.1 (k (.exit 0) ⟨[(1, (.box 0 [] 0))], [(.box (.dat G24 x.2.1))]⟩) (k .ret ⟨[(2, (.dat .bool false))], []⟩) n x.1.2.1⟩
noncomputable def C8 : Cfg := mkCfg [(3, ⟨[1, 3], [], []⟩), (8, ⟨[1, 3, 4], [], []⟩)] [(3, (⟨[1], [], []⟩, ⟨[2], [], []⟩)), (8, (⟨[1, 3], [], []⟩, ⟨[2], [], []⟩))] (([(1, L8_1), (0, L8_2)] : List (Nat × LE)).map (·.2))
theorem ek8_1 : EOk (E8) (C8) Try.f8.ntmps (bodyL Try.f8 1) (L8_1) := eok_of (e := L8_1) (fun R x Kn k => s8_1 x.1.2.1 x.2.1 (fun v0 => Kn (((), x.1.2.1, v0, ()), (x.2.1, ()))) (k (.exit 2) ⟨[(1, (.box 0 [] 0)), (3, (.dat (.int .i64) x.1.2.1))], [(.box (.dat G24 x.2.1))]⟩) (k .ret ⟨[(2, (.dat .bool false))], []⟩) x.1.2.2.1) (fun _ _ _ => rfl) (fun _ _ _ _ => rfl) (fun R x Kn k => by kernel_rfl)
theorem ek8_2 : EOk (E8) (C8) Try.f8.ntmps (bodyL Try.f8 0) (L8_2) := eok_of (e := L8_2) (fun R x Kn k => s8_2 x.2.1 (fun v0 => Kn (((), v0, ()), (x.2.1, ()))) (k (.exit 0) ⟨[(1, (.box 0 [] 0))], [(.box (.dat G24 x.2.1))]⟩) (k .ret ⟨[(2, (.dat .bool false))], []⟩) x.1.2.1) (fun _ _ _ => rfl) (fun _ _ _ _ => rfl) (fun R x Kn k => by kernel_rfl)
theorem lm8 : ∀ c, Try.f8.body = some c → LmOk (E8) (C8) Try.f8.ntmps c := lmOk_of (ps := [(1, L8_1), (0, L8_2)]) (by kernel_rfl) (by kernel_rfl) ⟨ek8_1, ek8_2, trivial⟩
noncomputable def m8 (a0 : T24) : Option (Bool) :=
  l8_2 a0 (
      some ((decide ((List.length a0.1 : Int) ≤ 4)) && (decide ((List.length a0.2.1 : Int) ≤ 6)))) (
      some false) FUEL 0
noncomputable def e8 : PmE := entry 8 [G24] false .bool (fun x => m8 x.1)
theorem q8 (x : tyL [G24]) : execF E8 C8 Try.f8 (datL [G24] x) [] (retK false .bool) = m8 x.1 := by kernel_rfl
theorem p8 : PmOk Try.prog e8 := pm_ok (E := E8) ok8 ord lm8 Try.func8 ca8 q8

/-! 45: consol/consolref40.scenarios -/
theorem ca45 : callable Try.prog 45 := ⟨Try.f45, Try.func45, by kernel_rfl, by kernel_rfl⟩
noncomputable def E45 : Env := mkEnv2 Try.prog [] []
theorem ok45 : EnvOk (E45) := mkEnv2_ok (by simp) (by simp)
noncomputable def C45 : Cfg := noCfg
theorem lm45 : ∀ c, Try.f45.body = some c → LmOk (E45) (C45) Try.f45.ntmps c := fun _ _ => noCfg_lm
noncomputable def m45 (a0 : T24) : Option (Int) :=
  (idxG (((List.length a0.1 : Int) == 0) == false) ([] : (List T37)) a0.1 0).bind fun x1 =>
  bif (((List.length a0.1 : Int) == 0) || ((List.length x1 : Int) == 0)) then
    some 0
  else
    (idx a0.1 0).bind fun x2 =>
    (idx x2 0).bind fun x3 =>
    some (List.length x3.1 : Int)
noncomputable def e45 : PmE := entry 45 [G24] false (.int .i64) (fun x => m45 x.1)
theorem q45 (x : tyL [G24]) : execF E45 C45 Try.f45 (datL [G24] x) [] (retK false (.int .i64)) = m45 x.1 := by kernel_rfl
theorem p45 : PmOk Try.prog e45 := pm_ok (E := E45) ok45 ord lm45 Try.func45 ca45 q45

/-! 46: consol/consolref40.in -/
theorem ca46 : callable Try.prog 46 := ⟨Try.f46, Try.func46, by kernel_rfl, by kernel_rfl⟩
noncomputable def E46 : Env := mkEnv2 Try.prog [] []
theorem ok46 : EnvOk (E46) := mkEnv2_ok (by simp) (by simp)
noncomputable def C46 : Cfg := noCfg
theorem lm46 : ∀ c, Try.f46.body = some c → LmOk (E46) (C46) Try.f46.ntmps c := fun _ _ => noCfg_lm
noncomputable def m46 (a0 : Int) (a1 : Int) (a2 : Int) : Option (Bool) :=
  some ((decide (a0 ≥ a1)) && (decide (a0 ≤ a2)))
noncomputable def e46 : PmE := entry 46 [(.int .i64), (.int .i64), (.int .i64)] false .bool (fun x => m46 x.1 x.2.1 x.2.2.1)
theorem q46 (x : tyL [(.int .i64), (.int .i64), (.int .i64)]) : execF E46 C46 Try.f46 (datL [(.int .i64), (.int .i64), (.int .i64)] x) [] (retK false .bool) = m46 x.1 x.2.1 x.2.2.1 := by kernel_rfl
theorem p46 : PmOk Try.prog e46 := pm_ok (E := E46) ok46 ord lm46 Try.func46 ca46 q46

/-! 47: consol/consolref40.option -/
theorem ca47 : callable Try.prog 47 := ⟨Try.f47, Try.func47, by kernel_rfl, by kernel_rfl⟩
noncomputable def E47 : Env := mkEnv2 Try.prog [e46] []
theorem ok47 : EnvOk (E47) := mkEnv2_ok (by simp only [List.mem_cons, List.not_mem_nil, or_false, forall_eq]; exact p46) (by simp)
/-- a round of a loop of consol/consolref40.option -/
noncomputable def s47_1 {R : Type} (t1 : Int) (o0 : T37) (kn : Int → Option R) (k1 : Option R) (k2 : Option R) (t7 : Int) : Option R :=
  bif (decide (t7 < t1)) then
    (idx o0.1 t7).bind fun x3 =>
    (m46 x3 0 1000000000000000).bind fun r4 =>
    bif (!r4) then
      k2
    else
      kn (IntKind.i64.wrap (t7 + 1))
  else
    k1
noncomputable def l47_1 {R : Type} (t1 : Int) (o0 : T37) (k1 : Option R) (k2 : Option R) : Nat → Int → Option R
  | 0, _ => none
  | n + 1, t7 => s47_1 t1 o0 (l47_1 t1 o0 k1 k2 n) k1 k2 t7
noncomputable def L47_1 : LE := ⟨5, 0, ⟨[(1, (.dat (.int .i64))), (3, (.box 0 [] 0)), (7, (.dat (.int .i64)))], [(.box (.dat G37))]⟩, fun R n x k => l47_1 x.1.1 x.2.1 (k (.exit 0) ⟨[], []⟩) (k .ret ⟨[(6, (.dat .bool false))], []⟩) n x.1.2.2.1⟩
noncomputable def C47 : Cfg := mkCfg [(5, ⟨[1, 3, 7], [], []⟩)] [(5, (⟨[], [], []⟩, ⟨[6], [], []⟩))] (([(0, L47_1)] : List (Nat × LE)).map (·.2))
theorem ek47_1 : EOk (E47) (C47) Try.f47.ntmps (bodyL Try.f47 0) (L47_1) := eok_of (e := L47_1) (fun R x Kn k => s47_1 x.1.1 x.2.1 (fun v0 => Kn ((x.1.1, (), v0, ()), (x.2.1, ()))) (k (.exit 0) ⟨[], []⟩) (k .ret ⟨[(6, (.dat .bool false))], []⟩) x.1.2.2.1) (fun _ _ _ => rfl) (fun _ _ _ _ => rfl) (fun R x Kn k => by kernel_rfl)
theorem lm47 : ∀ c, Try.f47.body = some c → LmOk (E47) (C47) Try.f47.ntmps c := lmOk_of (ps := [(0, L47_1)]) (by kernel_rfl) (by kernel_rfl) ⟨ek47_1, trivial⟩
noncomputable def m47 (a0 : T37) (a1 : Int) (a2 : Int) : Option (Bool) :=
  (bif (((List.length a0.1 : Int) != a1) == false) then (m46 a0.2.1 (-1) (IntKind.i64.wrap (a2 - 1))) else some false).bind fun r1 =>
  (bif ((((List.length a0.1 : Int) != a1) || (!r1)) == false) then (m46 a0.2.2.1 0 1000000000000000) else some false).bind fun r2 =>
  bif ((((List.length a0.1 : Int) != a1) || (!r1)) || (!r2)) then
    some false
  else
    l47_1 a1 a0 (
        some true) (
        some false) FUEL 0
noncomputable def e47 : PmE := entry 47 [G37, (.int .i64), (.int .i64)] false .bool (fun x => m47 x.1 x.2.1 x.2.2.1)
theorem q47 (x : tyL [G37, (.int .i64), (.int .i64)]) : execF E47 C47 Try.f47 (datL [G37, (.int .i64), (.int .i64)] x) [] (retK false .bool) = m47 x.1 x.2.1 x.2.2.1 := by kernel_rfl
theorem p47 : PmOk Try.prog e47 := pm_ok (E := E47) ok47 ord lm47 Try.func47 ca47 q47

/-! 25: consol/consolref40.Right -/
theorem ca25 : callable Try.prog 25 := ⟨Try.f25, Try.func25, by kernel_rfl, by kernel_rfl⟩
noncomputable def E25 : Env := mkEnv2 Try.prog [e45, e46, e47] []
theorem ok25 : EnvOk (E25) := mkEnv2_ok (by simp only [List.mem_cons, List.not_mem_nil, or_false, forall_eq_or_imp, forall_eq]; exact ⟨p45, p46, p47⟩) (by simp)
/-- a round of a loop of consol/consolref40.Right -/
noncomputable def s25_1 {R : Type} (o0 : T24) (kn : Int → Option R) (k1 : Option R) (k2 : Option R) (t4 : Int) : Option R :=
  bif (decide (t4 < (List.length o0.2.1 : Int))) then
    (idx o0.2.1 t4).bind fun x4 =>
    (m46 x4 0 1000000000000000).bind fun r5 =>
    bif (!r5) then
      k2
    else
      kn (IntKind.i64.wrap (t4 + 1))
  else
    k1
noncomputable def l25_1 {R : Type} (o0 : T24) (k1 : Option R) (k2 : Option R) : Nat → Int → Option R
  | 0, _ => none
  | n + 1, t4 => s25_1 o0 (l25_1 o0 k1 k2 n) k1 k2 t4
noncomputable def L25_1 : LE := ⟨6, 0, ⟨[(1, (.box 0 [] 0)), (3, (.dat (.int .i64))), (4, (.dat (.int .i64)))], [(.box (.dat G24))]⟩, fun R n x k => l25_1 x.2.1 (k (.exit 0) ⟨[(1, (.box 0 [] 0)), (3, (.dat (.int .i64) x.1.2.1))], [(.box (.dat G24 x.2.1))]⟩) (k .ret ⟨[(2, (.dat .bool false))], []⟩) n x.1.2.2.1⟩
/-- a round of a loop of consol/consolref40.Right -/
noncomputable def s25_2 {R : Type} (t3 : Int) (t5 : Int) (o0 : T24) (kn : Int → Option R) (k1 : Option R) (k2 : Option R) (t6 : Int) : Option R :=
  (idx o0.1 t5).bind fun x8 =>
  bif (decide (t6 < (List.length x8 : Int))) then
    (idx o0.1 t5).bind fun x9 =>
    (idx x9 t6).bind fun x10 =>
    (m47 x10 t3 (List.length o0.2.1 : Int)).bind fun r11 =>
    bif (!r11) then
      k2
    else
      kn (IntKind.i64.wrap (t6 + 1))
  else
    k1
noncomputable def l25_2 {R : Type} (t3 : Int) (t5 : Int) (o0 : T24) (k1 : Option R) (k2 : Option R) : Nat → Int → Option R
  | 0, _ => none
  | n + 1, t6 => s25_2 t3 t5 o0 (l25_2 t3 t5 o0 k1 k2 n) k1 k2 t6
noncomputable def L25_2 : LE := ⟨16, 0, ⟨[(1, (.box 0 [] 0)), (3, (.dat (.int .i64))), (5, (.dat (.int .i64))), (6, (.dat (.int .i64)))], [(.box (.dat G24))]⟩, fun R n x k => l25_2 x.1.2.1 x.1.2.2.1 x.2.1 (k (.exit 4) ⟨[(1, (.box 0 [] 0)), (3, (.dat (.int .i64) x.1.2.1)), (5, (.dat (.int .i64) x.1.2.2.1))], [(.box (.dat G24 x.2.1))]⟩) (k .ret ⟨[(2, (.dat .bool false))], []⟩) n x.1.2.2.2.1⟩
/-- a round of a loop of consol/consolref40.Right -/
noncomputable def s25_3 {R : Type} (t3 : Int) (o0 : T24) (kn : Int → Option R) (k1 : Option R) (k2 : Option R) (t5 : Int) : Option R :=
  bif (decide (t5 < (List.length o0.1 : Int))) then
    (idx o0.1 t5).bind fun x6 =>
    (m46 (List.length x6 : Int) 1 6).bind fun r7 =>
    bif (!r7) then
      k2
    else
      l25_2 t3 t5 o0 (
          kn (IntKind.i64.wrap (t5 + 1))) (
          k2) FUEL 0
  else
    k1
noncomputable def l25_3 {R : Type} (t3 : Int) (o0 : T24) (k1 : Option R) (k2 : Option R) : Nat → Int → Option R
  | 0, _ => none
  | n + 1, t5 => s25_3 t3 o0 (l25_3 t3 o0 k1 k2 n) k1 k2 t5
noncomputable def L25_3 : LE := ⟨11, 0, ⟨[(1, (.box 0 [] 0)), (3, (.dat (.int .i64))), (5, (.dat (.int .i64)))], [(.box (.dat G24))]⟩, fun R n x k => l25_3 x.1.2.1 x.2.1 (k (.exit 2) ⟨[], []⟩) (k .ret ⟨[(2, (.dat .bool false))], []⟩) n x.1.2.2.1⟩
noncomputable def C25 : Cfg := mkCfg [(6, ⟨[1, 3, 4], [], []⟩), (11, ⟨[1, 3, 5], [], []⟩), (16, ⟨[1, 3, 5, 6], [], []⟩)] [(6, (⟨[1, 3], [], []⟩, ⟨[2], [], []⟩)), (11, (⟨[], [], []⟩, ⟨[2], [], []⟩)), (16, (⟨[1, 3, 5], [], []⟩, ⟨[2], [], []⟩))] (([(0, L25_1), (2, L25_2), (1, L25_3)] : List (Nat × LE)).map (·.2))
theorem ek25_1 : EOk (E25) (C25) Try.f25.ntmps (bodyL Try.f25 0) (L25_1) := eok_of (e := L25_1) (fun R x Kn k => s25_1 x.2.1 (fun v0 => Kn (((), x.1.2.1, v0, ()), (x.2.1, ()))) (k (.exit 0) ⟨[(1, (.box 0 [] 0)), (3, (.dat (.int .i64) x.1.2.1))], [(.box (.dat G24 x.2.1))]⟩) (k .ret ⟨[(2, (.dat .bool false))], []⟩) x.1.2.2.1) (fun _ _ _ => rfl) (fun _ _ _ _ => rfl) (fun R x Kn k => by kernel_rfl)
theorem ek25_2 : EOk (E25) (C25) Try.f25.ntmps (bodyL Try.f25 2) (L25_2) := eok_of (e := L25_2) (fun R x Kn k => s25_2 x.1.2.1 x.1.2.2.1 x.2.1 (fun v0 => Kn (((), x.1.2.1, x.1.2.2.1, v0, ()), (x.2.1, ()))) (k (.exit 4) ⟨[(1, (.box 0 [] 0)), (3, (.dat (.int .i64) x.1.2.1)), (5, (.dat (.int .i64) x.1.2.2.1))], [(.box (.dat G24 x.2.1))]⟩) (k .ret ⟨[(2, (.dat .bool false))], []⟩) x.1.2.2.2.1) (fun _ _ _ => rfl) (fun _ _ _ _ => rfl) (fun R x Kn k => by kernel_rfl)
theorem ek25_3 : EOk (E25) (C25) Try.f25.ntmps (bodyL Try.f25 1) (L25_3) := eok_of (e := L25_3) (fun R x Kn k => s25_3 x.1.2.1 x.2.1 (fun v0 => Kn (((), x.1.2.1, v0, ()), (x.2.1, ()))) (k (.exit 2) ⟨[], []⟩) (k .ret ⟨[(2, (.dat .bool false))], []⟩) x.1.2.2.1) (fun _ _ _ => rfl) (fun _ _ _ _ => rfl) (fun R x Kn k => by kernel_rfl)
theorem lm25 : ∀ c, Try.f25.body = some c → LmOk (E25) (C25) Try.f25.ntmps c := lmOk_of (ps := [(0, L25_1), (2, L25_2), (1, L25_3)]) (by kernel_rfl) (by kernel_rfl) ⟨ek25_1, ek25_2, ek25_3, trivial⟩
noncomputable def m25 (a0 : T24) : Option (Bool) :=
  (m45 a0).bind fun r1 =>
  (m46 (List.length a0.1 : Int) 1 40).bind fun r2 =>
  (bif ((!r2) == false) then (m46 r1 1 10) else some false).bind fun r3 =>
  bif (((!r2) || (!r3)) || (decide ((List.length a0.2.1 : Int) > 60))) then
    some false
  else
    l25_1 a0 (
        l25_3 r1 a0 (
            some true) (
            some false) FUEL 0) (
        some false) FUEL 0
noncomputable def e25 : PmE := entry 25 [G24] false .bool (fun x => m25 x.1)
theorem q25 (x : tyL [G24]) : execF E25 C25 Try.f25 (datL [G24] x) [] (retK false .bool) = m25 x.1 := by kernel_rfl
theorem p25 : PmOk Try.prog e25 := pm_ok (E := E25) ok25 ord lm25 Try.func25 ca25 q25

/-! 14: consol/consolref41.There -/
theorem ca14 : callable Try.prog 14 := ⟨Try.f14, Try.func14, by kernel_rfl, by kernel_rfl⟩
noncomputable def E14 : Env := mkEnv2 Try.prog [] []
theorem ok14 : EnvOk (E14) := mkEnv2_ok (by simp) (by simp)
noncomputable def C14 : Cfg := noCfg
theorem lm14 : ∀ c, Try.f14.body = some c → LmOk (E14) (C14) Try.f14.ntmps c := fun _ _ => noCfg_lm
noncomputable def m14 (a0 : T24) (a1 : Int) (a2 : Int) (a3 : Int) : Option (Bool) :=
  bif ((decide (a1 < 0)) || (decide (a1 ≥ (List.length a0.1 : Int)))) then
    some false
  else
    (idxG ((decide (a2 < 0)) == false) ([] : (List T37)) a0.1 a1).bind fun x1 =>
    bif ((decide (a2 < 0)) || (decide (a2 ≥ (List.length x1 : Int)))) then
      some false
    else
      (idxG ((decide (a3 ≥ 0)) == true) ([] : (List T37)) a0.1 a1).bind fun x2 =>
      (idxG ((decide (a3 ≥ 0)) == true) (([] : (List Int)), 0, 0, ()) x2 a2).bind fun x3 =>
      some ((decide (a3 ≥ 0)) && (decide (a3 < (List.length x3.1 : Int))))
noncomputable def e14 : PmE := entry 14 [G24, (.int .i64), (.int .i64), (.int .i64)] false .bool (fun x => m14 x.1 x.2.1 x.2.2.1 x.2.2.2.1)
theorem q14 (x : tyL [G24, (.int .i64), (.int .i64), (.int .i64)]) : execF E14 C14 Try.f14 (datL [G24, (.int .i64), (.int .i64), (.int .i64)] x) [] (retK false .bool) = m14 x.1 x.2.1 x.2.2.1 x.2.2.2.1 := by kernel_rfl
theorem p14 : PmOk Try.prog e14 := pm_ok (E := E14) ok14 ord lm14 Try.func14 ca14 q14

/-! 52: consol/consolref40.Over -/
theorem ca52 : callable Try.prog 52 := ⟨Try.f52, Try.func52, by kernel_rfl, by kernel_rfl⟩
noncomputable def E52 : Env := mkEnv2 Try.prog [] []
theorem ok52 : EnvOk (E52) := mkEnv2_ok (by simp) (by simp)
/-- a round of a loop of consol/consolref40.Over -/
noncomputable def s52_1 {R : Type} (t1 : (List Int)) (t5 : Int) (o0 : T24) (kn : Int → Int → Option R) (k1 : Int → Option R) (t6 : Int) (t7 : Int) : Option R :=
  bif (decide (t7 < (List.length t1 : Int))) then
    cont (fun (k7 : Int → _) =>
      (idx o0.1 t7).bind fun x1 =>
      (idx t1 t7).bind fun x2 =>
      (idx x1 x2).bind fun x3 =>
      bif (x3.2.1 == t5) then
        (idx o0.1 t7).bind fun x4 =>
        (idx t1 t7).bind fun x5 =>
        (idx x4 x5).bind fun x6 =>
        k7 (IntKind.i64.wrap (t6 + x6.2.2.1))
      else
        k7 t6) fun y7 =>
    kn y7 (IntKind.i64.wrap (t7 + 1))
  else
    k1 t6
noncomputable def l52_1 {R : Type} (t1 : (List Int)) (t5 : Int) (o0 : T24) (k1 : Int → Option R) : Nat → Int → Int → Option R
  | 0, _, _ => none
  | n + 1, t6, t7 => s52_1 t1 t5 o0 (l52_1 t1 t5 o0 k1 n) k1 t6 t7
noncomputable def L52_1 : LE := ⟨7, 0, ⟨[(1, (.dat (.sl (.int .i64)))), (2, (.box 0 [] 0)), (5, (.dat (.int .i64))), (6, (.dat (.int .i64))), (7, (.dat (.int .i64)))], [(.box (.dat G24))]⟩, fun R n x k => l52_1 x.1.1 x.1.2.2.1 x.2.1 (fun y0 => k (.exit 2) ⟨[(1, (.dat (.sl (.int .i64)) x.1.1)), (2, (.box 0 [] 0)), (5, (.dat (.int .i64) x.1.2.2.1)), (6, (.dat (.int .i64) y0))], [(.box (.dat G24 x.2.1))]⟩) n x.1.2.2.2.1 x.1.2.2.2.2.1⟩
/-- a round of a loop of consol/consolref40.Over -/
noncomputable def s52_2 {R : Type} (t1 : (List Int)) (o0 : T24) (kn : Int → Option R) (k1 : Option R) (k2 : Int → Option R) (t5 : Int) : Option R :=
  bif (decide (t5 < (List.length o0.2.1 : Int))) then
    l52_1 t1 t5 o0 (fun y8 =>
        (idx o0.2.1 t5).bind fun x9 =>
        bif (decide (y8 > x9)) then
          k2 t5
        else
          kn (IntKind.i64.wrap (t5 + 1))) FUEL 0 0
  else
    k1
noncomputable def l52_2 {R : Type} (t1 : (List Int)) (o0 : T24) (k1 : Option R) (k2 : Int → Option R) : Nat → Int → Option R
  | 0, _ => none
  | n + 1, t5 => s52_2 t1 o0 (l52_2 t1 o0 k1 k2 n) k1 k2 t5
noncomputable def L52_2 : LE := ⟨3, 0, ⟨[(1, (.dat (.sl (.int .i64)))), (2, (.box 0 [] 0)), (5, (.dat (.int .i64)))], [(.box (.dat G24))]⟩, fun R n x k => l52_2 x.1.1 x.2.1 (k (.exit 0) ⟨[], []⟩) (fun y0 => k .ret ⟨[(4, (.dat (.int .i64) y0))], []⟩) n x.1.2.2.1⟩
noncomputable def C52 : Cfg := mkCfg [(3, ⟨[1, 2, 5], [], []⟩), (7, ⟨[1, 2, 5, 6, 7], [], []⟩), (8, ⟨[1, 2, 5, 6, 7], [], []⟩)] [(3, (⟨[], [], []⟩, ⟨[4], [], []⟩)), (7, (⟨[1, 2, 5, 6], [], []⟩, ⟨[4], [], []⟩))] (([(1, L52_1), (0, L52_2)] : List (Nat × LE)).map (·.2))
theorem ek52_1 : EOk (E52) (C52) Try.f52.ntmps (bodyL Try.f52 1) (L52_1) := eok_of (e := L52_1) (fun R x Kn k => s52_1 x.1.1 x.1.2.2.1 x.2.1 (fun v0 v1 => Kn ((x.1.1, (), x.1.2.2.1, v0, v1, ()), (x.2.1, ()))) (fun y0 => k (.exit 2) ⟨[(1, (.dat (.sl (.int .i64)) x.1.1)), (2, (.box 0 [] 0)), (5, (.dat (.int .i64) x.1.2.2.1)), (6, (.dat (.int .i64) y0))], [(.box (.dat G24 x.2.1))]⟩) x.1.2.2.2.1 x.1.2.2.2.2.1) (fun _ _ _ => rfl) (fun _ _ _ _ => rfl) (fun R x Kn k => by kernel_rfl)
theorem ek52_2 : EOk (E52) (C52) Try.f52.ntmps (bodyL Try.f52 0) (L52_2) := eok_of (e := L52_2) (fun R x Kn k => s52_2 x.1.1 x.2.1 (fun v0 => Kn ((x.1.1, (), v0, ()), (x.2.1, ()))) (k (.exit 0) ⟨[], []⟩) (fun y0 => k .ret ⟨[(4, (.dat (.int .i64) y0))], []⟩) x.1.2.2.1) (fun _ _ _ => rfl) (fun _ _ _ _ => rfl) (fun R x Kn k => by kernel_rfl)
theorem lm52 : ∀ c, Try.f52.body = some c → LmOk (E52) (C52) Try.f52.ntmps c := lmOk_of (ps := [(1, L52_1), (0, L52_2)]) (by kernel_rfl) (by kernel_rfl) ⟨ek52_1, ek52_2, trivial⟩
noncomputable def m52 (a0 : T24) (a1 : (List Int)) : Option (Int) :=
  l52_2 a1 a0 (
      some (-1)) (fun y10 =>
      some y10) FUEL 0
noncomputable def e52 : PmE := entry 52 [G24, (.sl (.int .i64))] false (.int .i64) (fun x => m52 x.1 x.2.1)
theorem q52 (x : tyL [G24, (.sl (.int .i64))]) : execF E52 C52 Try.f52 (datL [G24, (.sl (.int .i64))] x) [] (retK false (.int .i64)) = m52 x.1 x.2.1 := by kernel_rfl
theorem p52 : PmOk Try.prog e52 := pm_ok (E := E52) ok52 ord lm52 Try.func52 ca52 q52

/-! 53: consol/consolref40.Floor -/
theorem ca53 : callable Try.prog 53 := ⟨Try.f53, Try.func53, by kernel_rfl, by kernel_rfl⟩
noncomputable def E53 : Env := mkEnv2 Try.prog [e45] []
theorem ok53 : EnvOk (E53) := mkEnv2_ok (by simp only [List.mem_cons, List.not_mem_nil, or_false, forall_eq]; exact p45) (by simp)
/-- a round of a loop of consol/consolref40.Floor -/
noncomputable def s53_1 {R : Type} (t6 : Int) (t8 : Int) (o0 : T24) (kn : Int → Int → Option R) (k1 : Int → Option R) (t9 : Int) (t10 : Int) : Option R :=
  (idx o0.1 t8).bind fun x9 =>
  bif (decide (t10 < (List.length x9 : Int))) then
    (idx o0.1 t8).bind fun x10 =>
    (idx x10 t10).bind fun x11 =>
    (idx x11.1 t6).bind fun x12 =>
    kn (bif decide (x12 < t9) then x12 else t9) (IntKind.i64.wrap (t10 + 1))
  else
    k1 t9
noncomputable def l53_1 {R : Type} (t6 : Int) (t8 : Int) (o0 : T24) (k1 : Int → Option R) : Nat → Int → Int → Option R
  | 0, _, _ => none
  | n + 1, t9, t10 => s53_1 t6 t8 o0 (l53_1 t6 t8 o0 k1 n) k1 t9 t10
noncomputable def L53_1 : LE := ⟨14, 0, ⟨[(1, (.dat (.sl (.int .i64)))), (2, (.box 0 [] 0)), (5, (.dat (.int .i64))), (6, (.dat (.int .i64))), (7, (.dat (.int .i64))), (8, (.dat (.int .i64))), (9, (.dat (.int .i64))), (10, (.dat (.int .i64)))], [(.box (.dat G24))]⟩, fun R n x k => l53_1 x.1.2.2.2.1 x.1.2.2.2.2.2.1 x.2.1 (fun y0 => k (.exit 4) ⟨[(1, (.dat (.sl (.int .i64)) x.1.1)), (2, (.box 0 [] 0)), (5, (.dat (.int .i64) x.1.2.2.1)), (6, (.dat (.int .i64) x.1.2.2.2.1)), (7, (.dat (.int .i64) x.1.2.2.2.2.1)), (8, (.dat (.int .i64) x.1.2.2.2.2.2.1)), (9, (.dat (.int .i64) y0))], [(.box (.dat G24 x.2.1))]⟩) n x.1.2.2.2.2.2.2.1 x.1.2.2.2.2.2.2.2.1⟩
/-- a round of a loop of consol/consolref40.Floor -/
noncomputable def s53_2 {R : Type} (t1 : (List Int)) (t6 : Int) (o0 : T24) (kn : Int → Int → Option R) (k1 : Int → Option R) (t7 : Int) (t8 : Int) : Option R :=
  bif (decide (t8 < (List.length o0.1 : Int))) then
    cont (fun (k14 : Int → _) =>
      bif (decide (t8 < (List.length t1 : Int))) then
        (idx o0.1 t8).bind fun x2 =>
        (idx t1 t8).bind fun x3 =>
        (idx x2 x3).bind fun x4 =>
        (idx x4.1 t6).bind fun x5 =>
        k14 (IntKind.i64.wrap (t7 + x5))
      else
        (idx o0.1 t8).bind fun x6 =>
        (idx x6 0).bind fun x7 =>
        (idx x7.1 t6).bind fun x8 =>
        l53_1 t6 t8 o0 (fun y13 =>
            k14 (IntKind.i64.wrap (t7 + y13))) FUEL x8 0) fun y14 =>
    kn y14 (IntKind.i64.wrap (t8 + 1))
  else
    k1 t7
noncomputable def l53_2 {R : Type} (t1 : (List Int)) (t6 : Int) (o0 : T24) (k1 : Int → Option R) : Nat → Int → Int → Option R
  | 0, _, _ => none
  | n + 1, t7, t8 => s53_2 t1 t6 o0 (l53_2 t1 t6 o0 k1 n) k1 t7 t8
noncomputable def L53_2 : LE := ⟨8, 0, ⟨[(1, (.dat (.sl (.int .i64)))), (2, (.box 0 [] 0)), (5, (.dat (.int .i64))), (6, (.dat (.int .i64))), (7, (.dat (.int .i64))), (8, (.dat (.int .i64)))], [(.box (.dat G24))]⟩, fun R n x k => l53_2 x.1.1 x.1.2.2.2.1 x.2.1 (fun y0 => k (.exit 2) ⟨[(1, (.dat (.sl (.int .i64)) x.1.1)), (2, (.box 0 [] 0)), (5, (.dat (.int .i64) x.1.2.2.1)), (6, (.dat (.int .i64) x.1.2.2.2.1)), (7, (.dat (.int .i64) y0))], [(.box (.dat G24 x.2.1))]⟩) n x.1.2.2.2.2.1 x.1.2.2.2.2.2.1⟩
/-- a round of a loop of consol/consolref40.Floor -/
noncomputable def s53_3 {R : Type} (t1 : (List Int)) (o0 : T24) (kn : Int → Int → Option R) (k1 : Int → Option R) (t5 : Int) (t6 : Int) : Option R :=
  (m45 o0).bind fun r1 =>
  bif (decide (t6 < r1)) then
    l53_2 t1 t6 o0 (fun y15 =>
        kn (bif decide (y15 > t5) then y15 else t5) (IntKind.i64.wrap (t6 + 1))) FUEL 0 0
  else
    k1 t5
noncomputable def l53_3 {R : Type} (t1 : (List Int)) (o0 : T24) (k1 : Int → Option R) : Nat → Int → Int → Option R
  | 0, _, _ => none
  | n + 1, t5, t6 => s53_3 t1 o0 (l53_3 t1 o0 k1 n) k1 t5 t6
noncomputable def L53_3 : LE := ⟨4, 0, ⟨[(1, (.dat (.sl (.int .i64)))), (2, (.box 0 [] 0)), (5, (.dat (.int .i64))), (6, (.dat (.int .i64)))], [(.box (.dat G24))]⟩, fun R n x k => l53_3 x.1.1 x.2.1 (fun y0 => k (.exit 0) ⟨[(5, (.dat (.int .i64) y0))], []⟩) n x.1.2.2.1 x.1.2.2.2.1⟩
noncomputable def C53 : Cfg := mkCfg [(4, ⟨[1, 2, 5, 6], [], []⟩), (8, ⟨[1, 2, 5, 6, 7, 8], [], []⟩), (9, ⟨[1, 2, 5, 6, 7, 8], [], []⟩), (14, ⟨[1, 2, 5, 6, 7, 8, 9, 10], [], []⟩)] [(4, (⟨[5], [], []⟩, ⟨[4], [], []⟩)), (8, (⟨[1, 2, 5, 6, 7], [], []⟩, ⟨[4], [], []⟩)), (14, (⟨[1, 2, 5, 6, 7, 8, 9], [], []⟩, ⟨[4], [], []⟩))] (([(2, L53_1), (1, L53_2), (0, L53_3)] : List (Nat × LE)).map (·.2))
theorem ek53_1 : EOk (E53) (C53) Try.f53.ntmps (bodyL Try.f53 2) (L53_1) := eok_of (e := L53_1) (fun R x Kn k => s53_1 x.1.2.2.2.1 x.1.2.2.2.2.2.1 x.2.1 (fun v0 v1 => Kn ((x.1.1, (), x.1.2.2.1, x.1.2.2.2.1, x.1.2.2.2.2.1, x.1.2.2.2.2.2.1, v0, v1, ()), (x.2.1, ()))) (fun y0 => k (.exit 4) ⟨[(1, (.dat (.sl (.int .i64)) x.1.1)), (2, (.box 0 [] 0)), (5, (.dat (.int .i64) x.1.2.2.1)), (6, (.dat (.int .i64) x.1.2.2.2.1)), (7, (.dat (.int .i64) x.1.2.2.2.2.1)), (8, (.dat (.int .i64) x.1.2.2.2.2.2.1)), (9, (.dat (.int .i64) y0))], [(.box (.dat G24 x.2.1))]⟩) x.1.2.2.2.2.2.2.1 x.1.2.2.2.2.2.2.2.1) (fun _ _ _ => rfl) (fun _ _ _ _ => rfl) (fun R x Kn k => by kernel_rfl)
theorem ek53_2 : EOk (E53) (C53) Try.f53.ntmps (bodyL Try.f53 1) (L53_2) := eok_of (e := L53_2) (fun R x Kn k => s53_2 x.1.1 x.1.2.2.2.1 x.2.1 (fun v0 v1 => Kn ((x.1.1, (), x.1.2.2.1, x.1.2.2.2.1, v0, v1, ()), (x.2.1, ()))) (fun y0 => k (.exit 2) ⟨[(1, (.dat (.sl (.int .i64)) x.1.1)), (2, (.box 0 [] 0)), (5, (.dat (.int .i64) x.1.2.2.1)), (6, (.dat (.int .i64) x.1.2.2.2.1)), (7, (.dat (.int .i64) y0))], [(.box (.dat G24 x.2.1))]⟩) x.1.2.2.2.2.1 x.1.2.2.2.2.2.1) (fun _ _ _ => rfl) (fun _ _ _ _ => rfl) (fun R x Kn k => by kernel_rfl)
theorem ek53_3 : EOk (E53) (C53) Try.f53.ntmps (bodyL Try.f53 0) (L53_3) := eok_of (e := L53_3) (fun R x Kn k => s53_3 x.1.1 x.2.1 (fun v0 v1 => Kn ((x.1.1, (), v0, v1, ()), (x.2.1, ()))) (fun y0 => k (.exit 0) ⟨[(5, (.dat (.int .i64) y0))], []⟩) x.1.2.2.1 x.1.2.2.2.1) (fun _ _ _ => rfl) (fun _ _ _ _ => rfl) (fun R x Kn k => by kernel_rfl)
theorem lm53 : ∀ c, Try.f53.body = some c → LmOk (E53) (C53) Try.f53.ntmps c := lmOk_of (ps := [(2, L53_1), (1, L53_2), (0, L53_3)]) (by kernel_rfl) (by kernel_rfl) ⟨ek53_1, ek53_2, ek53_3, trivial⟩
noncomputable def m53 (a0 : T24) (a1 : (List Int)) : Option (Int) :=
  l53_3 a1 a0 (fun y16 =>
      some y16) FUEL 0 0
noncomputable def e53 : PmE := entry 53 [G24, (.sl (.int .i64))] false (.int .i64) (fun x => m53 x.1 x.2.1)
theorem q53 (x : tyL [G24, (.sl (.int .i64))]) : execF E53 C53 Try.f53 (datL [G24, (.sl (.int .i64))] x) [] (retK false (.int .i64)) = m53 x.1 x.2.1 := by kernel_rfl
theorem p53 : PmOk Try.prog e53 := pm_ok (E := E53) ok53 ord lm53 Try.func53 ca53 q53

/-! 48: (*consol/consolref40.search).look -/
theorem ca48 : callable Try.prog 48 := ⟨Try.f48, Try.func48, by kernel_rfl, by kernel_rfl⟩
def F48i : ShS := ⟨[(0, (.box 0 [] 0)), (1, (.dat (.sl (.int .i64))))], [(.box (.agg (.scons (.dat G24) (.scons (.dat (.int .i64)) (.scons (.nsl (.int .i64)) (.scons (.dat (.int .i64)) .snil))))))]⟩
def F48o : ShS := ⟨[(0, (.tup .snil))], [(.box (.agg (.scons (.dat G24) (.scons (.dat (.int .i64)) (.scons (.nsl (.int .i64)) (.scons (.dat (.int .i64)) .snil))))))]⟩
noncomputable def cS48 (mr : (List Int) → T24 → Int → (List Int) → Int → Option F48o.ty) : CmE := stE 48 [(0, [2], (.cons (.sl (.int .i64)) .opq)), (1, [], (.sl (.int .i64)))] [] F48i F48o (fun x => mr x.1.2.1 x.2.1.1 x.2.1.2.1 x.2.1.2.2.1 x.2.1.2.2.2.1)
noncomputable def E48 (mr : (List Int) → T24 → Int → (List Int) → Int → Option F48o.ty) : Env := mkEnv2 Try.prog [e52, e53] [cS48 mr]
theorem ok48 (mr : (List Int) → T24 → Int → (List Int) → Int → Option F48o.ty) (hmr : CmOk Try.prog (cS48 mr)) : EnvOk (E48 mr) := mkEnv2_ok (by simp only [List.mem_cons, List.not_mem_nil, or_false, forall_eq_or_imp, forall_eq]; exact ⟨p52, p53⟩) (by simp only [List.mem_cons, List.not_mem_nil, or_false, forall_eq]; exact hmr)
/-- a round of a loop of (*consol/consolref40.search).look -/
noncomputable def s48_1 {R : Type} (mr : (List Int) → T24 → Int → (List Int) → Int → Option F48o.ty) (t1 : (List Int)) (kn : Int → T24 → Int → (List Int) → Int → Option R) (k1 : T24 → Int → (List Int) → Int → Option R) (t4 : Int) (o0 : T24) (o0_2 : Int) (o0_3 : (List Int)) (o0_4 : Int) : Option R :=
  (idx o0.1 (List.length t1 : Int)).bind fun x4 =>
  bif (decide (t4 < (List.length x4 : Int))) then
    asrt true (decide (List.length (α := Int) t1 ≤ LIM)) (
      asrt true (decide (List.length (α := Int) t1 + List.length (α := Int) [t4] ≤ LIM)) (
        (mr (t1 ++ [t4]) o0 o0_2 o0_3 o0_4).bind fun r5 =>
        kn (IntKind.i64.wrap (t4 + 1)) r5.2.1.1 r5.2.1.2.1 r5.2.1.2.2.1 r5.2.1.2.2.2.1))
  else
    k1 o0 o0_2 o0_3 o0_4
noncomputable def l48_1 {R : Type} (mr : (List Int) → T24 → Int → (List Int) → Int → Option F48o.ty) (t1 : (List Int)) (k1 : T24 → Int → (List Int) → Int → Option R) : Nat → Int → T24 → Int → (List Int) → Int → Option R
  | 0, _, _, _, _, _ => none
  | n + 1, t4, o0, o0_2, o0_3, o0_4 => s48_1 mr t1 (l48_1 mr t1 k1 n) k1 t4 o0 o0_2 o0_3 o0_4
noncomputable def L48_1 (mr : (List Int) → T24 → Int → (List Int) → Int → Option F48o.ty) : LE := ⟨7, 1, ⟨[(0, (.box 0 [] 0)), (1, (.dat (.sl (.int .i64)))), (4, (.dat (.int .i64)))], [(.box (.agg (.scons (.dat G24) (.scons (.dat (.int .i64)) (.scons (.nsl (.int .i64)) (.scons (.dat (.int .i64)) .snil))))))]⟩, fun R n x k => l48_1 mr x.1.2.1 (fun y0 y1 y2 y3 => k (.exit 0) ⟨[], [(.box (.agg (.scons (.dat G24 y0) (.scons (.dat (.int .i64) y1) (.scons (.nsl (.int .i64) y2) (.scons (.dat (.int .i64) y3) .snil))))))]⟩) n x.1.2.2.1 x.2.1.1 x.2.1.2.1 x.2.1.2.2.1 x.2.1.2.2.2.1⟩
noncomputable def C48 (mr : (List Int) → T24 → Int → (List Int) → Int → Option F48o.ty) : Cfg := mkCfg [(7, ⟨[0, 1, 4], [], []⟩)] [(7, (⟨[], [], []⟩, ⟨[], [], []⟩))] (([(0, L48_1 mr)] : List (Nat × LE)).map (·.2))
theorem ek48_1 (mr : (List Int) → T24 → Int → (List Int) → Int → Option F48o.ty) : EOk (E48 mr) (C48 mr) Try.f48.ntmps (bodyL Try.f48 0) (L48_1 mr) := eok_of (e := L48_1 mr) (fun R x Kn k => s48_1 mr x.1.2.1 (fun v0 v1 v2 v3 v4 => Kn (((), x.1.2.1, v0, ()), ((v1, v2, v3, v4, ()), ()))) (fun y0 y1 y2 y3 => k (.exit 0) ⟨[], [(.box (.agg (.scons (.dat G24 y0) (.scons (.dat (.int .i64) y1) (.scons (.nsl (.int .i64) y2) (.scons (.dat (.int .i64) y3) .snil))))))]⟩) x.1.2.2.1 x.2.1.1 x.2.1.2.1 x.2.1.2.2.1 x.2.1.2.2.2.1) (fun _ _ _ => rfl) (fun _ _ _ _ => rfl) (fun R x Kn k => by kernel_rfl)
theorem lm48 (mr : (List Int) → T24 → Int → (List Int) → Int → Option F48o.ty) : ∀ c, Try.f48.body = some c → LmOk (E48 mr) (C48 mr) Try.f48.ntmps c := lmOk_of (ps := [(0, L48_1 mr)]) (by kernel_rfl) (by kernel_rfl) ⟨ek48_1 mr, trivial⟩
noncomputable def M48 (mr : (List Int) → T24 → Int → (List Int) → Int → Option F48o.ty) (a0 : (List Int)) (a1 : T24) (a2 : Int) (a3 : (List Int)) (a4 : Int) : Option F48o.ty :=
  (bif ((decide ((IntKind.i64.wrap (a2 + 1)) > 100000)) == false) then (m52 a1 a0) else some 0).bind fun r1 =>
  (bif ((((decide ((IntKind.i64.wrap (a2 + 1)) > 100000)) || (r1 != (-1))) == false) && ((!(List.isEmpty (α := Int) a3)) == true)) then (m53 a1 a0) else some 0).bind fun r2 =>
  bif (((decide ((IntKind.i64.wrap (a2 + 1)) > 100000)) || (r1 != (-1))) || ((!(List.isEmpty (α := Int) a3)) && (decide (r2 ≥ a4)))) then
    some (((()), ()), ((a1, (IntKind.i64.wrap (a2 + 1)), a3, a4, ()), ()))
  else
    bif ((List.length a0 : Int) == (List.length a1.1 : Int)) then
      asrt true (decide (List.length (α := Int) a0 ≤ LIM)) (
        asrt true (!(List.isEmpty (α := Int) a0)) (
          (m53 a1 a0).bind fun r3 =>
          some (((()), ()), ((a1, (IntKind.i64.wrap (a2 + 1)), a0, r3, ()), ()))))
    else
      l48_1 mr a0 (fun y6 y7 y8 y9 =>
          some (((()), ()), ((y6, y7, y8, y9, ()), ()))) FUEL 0 a1 (IntKind.i64.wrap (a2 + 1)) a3 a4
theorem q48 (mr : (List Int) → T24 → Int → (List Int) → Int → Option F48o.ty) (x : F48i.ty) : execF (E48 mr) (C48 mr) Try.f48 ((F48i.enc x).regs.map (·.2)) (F48i.enc x).heap (retS [] [] 1 F48o) = M48 mr x.1.2.1 x.2.1.1 x.2.1.2.1 x.2.1.2.2.1 x.2.1.2.2.2.1 := by kernel_rfl
theorem R48 (mr : (List Int) → T24 → Int → (List Int) → Int → Option F48o.ty) (hmr : CmOk Try.prog (cS48 mr)) : CRun Try.prog 48 F48i F48o (fun x => M48 mr x.1.2.1 x.2.1.1 x.2.1.2.1 x.2.1.2.2.1 x.2.1.2.2.2.1) := st_run (E := E48 mr) (ok48 mr hmr) ord (lm48 mr) Try.func48 (q48 mr)
noncomputable def m48N : Nat → (List Int) → T24 → Int → (List Int) → Int → Option F48o.ty
  | 0, _, _, _, _, _ => none
  | n + 1, a0, a1, a2, a3, a4 => M48 (m48N n) a0 a1 a2 a3 a4
theorem dS48 : ∀ n, CmOk Try.prog (cS48 (m48N n))
  | 0 => st_ok ca48 (fun _ _ h => by cases h)
  | n + 1 => st_ok ca48 (R48 (m48N n) (dS48 n))
noncomputable def m48 (a0 : (List Int)) (a1 : T24) (a2 : Int) (a3 : (List Int)) (a4 : Int) : Option F48o.ty := m48N FUEL a0 a1 a2 a3 a4
noncomputable def c48 : CmE := cS48 (fun a0 a1 a2 a3 a4 => m48 a0 a1 a2 a3 a4)
theorem d48 : CmOk Try.prog c48 := dS48 FUEL

/-! 49: consol/consolref40.bounds -/
theorem ca49 : callable Try.prog 49 := ⟨Try.f49, Try.func49, by kernel_rfl, by kernel_rfl⟩
def F49i : ShS := ⟨[(0, (.dat G24)), (1, (.dat (.sl (.int .i64)))), (2, (.dat (.int .i64))), (3, (.own 0))], [(.arr G37)]⟩
def F49o : ShS := ⟨[(0, (.own 1))], [.dead, (.arr G37)]⟩
noncomputable def cS49 (mr : T24 → (List Int) → Int → (List T37) → Option F49o.ty) : CmE := stE 49 [(1, [], (.sl (.int .i64)))] [(3, [], G37)] F49i F49o (fun x => mr x.1.1 x.1.2.1 x.1.2.2.1 x.2.1)
noncomputable def E49 (mr : T24 → (List Int) → Int → (List T37) → Option F49o.ty) : Env := mkEnv2 Try.prog [e52, e53] [cS49 mr]
theorem ok49 (mr : T24 → (List Int) → Int → (List T37) → Option F49o.ty) (hmr : CmOk Try.prog (cS49 mr)) : EnvOk (E49 mr) := mkEnv2_ok (by simp only [List.mem_cons, List.not_mem_nil, or_false, forall_eq_or_imp, forall_eq]; exact ⟨p52, p53⟩) (by simp only [List.mem_cons, List.not_mem_nil, or_false, forall_eq]; exact hmr)
/-- a round of a loop of consol/consolref40.bounds -/
noncomputable def s49_1 {R : Type} (mr : T24 → (List Int) → Int → (List T37) → Option F49o.ty) (t1 : (List Int)) (t2 : Int) (o2 : T24) (kn : Int → (List T37) → Option R) (k1 : (List T37) → Option R) (t10 : Int) (o1 : (List T37)) : Option R :=
  (idx o2.1 (List.length t1 : Int)).bind fun x4 =>
  bif ((decide (t10 < (List.length x4 : Int))) && (decide ((List.length o1 : Int) ≤ 100000))) then
    asrt true (decide (List.length (α := Int) t1 ≤ LIM)) (
      asrt true (decide (List.length (α := Int) t1 + List.length (α := Int) [t10] ≤ LIM)) (
        (mr o2 (t1 ++ [t10]) t2 o1).bind fun r5 =>
        kn (IntKind.i64.wrap (t10 + 1)) r5.2.2.1))
  else
    k1 o1
noncomputable def l49_1 {R : Type} (mr : T24 → (List Int) → Int → (List T37) → Option F49o.ty) (t1 : (List Int)) (t2 : Int) (o2 : T24) (k1 : (List T37) → Option R) : Nat → Int → (List T37) → Option R
  | 0, _, _ => none
  | n + 1, t10, o1 => s49_1 mr t1 t2 o2 (l49_1 mr t1 t2 o2 k1 n) k1 t10 o1
noncomputable def L49_1 (mr : T24 → (List Int) → Int → (List T37) → Option F49o.ty) : LE := ⟨8, 1, ⟨[(1, (.dat (.sl (.int .i64)))), (2, (.dat (.int .i64))), (3, (.own 1)), (4, (.box 2 [] 0)), (10, (.dat (.int .i64)))], [.dead, (.arr G37), (.box (.dat G24))]⟩, fun R n x k => l49_1 mr x.1.1 x.1.2.1 x.2.2.2.1 (fun y0 => k (.exit 0) ⟨[(3, (.own 1))], [.dead, (.arr G37 y0)]⟩) n x.1.2.2.2.2.1 x.2.2.1⟩
noncomputable def C49 (mr : T24 → (List Int) → Int → (List T37) → Option F49o.ty) : Cfg := mkCfg [(8, ⟨[1, 2, 3, 4, 10], [], []⟩)] [(8, (⟨[3], [], []⟩, ⟨[8], [], []⟩))] (([(0, L49_1 mr)] : List (Nat × LE)).map (·.2)) [] [(0, [(3, [], (.cons .nil .opq))])]
theorem ek49_1 (mr : T24 → (List Int) → Int → (List T37) → Option F49o.ty) : EOk (E49 mr) (C49 mr) Try.f49.ntmps (bodyL Try.f49 0) (L49_1 mr) := eok_of (e := L49_1 mr) (fun R x Kn k => s49_1 mr x.1.1 x.1.2.1 x.2.2.2.1 (fun v0 v1 => Kn ((x.1.1, x.1.2.1, (), (), v0, ()), ((), v1, x.2.2.2.1, ()))) (fun y0 => k (.exit 0) ⟨[(3, (.own 1))], [.dead, (.arr G37 y0)]⟩) x.1.2.2.2.2.1 x.2.2.1) (fun _ _ _ => rfl) (fun _ _ _ _ => rfl) (fun R x Kn k => by kernel_rfl)
theorem lm49 (mr : T24 → (List Int) → Int → (List T37) → Option F49o.ty) : ∀ c, Try.f49.body = some c → LmOk (E49 mr) (C49 mr) Try.f49.ntmps c := lmOk_of (ps := [(0, L49_1 mr)]) (by kernel_rfl) (by kernel_rfl) ⟨ek49_1 mr, trivial⟩
noncomputable def M49 (mr : T24 → (List Int) → Int → (List T37) → Option F49o.ty) (a0 : T24) (a1 : (List Int)) (a2 : Int) (a3 : (List T37)) : Option F49o.ty :=
  (m52 a0 a1).bind fun r1 =>
  bif (r1 != (-1)) then
    asrt true (decide (List.length (α := Int) a1 ≤ LIM)) (
      asrt true (decide (List.length (α := T37) a3 + List.length (α := T37) [(a1, 0, r1, ())] ≤ LIM)) (
        some (((), ()), ((), (a3 ++ [(a1, 0, r1, ())]), ()))))
  else
    (m53 a0 a1).bind fun r2 =>
    bif ((decide (r2 ≥ a2)) || ((List.length a1 : Int) == (List.length a0.1 : Int))) then
      asrt true (decide (List.length (α := Int) a1 ≤ LIM)) (
        (m53 a0 a1).bind fun r3 =>
        asrt true (decide (List.length (α := T37) a3 + List.length (α := T37) [(a1, r3, (-1), ())] ≤ LIM)) (
          some (((), ()), ((), (a3 ++ [(a1, r3, (-1), ())]), ()))))
    else
      l49_1 mr a1 a2 a0 (fun y6 =>
          some (((), ()), ((), y6, ()))) FUEL 0 a3
theorem q49 (mr : T24 → (List Int) → Int → (List T37) → Option F49o.ty) (x : F49i.ty) : execF (E49 mr) (C49 mr) Try.f49 ((F49i.enc x).regs.map (·.2)) (F49i.enc x).heap (retS [] [] 1 F49o) = M49 mr x.1.1 x.1.2.1 x.1.2.2.1 x.2.1 := by kernel_rfl
theorem R49 (mr : T24 → (List Int) → Int → (List T37) → Option F49o.ty) (hmr : CmOk Try.prog (cS49 mr)) : CRun Try.prog 49 F49i F49o (fun x => M49 mr x.1.1 x.1.2.1 x.1.2.2.1 x.2.1) := st_run (E := E49 mr) (ok49 mr hmr) ord (lm49 mr) Try.func49 (q49 mr)
noncomputable def m49N : Nat → T24 → (List Int) → Int → (List T37) → Option F49o.ty
  | 0, _, _, _, _ => none
  | n + 1, a0, a1, a2, a3 => M49 (m49N n) a0 a1 a2 a3
theorem dS49 : ∀ n, CmOk Try.prog (cS49 (m49N n))
  | 0 => st_ok ca49 (fun _ _ h => by cases h)
  | n + 1 => st_ok ca49 (R49 (m49N n) (dS49 n))
noncomputable def m49 (a0 : T24) (a1 : (List Int)) (a2 : Int) (a3 : (List T37)) : Option F49o.ty := m49N FUEL a0 a1 a2 a3
noncomputable def c49 : CmE := cS49 (fun a0 a1 a2 a3 => m49 a0 a1 a2 a3)
theorem d49 : CmOk Try.prog c49 := dS49 FUEL

/-! 26: consol/consolref40.Best -/
theorem ca26 : callable Try.prog 26 := ⟨Try.f26, Try.func26, by kernel_rfl, by kernel_rfl⟩
noncomputable def E26 : Env := mkEnv2 Try.prog [e25] [c48, c49]
theorem ok26 : EnvOk (E26) := mkEnv2_ok (by simp only [List.mem_cons, List.not_mem_nil, or_false, forall_eq]; exact p25) (by simp only [List.mem_cons, List.not_mem_nil, or_false, forall_eq_or_imp, forall_eq]; exact ⟨d48, d49⟩)
noncomputable def C26 : Cfg := noCfg
theorem lm26 : ∀ c, Try.f26.body = some c → LmOk (E26) (C26) Try.f26.ntmps c := fun _ _ => noCfg_lm
noncomputable def m26 (a0 : T24) : Option (((List Int) × (Int × ((List T37) × (Int × Unit))))) :=
  (m25 a0).bind fun r1 =>
  bif (!r1) then
    some ([], 0, [], 1, ())
  else
    (m48 [] a0 0 [] 0).bind fun r2 =>
    bif (decide (r2.2.1.2.1 > 100000)) then
      some ([], 0, [], 6, ())
    else
      bif (List.isEmpty (α := Int) r2.2.1.2.2.1) then
        some ([], 0, [], 4, ())
      else
        (m49 a0 [] r2.2.1.2.2.2.1 []).bind fun r3 =>
        bif (decide ((List.length r3.2.2.1 : Int) > 100000)) then
          some ([], 0, [], 6, ())
        else
          some (r2.2.1.2.2.1, r2.2.1.2.2.2.1, r3.2.2.1, 0, ())
noncomputable def e26 : PmE := entry 26 [G24] true (.cons (.sl (.int .i64)) (.cons (.int .i64) (.cons (.sl G37) (.cons (.int .i64) .nil)))) (fun x => m26 x.1)
theorem q26 (x : tyL [G24]) : execF E26 C26 Try.f26 (datL [G24] x) [] (retK true (.cons (.sl (.int .i64)) (.cons (.int .i64) (.cons (.sl G37) (.cons (.int .i64) .nil))))) = m26 x.1 := by kernel_rfl
theorem p26 : PmOk Try.prog e26 := pm_ok (E := E26) ok26 ord lm26 Try.func26 ca26 q26

noncomputable def cK26 : CmE := konE 26 [G24] true (.cons (.sl (.int .i64)) (.cons (.int .i64) (.cons (.sl G37) (.cons (.int .i64) .nil)))) (fun x => m26 x.1)
theorem dK26 : CmOk Try.prog cK26 := kon_ok p26

/-! 16: consol/consolref41.With -/
theorem ca16 : callable Try.prog 16 := ⟨Try.f16, Try.func16, by kernel_rfl, by kernel_rfl⟩
noncomputable def E16 : Env := mkEnv2 Try.prog [] []
theorem ok16 : EnvOk (E16) := mkEnv2_ok (by simp) (by simp)
/-- a round of a loop of consol/consolref41.With -/
noncomputable def s16_1 {R : Type} (t1 : Int) (t2 : Int) (t3 : Int) (t4 : Int) (o0 : T24) (kn : Int → (List (List T37)) → Option R) (k1 : (List (List T37)) → Option R) (t12 : Int) (o3 : (List (List T37))) : Option R :=
  bif (decide (t12 < (List.length o0.1 : Int))) then
    cont (fun (k4 : (List (List T37)) → _) =>
      (idx o0.1 t12).bind fun x1 =>
      asrt true (decide (List.length (α := T37) x1 ≤ LIM)) (
        bif (t12 == t1) then
          asrt true (decide (0 ≤ t2) && decide (t2 < (List.length x1 : Int))) (
            ((x1)[(t2 : Int).toNat]?).bind fun x2 =>
            asrt true (decide (0 ≤ t2) && decide (t2 < (List.length x1 : Int))) (
              asrt true (Nat.beq ((t2 : Int).toNat) ((t2 : Int).toNat)) (
                asrt true (decide (List.length (α := Int) x2.1 ≤ LIM)) (
                  asrt true (decide (0 ≤ t2) && decide (t2 < (List.length x1 : Int))) (
                    asrt true (Nat.beq ((t2 : Int).toNat) ((t2 : Int).toNat)) (
                      asrt true (decide (0 ≤ t2) && decide (t2 < (List.length x1 : Int))) (
                        asrt true (Nat.beq ((t2 : Int).toNat) ((t2 : Int).toNat)) (
                          asrt true (decide (0 ≤ t3) && decide (t3 < (List.length x2.1 : Int))) (
                            ((x2.1)[(t3 : Int).toNat]?).bind fun x3 =>
                            asrt true (decide (List.length (α := (List T37)) o3 + List.length (α := (List T37)) [(List.set x1 ((t2 : Int).toNat) ((List.set x2.1 (t3 : Int).toNat t4), x2.2.1, x2.2.2.1, ()))] ≤ LIM)) (
                              k4 (o3 ++ [(List.set x1 ((t2 : Int).toNat) ((List.set x2.1 (t3 : Int).toNat t4), x2.2.1, x2.2.2.1, ()))])))))))))))
        else
          asrt true (decide (List.length (α := (List T37)) o3 + List.length (α := (List T37)) [x1] ≤ LIM)) (
            k4 (o3 ++ [x1])))) fun y4 =>
    kn (IntKind.i64.wrap (t12 + 1)) y4
  else
    k1 o3
noncomputable def l16_1 {R : Type} (t1 : Int) (t2 : Int) (t3 : Int) (t4 : Int) (o0 : T24) (k1 : (List (List T37)) → Option R) : Nat → Int → (List (List T37)) → Option R
  | 0, _, _ => none
  | n + 1, t12, o3 => s16_1 t1 t2 t3 t4 o0 (l16_1 t1 t2 t3 t4 o0 k1 n) k1 t12 o3
noncomputable def L16_1 : LE := ⟨4, 0, ⟨[(1, (.dat (.int .i64))), (2, (.dat (.int .i64))), (3, (.dat (.int .i64))), (4, (.dat (.int .i64))), (5, (.box 0 [] 0)), (10, (.box 1 [] 0)), (11, (.box 2 [] 0)), (12, (.dat (.int .i64)))], [(.box (.dat G24)), (.box (.agg (.scons .nils (.scons .nils .snil)))), (.box (.agg (.scons (.own 3) (.scons (.dat (.sl (.int .i64))) .snil)))), (.arr (.sl G37))]⟩, fun R n x k => l16_1 x.1.1 x.1.2.1 x.1.2.2.1 x.1.2.2.2.1 x.2.1 (fun y0 => k (.exit 0) ⟨[(10, (.box 0 [] 0)), (11, (.box 1 [] 0))], [(.box (.agg (.scons .nils (.scons .nils .snil)))), (.box (.agg (.scons (.own 2) (.scons (.dat (.sl (.int .i64)) x.2.2.2.1.2.1) .snil)))), (.arr (.sl G37) y0)]⟩) n x.1.2.2.2.2.2.2.2.1 x.2.2.2.2.1⟩
noncomputable def C16 : Cfg := mkCfg [(4, ⟨[1, 2, 3, 4, 5, 10, 11, 12], [(11, [0], (.sl G37))], []⟩), (5, ⟨[1, 2, 3, 4, 5, 10, 11, 12], [], []⟩), (10, ⟨[1, 2, 3, 4, 5, 10, 11, 12, 13], [], []⟩)] [(4, (⟨[10, 11], [], []⟩, ⟨[10], [], []⟩))] (([(0, L16_1)] : List (Nat × LE)).map (·.2)) [] [(9, [(13, [], (.sl G37))])] (op := [(7, [(13, 2)])])
theorem ek16_1 : EOk (E16) (C16) Try.f16.ntmps (bodyL Try.f16 0) (L16_1) := eok_of (e := L16_1) (fun R x Kn k => s16_1 x.1.1 x.1.2.1 x.1.2.2.1 x.1.2.2.2.1 x.2.1 (fun v0 v1 => Kn ((x.1.1, x.1.2.1, x.1.2.2.1, x.1.2.2.2.1, (), (), (), v0, ()), (x.2.1, ((), (), ()), ((), x.2.2.2.1.2.1, ()), v1, ()))) (fun y0 => k (.exit 0) ⟨[(10, (.box 0 [] 0)), (11, (.box 1 [] 0))], [(.box (.agg (.scons .nils (.scons .nils .snil)))), (.box (.agg (.scons (.own 2) (.scons (.dat (.sl (.int .i64)) x.2.2.2.1.2.1) .snil)))), (.arr (.sl G37) y0)]⟩) x.1.2.2.2.2.2.2.2.1 x.2.2.2.2.1) (fun _ _ _ => rfl) (fun _ _ _ _ => rfl) (fun R x Kn k => by kernel_rfl)
theorem lm16 : ∀ c, Try.f16.body = some c → LmOk (E16) (C16) Try.f16.ntmps c := lmOk_of (ps := [(0, L16_1)]) (by kernel_rfl) (by kernel_rfl) ⟨ek16_1, trivial⟩
noncomputable def m16 (a0 : T24) (a1 : Int) (a2 : Int) (a3 : Int) (a4 : Int) : Option (T24) :=
  l16_1 a1 a2 a3 a4 a0 (fun y5 =>
      some (y5, a0.2.1, ())) FUEL 0 []
noncomputable def e16 : PmE := entry 16 [G24, (.int .i64), (.int .i64), (.int .i64), (.int .i64)] false G24 (fun x => m16 x.1 x.2.1 x.2.2.1 x.2.2.2.1 x.2.2.2.2.1)
theorem q16 (x : tyL [G24, (.int .i64), (.int .i64), (.int .i64), (.int .i64)]) : execF E16 C16 Try.f16 (datL [G24, (.int .i64), (.int .i64), (.int .i64), (.int .i64)] x) [] (retK false G24) = m16 x.1 x.2.1 x.2.2.1 x.2.2.2.1 x.2.2.2.2.1 := by kernel_rfl
theorem p16 : PmOk Try.prog e16 := pm_ok (E := E16) ok16 ord lm16 Try.func16 ca16 q16

noncomputable def cK16 : CmE := konE 16 [G24, (.int .i64), (.int .i64), (.int .i64), (.int .i64)] false G24 (fun x => m16 x.1 x.2.1 x.2.2.1 x.2.2.2.1 x.2.2.2.2.1)
theorem dK16 : CmOk Try.prog cK16 := kon_ok p16

/-! 51: consol/consolref40.Choice -/
theorem ca51 : callable Try.prog 51 := ⟨Try.f51, Try.func51, by kernel_rfl, by kernel_rfl⟩
noncomputable def E51 : Env := mkEnv2 Try.prog [e46] []
theorem ok51 : EnvOk (E51) := mkEnv2_ok (by simp only [List.mem_cons, List.not_mem_nil, or_false, forall_eq]; exact p46) (by simp)
/-- a round of a loop of consol/consolref40.Choice -/
noncomputable def s51_1 {R : Type} (t1 : (List Int)) (o0 : T24) (kn : Int → Option R) (k1 : Option R) (k2 : Option R) (t5 : Int) : Option R :=
  bif (decide (t5 < (List.length t1 : Int))) then
    (idx t1 t5).bind fun x1 =>
    (idx o0.1 t5).bind fun x2 =>
    (m46 x1 0 (IntKind.i64.wrap ((List.length x2 : Int) - 1))).bind fun r3 =>
    bif (!r3) then
      k2
    else
      kn (IntKind.i64.wrap (t5 + 1))
  else
    k1
noncomputable def l51_1 {R : Type} (t1 : (List Int)) (o0 : T24) (k1 : Option R) (k2 : Option R) : Nat → Int → Option R
  | 0, _ => none
  | n + 1, t5 => s51_1 t1 o0 (l51_1 t1 o0 k1 k2 n) k1 k2 t5
noncomputable def L51_1 : LE := ⟨5, 0, ⟨[(1, (.dat (.sl (.int .i64)))), (2, (.box 0 [] 0)), (5, (.dat (.int .i64)))], [(.box (.dat G24))]⟩, fun R n x k => l51_1 x.1.1 x.2.1 (k (.exit 0) ⟨[], []⟩) (k .ret ⟨[(4, (.dat .bool false))], []⟩) n x.1.2.2.1⟩
noncomputable def C51 : Cfg := mkCfg [(5, ⟨[1, 2, 5], [], []⟩)] [(5, (⟨[], [], []⟩, ⟨[4], [], []⟩))] (([(0, L51_1)] : List (Nat × LE)).map (·.2))
theorem ek51_1 : EOk (E51) (C51) Try.f51.ntmps (bodyL Try.f51 0) (L51_1) := eok_of (e := L51_1) (fun R x Kn k => s51_1 x.1.1 x.2.1 (fun v0 => Kn ((x.1.1, (), v0, ()), (x.2.1, ()))) (k (.exit 0) ⟨[], []⟩) (k .ret ⟨[(4, (.dat .bool false))], []⟩) x.1.2.2.1) (fun _ _ _ => rfl) (fun _ _ _ _ => rfl) (fun R x Kn k => by kernel_rfl)
theorem lm51 : ∀ c, Try.f51.body = some c → LmOk (E51) (C51) Try.f51.ntmps c := lmOk_of (ps := [(0, L51_1)]) (by kernel_rfl) (by kernel_rfl) ⟨ek51_1, trivial⟩
noncomputable def m51 (a0 : T24) (a1 : (List Int)) : Option (Bool) :=
  bif (decide ((List.length a1 : Int) > (List.length a0.1 : Int))) then
    some false
  else
    l51_1 a1 a0 (
        some true) (
        some false) FUEL 0
noncomputable def e51 : PmE := entry 51 [G24, (.sl (.int .i64))] false .bool (fun x => m51 x.1 x.2.1)
theorem q51 (x : tyL [G24, (.sl (.int .i64))]) : execF E51 C51 Try.f51 (datL [G24, (.sl (.int .i64))] x) [] (retK false .bool) = m51 x.1 x.2.1 := by kernel_rfl
theorem p51 : PmOk Try.prog e51 := pm_ok (E := E51) ok51 ord lm51 Try.func51 ca51 q51

/-! 28: consol/consolref40.Cost -/
theorem ca28 : callable Try.prog 28 := ⟨Try.f28, Try.func28, by kernel_rfl, by kernel_rfl⟩
noncomputable def E28 : Env := mkEnv2 Try.prog [e25, e51, e52, e53] []
theorem ok28 : EnvOk (E28) := mkEnv2_ok (by simp only [List.mem_cons, List.not_mem_nil, or_false, forall_eq_or_imp, forall_eq]; exact ⟨p25, p51, p52, p53⟩) (by simp)
noncomputable def C28 : Cfg := noCfg
theorem lm28 : ∀ c, Try.f28.body = some c → LmOk (E28) (C28) Try.f28.ntmps c := fun _ _ => noCfg_lm
noncomputable def m28 (a0 : T24) (a1 : (List Int)) : Option ((Int × (Bool × Unit))) :=
  (m25 a0).bind fun r1 =>
  (bif (((!r1) || ((List.length a1 : Int) != (List.length a0.1 : Int))) == false) then (m51 a0 a1) else some false).bind fun r2 =>
  (bif ((((!r1) || ((List.length a1 : Int) != (List.length a0.1 : Int))) || (!r2)) == false) then (m52 a0 a1) else some 0).bind fun r3 =>
  bif ((((!r1) || ((List.length a1 : Int) != (List.length a0.1 : Int))) || (!r2)) || (r3 != (-1))) then
    some (0, false, ())
  else
    (m53 a0 a1).bind fun r4 =>
    some (r4, true, ())
noncomputable def e28 : PmE := entry 28 [G24, (.sl (.int .i64))] true (.cons (.int .i64) (.cons .bool .nil)) (fun x => m28 x.1 x.2.1)
theorem q28 (x : tyL [G24, (.sl (.int .i64))]) : execF E28 C28 Try.f28 (datL [G24, (.sl (.int .i64))] x) [] (retK true (.cons (.int .i64) (.cons .bool .nil))) = m28 x.1 x.2.1 := by kernel_rfl
theorem p28 : PmOk Try.prog e28 := pm_ok (E := E28) ok28 ord lm28 Try.func28 ca28 q28

/-! 60: consol/consolref41.next -/
theorem ca60 : callable Try.prog 60 := ⟨Try.f60, Try.func60, by kernel_rfl, by kernel_rfl⟩
noncomputable def E60 : Env := mkEnv2 Try.prog [] []
theorem ok60 : EnvOk (E60) := mkEnv2_ok (by simp) (by simp)
/-- a round of a loop of consol/consolref41.next -/
noncomputable def s60_1 {R : Type} (o0 : T24) (kn : Int → (List Int) → Option R) (k1 : Option R) (k2 : (List Int) → Option R) (t6 : Int) (o1 : (List Int)) : Option R :=
  bif (decide (t6 ≥ 0)) then
    asrt true (decide (0 ≤ t6) && decide (t6 < (List.length o1 : Int))) (
      ((o1)[(t6 : Int).toNat]?).bind fun x1 =>
      (idx o0.1 t6).bind fun x2 =>
      bif (decide ((IntKind.i64.wrap (x1 + 1)) < (List.length x2 : Int))) then
        asrt true (decide (0 ≤ t6) && decide (t6 < (List.length o1 : Int))) (
          ((o1)[(t6 : Int).toNat]?).bind fun x3 =>
          asrt true (decide (0 ≤ t6) && decide (t6 < (List.length o1 : Int))) (
            ((o1)[(t6 : Int).toNat]?).bind fun x4 =>
            k2 (List.set o1 (t6 : Int).toNat (IntKind.i64.wrap (x3 + 1)))))
      else
        asrt true (decide (0 ≤ t6) && decide (t6 < (List.length o1 : Int))) (
          ((o1)[(t6 : Int).toNat]?).bind fun x5 =>
          kn (IntKind.i64.wrap (t6 - 1)) (List.set o1 (t6 : Int).toNat 0)))
  else
    k1
noncomputable def l60_1 {R : Type} (o0 : T24) (k1 : Option R) (k2 : (List Int) → Option R) : Nat → Int → (List Int) → Option R
  | 0, _, _ => none
  | n + 1, t6, o1 => s60_1 o0 (l60_1 o0 k1 k2 n) k1 k2 t6 o1
noncomputable def L60_1 : LE := ⟨4, 0, ⟨[(2, (.box 0 [] 0)), (5, (.own 1)), (6, (.dat (.int .i64)))], [(.box (.dat G24)), (.arr (.int .i64))]⟩, fun R n x k => l60_1 x.2.1 (k (.exit 0) ⟨[], []⟩) (fun y0 => k .ret ⟨[(4, (.own 0))], [(.arr (.int .i64) y0)]⟩) n x.1.2.2.1 x.2.2.1⟩
noncomputable def C60 : Cfg := mkCfg [(4, ⟨[2, 5, 6], [], []⟩)] [(4, (⟨[], [], []⟩, ⟨[4], [], []⟩))] (([(0, L60_1)] : List (Nat × LE)).map (·.2))
theorem ek60_1 : EOk (E60) (C60) Try.f60.ntmps (bodyL Try.f60 0) (L60_1) := eok_of (e := L60_1) (fun R x Kn k => s60_1 x.2.1 (fun v0 v1 => Kn (((), (), v0, ()), (x.2.1, v1, ()))) (k (.exit 0) ⟨[], []⟩) (fun y0 => k .ret ⟨[(4, (.own 0))], [(.arr (.int .i64) y0)]⟩) x.1.2.2.1 x.2.2.1) (fun _ _ _ => rfl) (fun _ _ _ _ => rfl) (fun R x Kn k => by kernel_rfl)
theorem lm60 : ∀ c, Try.f60.body = some c → LmOk (E60) (C60) Try.f60.ntmps c := lmOk_of (ps := [(0, L60_1)]) (by kernel_rfl) (by kernel_rfl) ⟨ek60_1, trivial⟩
noncomputable def m60 (a0 : T24) (a1 : (List Int)) : Option ((List Int)) :=
  asrt true (decide (List.length (α := Int) a1 ≤ LIM)) (
    l60_1 a0 (
        some []) (fun y6 =>
        some y6) FUEL (IntKind.i64.wrap ((List.length a1 : Int) - 1)) a1)
noncomputable def e60 : PmE := entry 60 [G24, (.sl (.int .i64))] false (.sl (.int .i64)) (fun x => m60 x.1 x.2.1)
theorem q60 (x : tyL [G24, (.sl (.int .i64))]) : execF E60 C60 Try.f60 (datL [G24, (.sl (.int .i64))] x) [] (retK false (.sl (.int .i64))) = m60 x.1 x.2.1 := by kernel_rfl
theorem p60 : PmOk Try.prog e60 := pm_ok (E := E60) ok60 ord lm60 Try.func60 ca60 q60

noncomputable def cK60 : CmE := konE 60 [G24, (.sl (.int .i64))] false (.sl (.int .i64)) (fun x => m60 x.1 x.2.1)
theorem dK60 : CmOk Try.prog cK60 := kon_ok p60

/-! 50: consol/consolref41.Least -/
theorem ca50 : callable Try.prog 50 := ⟨Try.f50, Try.func50, by kernel_rfl, by kernel_rfl⟩
noncomputable def E50 : Env := mkEnv2 Try.prog [e28, e60] []
theorem ok50 : EnvOk (E50) := mkEnv2_ok (by simp only [List.mem_cons, List.not_mem_nil, or_false, forall_eq_or_imp, forall_eq]; exact ⟨p28, p60⟩) (by simp)
/-- a round of a loop of consol/consolref41.Least -/
noncomputable def s50_1 {R : Type} (o0 : T24) (kn : Int → (List Int) → Option R) (k1 : Int → Option R) (t3 : Int) (t4 : (List Int)) : Option R :=
  bif (decide ((List.length t4 : Int) > 0)) then
    (m28 o0 t4).bind fun r1 =>
    cont (fun (k2 : Int → _) =>
      bif (r1.2.1 && ((decide (t3 < 0)) || (decide (r1.1 < t3)))) then
        k2 r1.1
      else
        k2 t3) fun y2 =>
    (m60 o0 t4).bind fun r3 =>
    kn y2 r3
  else
    k1 t3
noncomputable def l50_1 {R : Type} (o0 : T24) (k1 : Int → Option R) : Nat → Int → (List Int) → Option R
  | 0, _, _ => none
  | n + 1, t3, t4 => s50_1 o0 (l50_1 o0 k1 n) k1 t3 t4
noncomputable def L50_1 : LE := ⟨4, 0, ⟨[(1, (.box 0 [] 0)), (3, (.dat (.int .i64))), (4, (.dat (.sl (.int .i64))))], [(.box (.dat G24))]⟩, fun R n x k => l50_1 x.2.1 (fun y0 => k (.exit 0) ⟨[(3, (.dat (.int .i64) y0))], []⟩) n x.1.2.1 x.1.2.2.1⟩
noncomputable def C50 : Cfg := mkCfg [(4, ⟨[1, 3, 4], [], [(4, [], (.sl (.int .i64)))]⟩), (8, ⟨[1, 3, 4], [], []⟩)] [(4, (⟨[3], [], []⟩, ⟨[2], [], []⟩))] (([(0, L50_1)] : List (Nat × LE)).map (·.2)) [] [(7, [(4, [], (.sl (.int .i64)))])]
theorem ek50_1 : EOk (E50) (C50) Try.f50.ntmps (bodyL Try.f50 0) (L50_1) := eok_of (e := L50_1) (fun R x Kn k => s50_1 x.2.1 (fun v0 v1 => Kn (((), v0, v1, ()), (x.2.1, ()))) (fun y0 => k (.exit 0) ⟨[(3, (.dat (.int .i64) y0))], []⟩) x.1.2.1 x.1.2.2.1) (fun _ _ _ => rfl) (fun _ _ _ _ => rfl) (fun R x Kn k => by kernel_rfl)
theorem lm50 : ∀ c, Try.f50.body = some c → LmOk (E50) (C50) Try.f50.ntmps c := lmOk_of (ps := [(0, L50_1)]) (by kernel_rfl) (by kernel_rfl) ⟨ek50_1, trivial⟩
noncomputable def m50 (a0 : T24) : Option (Int) :=
  asrt true (decide (0 ≤ (List.length a0.1 : Int)) && decide ((List.length a0.1 : Int) ≤ (List.length a0.1 : Int)) && decide ((List.length a0.1 : Int) ≤ (LIM : Int))) (
    l50_1 a0 (fun y4 =>
        some y4) FUEL (-1) (List.replicate ((List.length a0.1 : Int) : Int).toNat 0))
noncomputable def e50 : PmE := entry 50 [G24] false (.int .i64) (fun x => m50 x.1)
theorem q50 (x : tyL [G24]) : execF E50 C50 Try.f50 (datL [G24] x) [] (retK false (.int .i64)) = m50 x.1 := by kernel_rfl
theorem p50 : PmOk Try.prog e50 := pm_ok (E := E50) ok50 ord lm50 Try.func50 ca50 q50

/-! 27: consol/consolref41.stays -/
theorem ca27 : callable Try.prog 27 := ⟨Try.f27, Try.func27, by kernel_rfl, by kernel_rfl⟩
noncomputable def E27 : Env := mkEnv2 Try.prog [e16, e28, e50] []
theorem ok27 : EnvOk (E27) := mkEnv2_ok (by simp only [List.mem_cons, List.not_mem_nil, or_false, forall_eq_or_imp, forall_eq]; exact ⟨p16, p28, p50⟩) (by simp)
noncomputable def C27 : Cfg := noCfg
theorem lm27 : ∀ c, Try.f27.body = some c → LmOk (E27) (C27) Try.f27.ntmps c := fun _ _ => noCfg_lm
noncomputable def m27 (a0 : T24) (a1 : Int) (a2 : Int) (a3 : Int) (a4 : Int) (a5 : (List Int)) : Option (Bool) :=
  (m16 a0 a1 a2 a3 a4).bind fun r1 =>
  (m28 r1 a5).bind fun r2 =>
  (bif (r2.2.1 == true) then (m50 r1) else some 0).bind fun r3 =>
  some (r2.2.1 && (r2.1 == r3))
noncomputable def e27 : PmE := entry 27 [G24, (.int .i64), (.int .i64), (.int .i64), (.int .i64), (.sl (.int .i64))] false .bool (fun x => m27 x.1 x.2.1 x.2.2.1 x.2.2.2.1 x.2.2.2.2.1 x.2.2.2.2.2.1)
theorem q27 (x : tyL [G24, (.int .i64), (.int .i64), (.int .i64), (.int .i64), (.sl (.int .i64))]) : execF E27 C27 Try.f27 (datL [G24, (.int .i64), (.int .i64), (.int .i64), (.int .i64), (.sl (.int .i64))] x) [] (retK false .bool) = m27 x.1 x.2.1 x.2.2.1 x.2.2.2.1 x.2.2.2.2.1 x.2.2.2.2.2.1 := by kernel_rfl
theorem p27 : PmOk Try.prog e27 := pm_ok (E := E27) ok27 ord lm27 Try.func27 ca27 q27

/-! 10: consol/consolref41.Span -/
theorem ca10 : callable Try.prog 10 := ⟨Try.f10, Try.func10, by kernel_rfl, by kernel_rfl⟩
noncomputable def E10 : Env := mkEnv2 Try.prog [e14, e25, e26, e27] []
theorem ok10 : EnvOk (E10) := mkEnv2_ok (by simp only [List.mem_cons, List.not_mem_nil, or_false, forall_eq_or_imp, forall_eq]; exact ⟨p14, p25, p26, p27⟩) (by simp)
/-- a round of a loop of consol/consolref41.Span -/
noncomputable def s10_1 {R : Type} (o0 : T24) (kn : Int → Int → Option R) (k1 : Int → Option R) (t11 : Int) (t12 : Int) : Option R :=
  bif ((decide (t12 < (List.length o0.1 : Int))) && (decide (t11 ≤ 100000))) then
    (idx o0.1 t12).bind fun x3 =>
    kn (IntKind.i64.wrap (t11 * (List.length x3 : Int))) (IntKind.i64.wrap (t12 + 1))
  else
    k1 t11
noncomputable def l10_1 {R : Type} (o0 : T24) (k1 : Int → Option R) : Nat → Int → Int → Option R
  | 0, _, _ => none
  | n + 1, t11, t12 => s10_1 o0 (l10_1 o0 k1 n) k1 t11 t12
noncomputable def L10_1 : LE := ⟨6, 0, ⟨[(1, (.dat (.int .i64))), (2, (.dat (.int .i64))), (3, (.dat (.int .i64))), (4, (.box 0 [] 0)), (11, (.dat (.int .i64))), (12, (.dat (.int .i64)))], [(.box (.dat G24))]⟩, fun R n x k => l10_1 x.2.1 (fun y0 => k (.exit 0) ⟨[(1, (.dat (.int .i64) x.1.1)), (2, (.dat (.int .i64) x.1.2.1)), (3, (.dat (.int .i64) x.1.2.2.1)), (4, (.box 0 [] 0)), (11, (.dat (.int .i64) y0))], [(.box (.dat G24 x.2.1))]⟩) n x.1.2.2.2.2.1 x.1.2.2.2.2.2.1⟩
/-- a round of a loop of consol/consolref41.Span -/
noncomputable def s10_2 {R : Type} (t1 : Int) (t2 : Int) (t3 : Int) (t13 : (List Int)) (o0 : T24) (kn : Int → Int → Option R) (k1 : Int → Option R) (t18 : Int) (t19 : Int) : Option R :=
  bif (decide (t18 < t19)) then
    (m27 o0 t1 t2 t3 (IntKind.i64.wrap (Int.tdiv (IntKind.i64.wrap (t18 + t19)) 2)) t13).bind fun r9 =>
    bif r9 then
      kn t18 (IntKind.i64.wrap (Int.tdiv (IntKind.i64.wrap (t18 + t19)) 2))
    else
      kn (IntKind.i64.wrap ((IntKind.i64.wrap (Int.tdiv (IntKind.i64.wrap (t18 + t19)) 2)) + 1)) t19
  else
    k1 t18
noncomputable def l10_2 {R : Type} (t1 : Int) (t2 : Int) (t3 : Int) (t13 : (List Int)) (o0 : T24) (k1 : Int → Option R) : Nat → Int → Int → Option R
  | 0, _, _ => none
  | n + 1, t18, t19 => s10_2 t1 t2 t3 t13 o0 (l10_2 t1 t2 t3 t13 o0 k1 n) k1 t18 t19
noncomputable def L10_2 : LE := ⟨17, 0, ⟨[(1, (.dat (.int .i64))), (2, (.dat (.int .i64))), (3, (.dat (.int .i64))), (4, (.box 0 [] 0)), (13, (.dat (.sl (.int .i64)))), (17, (.dat (.int .i64))), (18, (.dat (.int .i64))), (19, (.dat (.int .i64)))], [(.box (.dat G24))]⟩, fun R n x k => l10_2 x.1.1 x.1.2.1 x.1.2.2.1 x.1.2.2.2.2.1 x.2.1 (fun y0 => k (.exit 2) ⟨[(1, (.dat (.int .i64) x.1.1)), (2, (.dat (.int .i64) x.1.2.1)), (3, (.dat (.int .i64) x.1.2.2.1)), (4, (.box 0 [] 0)), (13, (.dat (.sl (.int .i64)) x.1.2.2.2.2.1)), (17, (.dat (.int .i64) x.1.2.2.2.2.2.1)), (18, (.dat (.int .i64) y0))], [(.box (.dat G24 x.2.1))]⟩) n x.1.2.2.2.2.2.2.1 x.1.2.2.2.2.2.2.2.1⟩
/-- a round of a loop of consol/consolref41.Span -/
noncomputable def s10_3 {R : Type} (t1 : Int) (t2 : Int) (t3 : Int) (t13 : (List Int)) (o0 : T24) (kn : Int → Int → Option R) (k1 : Int → Option R) (t18 : Int) (t19 : Int) : Option R :=
  bif (decide (t18 < t19)) then
    (m27 o0 t1 t2 t3 (IntKind.i64.wrap (Int.tdiv (IntKind.i64.wrap ((IntKind.i64.wrap (t18 + t19)) + 1)) 2)) t13).bind fun r11 =>
    bif r11 then
      kn (IntKind.i64.wrap (Int.tdiv (IntKind.i64.wrap ((IntKind.i64.wrap (t18 + t19)) + 1)) 2)) t19
    else
      kn t18 (IntKind.i64.wrap ((IntKind.i64.wrap (Int.tdiv (IntKind.i64.wrap ((IntKind.i64.wrap (t18 + t19)) + 1)) 2)) - 1))
  else
    k1 t18
noncomputable def l10_3 {R : Type} (t1 : Int) (t2 : Int) (t3 : Int) (t13 : (List Int)) (o0 : T24) (k1 : Int → Option R) : Nat → Int → Int → Option R
  | 0, _, _ => none
  | n + 1, t18, t19 => s10_3 t1 t2 t3 t13 o0 (l10_3 t1 t2 t3 t13 o0 k1 n) k1 t18 t19
noncomputable def L10_3 : LE := ⟨25, 0, ⟨[(1, (.dat (.int .i64))), (2, (.dat (.int .i64))), (3, (.dat (.int .i64))), (4, (.box 0 [] 0)), (13, (.dat (.sl (.int .i64)))), (18, (.dat (.int .i64))), (19, (.dat (.int .i64))), (21, (.dat (.int .i64)))], [(.box (.dat G24))]⟩, fun R n x k => l10_3 x.1.1 x.1.2.1 x.1.2.2.1 x.1.2.2.2.2.1 x.2.1 (fun y0 => k (.exit 4) ⟨[(18, (.dat (.int .i64) y0)), (21, (.dat (.int .i64) x.1.2.2.2.2.2.2.2.1))], []⟩) n x.1.2.2.2.2.2.1 x.1.2.2.2.2.2.2.1⟩
noncomputable def C10 : Cfg := mkCfg [(6, ⟨[1, 2, 3, 4, 11, 12], [], []⟩), (17, ⟨[1, 2, 3, 4, 13, 17, 18, 19], [], []⟩), (25, ⟨[1, 2, 3, 4, 13, 18, 19, 21], [], []⟩)] [(6, (⟨[1, 2, 3, 4, 11], [], []⟩, ⟨[8, 9, 10], [], []⟩)), (17, (⟨[1, 2, 3, 4, 13, 17, 18], [], []⟩, ⟨[8, 9, 10], [], []⟩)), (25, (⟨[18, 21], [], []⟩, ⟨[8, 9, 10], [], []⟩))] (([(0, L10_1), (1, L10_2), (2, L10_3)] : List (Nat × LE)).map (·.2))
theorem ek10_1 : EOk (E10) (C10) Try.f10.ntmps (bodyL Try.f10 0) (L10_1) := eok_of (e := L10_1) (fun R x Kn k => s10_1 x.2.1 (fun v0 v1 => Kn ((x.1.1, x.1.2.1, x.1.2.2.1, (), v0, v1, ()), (x.2.1, ()))) (fun y0 => k (.exit 0) ⟨[(1, (.dat (.int .i64) x.1.1)), (2, (.dat (.int .i64) x.1.2.1)), (3, (.dat (.int .i64) x.1.2.2.1)), (4, (.box 0 [] 0)), (11, (.dat (.int .i64) y0))], [(.box (.dat G24 x.2.1))]⟩) x.1.2.2.2.2.1 x.1.2.2.2.2.2.1) (fun _ _ _ => rfl) (fun _ _ _ _ => rfl) (fun R x Kn k => by kernel_rfl)
theorem ek10_2 : EOk (E10) (C10) Try.f10.ntmps (bodyL Try.f10 1) (L10_2) := eok_of (e := L10_2) (fun R x Kn k => s10_2 x.1.1 x.1.2.1 x.1.2.2.1 x.1.2.2.2.2.1 x.2.1 (fun v0 v1 => Kn ((x.1.1, x.1.2.1, x.1.2.2.1, (), x.1.2.2.2.2.1, x.1.2.2.2.2.2.1, v0, v1, ()), (x.2.1, ()))) (fun y0 => k (.exit 2) ⟨[(1, (.dat (.int .i64) x.1.1)), (2, (.dat (.int .i64) x.1.2.1)), (3, (.dat (.int .i64) x.1.2.2.1)), (4, (.box 0 [] 0)), (13, (.dat (.sl (.int .i64)) x.1.2.2.2.2.1)), (17, (.dat (.int .i64) x.1.2.2.2.2.2.1)), (18, (.dat (.int .i64) y0))], [(.box (.dat G24 x.2.1))]⟩) x.1.2.2.2.2.2.2.1 x.1.2.2.2.2.2.2.2.1) (fun _ _ _ => rfl) (fun _ _ _ _ => rfl) (fun R x Kn k => by kernel_rfl)
theorem ek10_3 : EOk (E10) (C10) Try.f10.ntmps (bodyL Try.f10 2) (L10_3) := eok_of (e := L10_3) (fun R x Kn k => s10_3 x.1.1 x.1.2.1 x.1.2.2.1 x.1.2.2.2.2.1 x.2.1 (fun v0 v1 => Kn ((x.1.1, x.1.2.1, x.1.2.2.1, (), x.1.2.2.2.2.1, v0, v1, x.1.2.2.2.2.2.2.2.1, ()), (x.2.1, ()))) (fun y0 => k (.exit 4) ⟨[(18, (.dat (.int .i64) y0)), (21, (.dat (.int .i64) x.1.2.2.2.2.2.2.2.1))], []⟩) x.1.2.2.2.2.2.1 x.1.2.2.2.2.2.2.1) (fun _ _ _ => rfl) (fun _ _ _ _ => rfl) (fun R x Kn k => by kernel_rfl)
theorem lm10 : ∀ c, Try.f10.body = some c → LmOk (E10) (C10) Try.f10.ntmps c := lmOk_of (ps := [(0, L10_1), (1, L10_2), (2, L10_3)]) (by kernel_rfl) (by kernel_rfl) ⟨ek10_1, ek10_2, ek10_3, trivial⟩
noncomputable def m10 (a0 : T24) (a1 : Int) (a2 : Int) (a3 : Int) : Option (T47) :=
  (m25 a0).bind fun r1 =>
  (bif ((!r1) == false) then (m14 a0 a1 a2 a3) else some false).bind fun r2 =>
  bif ((!r1) || (!r2)) then
    some (0, 0, 1, ())
  else
    l10_1 a0 (fun y4 =>
        bif (decide (y4 > 100000)) then
          some (0, 0, 6, ())
        else
          (m26 a0).bind fun r5 =>
          bif (r5.2.2.2.1 != 0) then
            some (0, 0, r5.2.2.2.1, ())
          else
            (idx a0.1 a1).bind fun x6 =>
            (idx x6 a2).bind fun x7 =>
            (idx x7.1 a3).bind fun x8 =>
            l10_2 a1 a2 a3 r5.1 a0 (fun y10 =>
                l10_3 a1 a2 a3 r5.1 a0 (fun y12 =>
                    some (y10, y12, 0, ())) FUEL x8 1000000000000000) FUEL 0 x8) FUEL 1 0
noncomputable def e10 : PmE := entry 10 [G24, (.int .i64), (.int .i64), (.int .i64)] true G47 (fun x => m10 x.1 x.2.1 x.2.2.1 x.2.2.2.1)
theorem q10 (x : tyL [G24, (.int .i64), (.int .i64), (.int .i64)]) : execF E10 C10 Try.f10 (datL [G24, (.int .i64), (.int .i64), (.int .i64)] x) [] (retK true G47) = m10 x.1 x.2.1 x.2.2.1 x.2.2.2.1 := by kernel_rfl
theorem p10 : PmOk Try.prog e10 := pm_ok (E := E10) ok10 ord lm10 Try.func10 ca10 q10

/-! 12: consol/consolref41.Stays -/
theorem ca12 : callable Try.prog 12 := ⟨Try.f12, Try.func12, by kernel_rfl, by kernel_rfl⟩
noncomputable def E12 : Env := mkEnv2 Try.prog [e26, e28] []
theorem ok12 : EnvOk (E12) := mkEnv2_ok (by simp only [List.mem_cons, List.not_mem_nil, or_false, forall_eq_or_imp, forall_eq]; exact ⟨p26, p28⟩) (by simp)
noncomputable def C12 : Cfg := noCfg
theorem lm12 : ∀ c, Try.f12.body = some c → LmOk (E12) (C12) Try.f12.ntmps c := fun _ _ => noCfg_lm
noncomputable def m12 (a0 : T24) (a1 : (List Int)) : Option (Bool) :=
  (m26 a0).bind fun r1 =>
  (m28 a0 a1).bind fun r2 =>
  some (((r1.2.2.2.1 == 0) && r2.2.1) && (r2.1 == r1.2.1))
noncomputable def e12 : PmE := entry 12 [G24, (.sl (.int .i64))] false .bool (fun x => m12 x.1 x.2.1)
theorem q12 (x : tyL [G24, (.sl (.int .i64))]) : execF E12 C12 Try.f12 (datL [G24, (.sl (.int .i64))] x) [] (retK false .bool) = m12 x.1 x.2.1 := by kernel_rfl
theorem p12 : PmOk Try.prog e12 := pm_ok (E := E12) ok12 ord lm12 Try.func12 ca12 q12

/-! 3: consol/consollaw41.MarginTells -/
theorem ca3 : callable Try.prog 3 := ⟨Try.f3, Try.func3, by kernel_rfl, by kernel_rfl⟩
noncomputable def E3 : Env := mkEnv2 Try.prog [e7, e8, e9, e10, e11, e12] []
theorem ok3 : EnvOk (E3) := mkEnv2_ok (by simp only [List.mem_cons, List.not_mem_nil, or_false, forall_eq_or_imp, forall_eq]; exact ⟨p7, p8, p9, p10, p11, p12⟩) (by simp)
noncomputable def C3 : Cfg := noCfg
theorem lm3 : ∀ c, Try.f3.body = some c → LmOk (E3) (C3) Try.f3.ntmps c := fun _ _ => noCfg_lm
noncomputable def m3 (a0 : T24) (a1 : Int) (a2 : Int) (a3 : Int) (a4 : (List Int)) : Option (Bool) :=
  (m7).bind fun r1 =>
  (m8 a0).bind fun r2 =>
  bif ((!r2) || (decide ((List.length a4 : Int) > 6))) then
    some r1
  else
    (m9 a0 a1 a2 a3).bind fun r3 =>
    (m10 a0 a1 a2 a3).bind fun r4 =>
    (bif ((((r1 && (r3.1 == r4.1)) && (r3.2.1 == r4.2.1)) && (r3.2.2.1 == r4.2.2.1)) == true) then (m11 a0 a4) else some false).bind fun r5 =>
    (bif ((((r1 && (r3.1 == r4.1)) && (r3.2.1 == r4.2.1)) && (r3.2.2.1 == r4.2.2.1)) == true) then (m12 a0 a4) else some false).bind fun r6 =>
    some ((((r1 && (r3.1 == r4.1)) && (r3.2.1 == r4.2.1)) && (r3.2.2.1 == r4.2.2.1)) && (r5 == r6))
noncomputable def e3 : PmE := entry 3 [G24, (.int .i64), (.int .i64), (.int .i64), (.sl (.int .i64))] false .bool (fun x => m3 x.1 x.2.1 x.2.2.1 x.2.2.2.1 x.2.2.2.2.1)
noncomputable def V3 (mo7 : Option (Bool)) : Env := mkEnv2 Try.prog [(entry 7 [] false .bool (fun _ => mo7)), e8, e9, e10, e11, e12] []
theorem qv3 (mo7 : Option (Bool)) (x : tyL [G24, (.int .i64), (.int .i64), (.int .i64), (.sl (.int .i64))]) : execF (V3 mo7) C3 Try.f3 (datL [G24, (.int .i64), (.int .i64), (.int .i64), (.sl (.int .i64))] x) [] (retK false .bool) = (fun (a0 : T24) (a1 : Int) (a2 : Int) (a3 : Int) (a4 : (List Int)) =>
  (mo7).bind fun r1 =>
  (m8 a0).bind fun r2 =>
  bif ((!r2) || (decide ((List.length a4 : Int) > 6))) then
    some r1
  else
    (m9 a0 a1 a2 a3).bind fun r3 =>
    (m10 a0 a1 a2 a3).bind fun r4 =>
    (bif ((((r1 && (r3.1 == r4.1)) && (r3.2.1 == r4.2.1)) && (r3.2.2.1 == r4.2.2.1)) == true) then (m11 a0 a4) else some false).bind fun r5 =>
    (bif ((((r1 && (r3.1 == r4.1)) && (r3.2.1 == r4.2.1)) && (r3.2.2.1 == r4.2.2.1)) == true) then (m12 a0 a4) else some false).bind fun r6 =>
    some ((((r1 && (r3.1 == r4.1)) && (r3.2.1 == r4.2.1)) && (r3.2.2.1 == r4.2.2.1)) && (r5 == r6))) x.1 x.2.1 x.2.2.1 x.2.2.2.1 x.2.2.2.2.1 := by kernel_rfl
theorem q3 (x : tyL [G24, (.int .i64), (.int .i64), (.int .i64), (.sl (.int .i64))]) : execF E3 C3 Try.f3 (datL [G24, (.int .i64), (.int .i64), (.int .i64), (.sl (.int .i64))] x) [] (retK false .bool) = m3 x.1 x.2.1 x.2.2.1 x.2.2.2.1 x.2.2.2.2.1 := qv3 m7 x
theorem p3 : PmOk Try.prog e3 := pm_ok (E := E3) ok3 ord lm3 Try.func3 ca3 q3

/-! 4: consol/consollaw41.MarginSpan -/
theorem ca4 : callable Try.prog 4 := ⟨Try.f4, Try.func4, by kernel_rfl, by kernel_rfl⟩
noncomputable def E4 : Env := mkEnv2 Try.prog [e7, e8, e9, e11, e13, e14, e15, e16, e17] []
theorem ok4 : EnvOk (E4) := mkEnv2_ok (by simp only [List.mem_cons, List.not_mem_nil, or_false, forall_eq_or_imp, forall_eq]; exact ⟨p7, p8, p9, p11, p13, p14, p15, p16, p17⟩) (by simp)
/-- a round of a loop of consol/consollaw41.MarginSpan -/
noncomputable def s4_1 {R : Type} (t1 : Int) (t2 : Int) (t3 : Int) (t12 : Int) (t13 : Int) (t15 : (List Int)) (o0 : T24) (o1 : (List Int)) (kn : Int → Option R) (k1 : Option R) (k2 : Option R) (t21 : Int) : Option R :=
  bif (decide (t21 < (List.length o1 : Int))) then
    cont (fun (k15 : Unit → _) =>
      asrt true (decide (0 ≤ t21) && decide (t21 < (List.length o1 : Int))) (
        ((o1)[(t21 : Int).toNat]?).bind fun x10 =>
        bif ((decide (x10 < 0)) || (decide (x10 > 1000000000000000))) then
          k15 ()
        else
          (m16 o0 t1 t2 t3 x10).bind fun r11 =>
          (m17 r11 t15).bind fun r12 =>
          (m15 r11).bind fun r13 =>
          (bif (((((!r12.2.1) || (r13.2.2.2.1 != 0)) || (decide (r12.1 < r13.2.1))) || (!((r12.1 == r13.2.1) == ((decide (x10 ≥ t12)) && (decide (x10 ≤ t13)))))) == false) then (m11 r11 t15) else some false).bind fun r14 =>
          bif (((((!r12.2.1) || (r13.2.2.2.1 != 0)) || (decide (r12.1 < r13.2.1))) || (!((r12.1 == r13.2.1) == ((decide (x10 ≥ t12)) && (decide (x10 ≤ t13)))))) || (!(r14 == ((decide (x10 ≥ t12)) && (decide (x10 ≤ t13)))))) then
            k2
          else
            k15 ())) fun _ =>
    kn (IntKind.i64.wrap (t21 + 1))
  else
    k1
noncomputable def l4_1 {R : Type} (t1 : Int) (t2 : Int) (t3 : Int) (t12 : Int) (t13 : Int) (t15 : (List Int)) (o0 : T24) (o1 : (List Int)) (k1 : Option R) (k2 : Option R) : Nat → Int → Option R
  | 0, _ => none
  | n + 1, t21 => s4_1 t1 t2 t3 t12 t13 t15 o0 o1 (l4_1 t1 t2 t3 t12 t13 t15 o0 o1 k1 k2 n) k1 k2 t21
noncomputable def L4_1 : LE := ⟨16, 0, ⟨[(1, (.dat (.int .i64))), (2, (.dat (.int .i64))), (3, (.dat (.int .i64))), (5, (.box 0 [] 0)), (11, (.dat .bool)), (12, (.dat (.int .i64))), (13, (.dat (.int .i64))), (15, (.dat (.sl (.int .i64)))), (20, (.own 1)), (21, (.dat (.int .i64)))], [(.box (.dat G24)), (.arr (.int .i64))]⟩, fun R n x k => l4_1 x.1.1 x.1.2.1 x.1.2.2.1 x.1.2.2.2.2.2.1 x.1.2.2.2.2.2.2.1 x.1.2.2.2.2.2.2.2.1 x.2.1 x.2.2.1 (k (.exit 0) ⟨[(11, (.dat .bool x.1.2.2.2.2.1))], []⟩) (k .ret ⟨[(10, (.dat .bool false))], []⟩) n x.1.2.2.2.2.2.2.2.2.2.1⟩
noncomputable def C4 : Cfg := mkCfg [(16, ⟨[1, 2, 3, 5, 11, 12, 13, 15, 20, 21], [], []⟩), (17, ⟨[1, 2, 3, 5, 11, 12, 13, 15, 20, 21], [], []⟩)] [(16, (⟨[11], [], []⟩, ⟨[10], [], []⟩))] (([(0, L4_1)] : List (Nat × LE)).map (·.2))
theorem ek4_1 : EOk (E4) (C4) Try.f4.ntmps (bodyL Try.f4 0) (L4_1) := eok_of (e := L4_1) (fun R x Kn k => s4_1 x.1.1 x.1.2.1 x.1.2.2.1 x.1.2.2.2.2.2.1 x.1.2.2.2.2.2.2.1 x.1.2.2.2.2.2.2.2.1 x.2.1 x.2.2.1 (fun v0 => Kn ((x.1.1, x.1.2.1, x.1.2.2.1, (), x.1.2.2.2.2.1, x.1.2.2.2.2.2.1, x.1.2.2.2.2.2.2.1, x.1.2.2.2.2.2.2.2.1, (), v0, ()), (x.2.1, x.2.2.1, ()))) (k (.exit 0) ⟨[(11, (.dat .bool x.1.2.2.2.2.1))], []⟩) (k .ret ⟨[(10, (.dat .bool false))], []⟩) x.1.2.2.2.2.2.2.2.2.2.1) (fun _ _ _ => rfl) (fun _ _ _ _ => rfl) (fun R x Kn k => by kernel_rfl)
theorem lm4 : ∀ c, Try.f4.body = some c → LmOk (E4) (C4) Try.f4.ntmps c := lmOk_of (ps := [(0, L4_1)]) (by kernel_rfl) (by kernel_rfl) ⟨ek4_1, trivial⟩
noncomputable def m4 (a0 : T24) (a1 : Int) (a2 : Int) (a3 : Int) (a4 : Int) : Option (Bool) :=
  (m7).bind fun r1 =>
  (m8 a0).bind fun r2 =>
  (bif ((!r2) == false) then (m13 a0) else some false).bind fun r3 =>
  (bif (((!r2) || (!r3)) == false) then (m14 a0 a1 a2 a3) else some false).bind fun r4 =>
  bif (((!r2) || (!r3)) || (!r4)) then
    some r1
  else
    (m9 a0 a1 a2 a3).bind fun r5 =>
    (m15 a0).bind fun r6 =>
    bif (r5.2.2.1 != r6.2.2.2.1) then
      some false
    else
      bif (r5.2.2.1 != 0) then
        some ((r1 && (r5.1 == 0)) && (r5.2.1 == 0))
      else
        (idx a0.1 a1).bind fun x7 =>
        (idx x7 a2).bind fun x8 =>
        (idx x8.1 a3).bind fun x9 =>
        bif ((((decide (x9 < r5.1)) || (decide (x9 > r5.2.1))) || (decide (r5.1 < 0))) || (decide (r5.2.1 > 1000000000000000))) then
          some false
        else
          l4_1 a1 a2 a3 r5.1 r5.2.1 r6.1 a0 [a4, (IntKind.i64.wrap (r5.1 - 1)), r5.1, r5.2.1, (IntKind.i64.wrap (r5.2.1 + 1)), x9, (IntKind.i64.wrap (Int.tdiv (IntKind.i64.wrap (r5.1 + r5.2.1)) 2))] (
              some r1) (
              some false) FUEL 0
noncomputable def e4 : PmE := entry 4 [G24, (.int .i64), (.int .i64), (.int .i64), (.int .i64)] false .bool (fun x => m4 x.1 x.2.1 x.2.2.1 x.2.2.2.1 x.2.2.2.2.1)
noncomputable def V4 (mo7 : Option (Bool)) : Env := mkEnv2 Try.prog [(entry 7 [] false .bool (fun _ => mo7)), e8, e9, e11, e13, e14, e15, e16, e17] []
theorem qv4 (mo7 : Option (Bool)) (x : tyL [G24, (.int .i64), (.int .i64), (.int .i64), (.int .i64)]) : execF (V4 mo7) C4 Try.f4 (datL [G24, (.int .i64), (.int .i64), (.int .i64), (.int .i64)] x) [] (retK false .bool) = (fun (a0 : T24) (a1 : Int) (a2 : Int) (a3 : Int) (a4 : Int) =>
  (mo7).bind fun r1 =>
  (m8 a0).bind fun r2 =>
  (bif ((!r2) == false) then (m13 a0) else some false).bind fun r3 =>
  (bif (((!r2) || (!r3)) == false) then (m14 a0 a1 a2 a3) else some false).bind fun r4 =>
  bif (((!r2) || (!r3)) || (!r4)) then
    some r1
  else
    (m9 a0 a1 a2 a3).bind fun r5 =>
    (m15 a0).bind fun r6 =>
    bif (r5.2.2.1 != r6.2.2.2.1) then
      some false
    else
      bif (r5.2.2.1 != 0) then
        some ((r1 && (r5.1 == 0)) && (r5.2.1 == 0))
      else
        (idx a0.1 a1).bind fun x7 =>
        (idx x7 a2).bind fun x8 =>
        (idx x8.1 a3).bind fun x9 =>
        bif ((((decide (x9 < r5.1)) || (decide (x9 > r5.2.1))) || (decide (r5.1 < 0))) || (decide (r5.2.1 > 1000000000000000))) then
          some false
        else
          l4_1 a1 a2 a3 r5.1 r5.2.1 r6.1 a0 [a4, (IntKind.i64.wrap (r5.1 - 1)), r5.1, r5.2.1, (IntKind.i64.wrap (r5.2.1 + 1)), x9, (IntKind.i64.wrap (Int.tdiv (IntKind.i64.wrap (r5.1 + r5.2.1)) 2))] (
              some r1) (
              some false) FUEL 0) x.1 x.2.1 x.2.2.1 x.2.2.2.1 x.2.2.2.2.1 := by kernel_rfl
theorem q4 (x : tyL [G24, (.int .i64), (.int .i64), (.int .i64), (.int .i64)]) : execF E4 C4 Try.f4 (datL [G24, (.int .i64), (.int .i64), (.int .i64), (.int .i64)] x) [] (retK false .bool) = m4 x.1 x.2.1 x.2.2.1 x.2.2.2.1 x.2.2.2.2.1 := qv4 m7 x
theorem p4 : PmOk Try.prog e4 := pm_ok (E := E4) ok4 ord lm4 Try.func4 ca4 q4

/-! 5: consol/consollaw41.MarginChosen -/
theorem ca5 : callable Try.prog 5 := ⟨Try.f5, Try.func5, by kernel_rfl, by kernel_rfl⟩
noncomputable def E5 : Env := mkEnv2 Try.prog [e7, e8, e9, e13, e14, e15, e16, e17] []
theorem ok5 : EnvOk (E5) := mkEnv2_ok (by simp only [List.mem_cons, List.not_mem_nil, or_false, forall_eq_or_imp, forall_eq]; exact ⟨p7, p8, p9, p13, p14, p15, p16, p17⟩) (by simp)
/-- a round of a loop of consol/consollaw41.MarginChosen -/
noncomputable def s5_1 {R : Type} (t1 : Int) (t2 : Int) (o0 : T24) (kn : Int → (List T37) → Option R) (k1 : (List T37) → Option R) (t18 : Int) (o1 : (List T37)) : Option R :=
  (idx o0.1 t1).bind fun x10 =>
  bif (decide (t18 < (List.length x10 : Int))) then
    cont (fun (k13 : (List T37) → _) =>
      bif (t18 != t2) then
        (idx o0.1 t1).bind fun x11 =>
        (idx x11 t18).bind fun x12 =>
        asrt true (decide (List.length (α := T37) o1 + List.length (α := T37) [x12] ≤ LIM)) (
          k13 (o1 ++ [x12]))
      else
        k13 o1) fun y13 =>
    kn (IntKind.i64.wrap (t18 + 1)) y13
  else
    k1 o1
noncomputable def l5_1 {R : Type} (t1 : Int) (t2 : Int) (o0 : T24) (k1 : (List T37) → Option R) : Nat → Int → (List T37) → Option R
  | 0, _, _ => none
  | n + 1, t18, o1 => s5_1 t1 t2 o0 (l5_1 t1 t2 o0 k1 n) k1 t18 o1
noncomputable def L5_1 : LE := ⟨17, 0, ⟨[(1, (.dat (.int .i64))), (2, (.dat (.int .i64))), (3, (.dat (.int .i64))), (4, (.box 0 [] 0)), (9, (.dat .bool)), (11, (.dat (.int .i64))), (13, (.dat (.sl (.int .i64)))), (17, (.own 1)), (18, (.dat (.int .i64)))], [(.box (.dat G24)), (.arr G37)]⟩, fun R n x k => l5_1 x.1.1 x.1.2.1 x.2.1 (fun y0 => k (.exit 0) ⟨[(1, (.dat (.int .i64) x.1.1)), (2, (.dat (.int .i64) x.1.2.1)), (3, (.dat (.int .i64) x.1.2.2.1)), (4, (.box 0 [] 0)), (9, (.dat .bool x.1.2.2.2.2.1)), (11, (.dat (.int .i64) x.1.2.2.2.2.2.1)), (13, (.dat (.sl (.int .i64)) x.1.2.2.2.2.2.2.1)), (17, (.own 1))], [(.box (.dat G24 x.2.1)), (.arr G37 y0)]⟩) n x.1.2.2.2.2.2.2.2.2.1 x.2.2.1⟩
/-- a round of a loop of consol/consollaw41.MarginChosen -/
noncomputable def s5_2 {R : Type} (t1 : Int) (t17 : (List T37)) (o0 : T24) (kn : Int → (List (List T37)) → Option R) (k1 : (List (List T37)) → Option R) (t20 : Int) (o2 : (List (List T37))) : Option R :=
  bif (decide (t20 < (List.length o0.1 : Int))) then
    cont (fun (k16 : (List (List T37)) → _) =>
      bif (t20 == t1) then
        asrt true (decide (List.length (α := (List T37)) o2 + List.length (α := (List T37)) [t17] ≤ LIM)) (
          k16 (o2 ++ [t17]))
      else
        (idx o0.1 t20).bind fun x15 =>
        asrt true (decide (List.length (α := (List T37)) o2 + List.length (α := (List T37)) [x15] ≤ LIM)) (
          k16 (o2 ++ [x15]))) fun y16 =>
    kn (IntKind.i64.wrap (t20 + 1)) y16
  else
    k1 o2
noncomputable def l5_2 {R : Type} (t1 : Int) (t17 : (List T37)) (o0 : T24) (k1 : (List (List T37)) → Option R) : Nat → Int → (List (List T37)) → Option R
  | 0, _, _ => none
  | n + 1, t20, o2 => s5_2 t1 t17 o0 (l5_2 t1 t17 o0 k1 n) k1 t20 o2
noncomputable def L5_2 : LE := ⟨25, 0, ⟨[(1, (.dat (.int .i64))), (2, (.dat (.int .i64))), (3, (.dat (.int .i64))), (4, (.box 0 [] 0)), (9, (.dat .bool)), (11, (.dat (.int .i64))), (13, (.dat (.sl (.int .i64)))), (17, (.dat (.sl G37))), (19, (.box 1 [] 0)), (20, (.dat (.int .i64)))], [(.box (.dat G24)), (.box (.agg (.scons (.own 2) (.scons (.dat (.sl (.int .i64))) .snil)))), (.arr (.sl G37))]⟩, fun R n x k => l5_2 x.1.1 x.1.2.2.2.2.2.2.2.1 x.2.1 (fun y0 => k (.exit 2) ⟨[(1, (.dat (.int .i64) x.1.1)), (2, (.dat (.int .i64) x.1.2.1)), (3, (.dat (.int .i64) x.1.2.2.1)), (4, (.box 0 [] 0)), (9, (.dat .bool x.1.2.2.2.2.1)), (11, (.dat (.int .i64) x.1.2.2.2.2.2.1)), (13, (.dat (.sl (.int .i64)) x.1.2.2.2.2.2.2.1)), (19, (.box 1 [] 0))], [(.box (.dat G24 x.2.1)), (.box (.agg (.scons (.own 2) (.scons (.dat (.sl (.int .i64)) x.2.2.1.2.1) .snil)))), (.arr (.sl G37) y0)]⟩) n x.1.2.2.2.2.2.2.2.2.2.1 x.2.2.2.1⟩
noncomputable def C5 : Cfg := mkCfg [(17, ⟨[1, 2, 3, 4, 9, 11, 13, 17, 18], [(17, [], G37)], []⟩), (18, ⟨[1, 2, 3, 4, 9, 11, 13, 17, 18], [(17, [], G37)], []⟩), (25, ⟨[1, 2, 3, 4, 9, 11, 13, 17, 19, 20], [(19, [0], (.sl G37))], []⟩), (26, ⟨[1, 2, 3, 4, 9, 11, 13, 17, 19, 20], [], []⟩)] [(17, (⟨[1, 2, 3, 4, 9, 11, 13, 17], [], []⟩, ⟨[8], [], []⟩)), (25, (⟨[1, 2, 3, 4, 9, 11, 13, 19], [], []⟩, ⟨[8], [], []⟩))] (([(0, L5_1), (1, L5_2)] : List (Nat × LE)).map (·.2)) [] [(23, [(17, [], (.sl G37))]), (29, [(19, [], G24)])]
theorem ek5_1 : EOk (E5) (C5) Try.f5.ntmps (bodyL Try.f5 0) (L5_1) := eok_of (e := L5_1) (fun R x Kn k => s5_1 x.1.1 x.1.2.1 x.2.1 (fun v0 v1 => Kn ((x.1.1, x.1.2.1, x.1.2.2.1, (), x.1.2.2.2.2.1, x.1.2.2.2.2.2.1, x.1.2.2.2.2.2.2.1, (), v0, ()), (x.2.1, v1, ()))) (fun y0 => k (.exit 0) ⟨[(1, (.dat (.int .i64) x.1.1)), (2, (.dat (.int .i64) x.1.2.1)), (3, (.dat (.int .i64) x.1.2.2.1)), (4, (.box 0 [] 0)), (9, (.dat .bool x.1.2.2.2.2.1)), (11, (.dat (.int .i64) x.1.2.2.2.2.2.1)), (13, (.dat (.sl (.int .i64)) x.1.2.2.2.2.2.2.1)), (17, (.own 1))], [(.box (.dat G24 x.2.1)), (.arr G37 y0)]⟩) x.1.2.2.2.2.2.2.2.2.1 x.2.2.1) (fun _ _ _ => rfl) (fun _ _ _ _ => rfl) (fun R x Kn k => by kernel_rfl)
theorem ek5_2 : EOk (E5) (C5) Try.f5.ntmps (bodyL Try.f5 1) (L5_2) := eok_of (e := L5_2) (fun R x Kn k => s5_2 x.1.1 x.1.2.2.2.2.2.2.2.1 x.2.1 (fun v0 v1 => Kn ((x.1.1, x.1.2.1, x.1.2.2.1, (), x.1.2.2.2.2.1, x.1.2.2.2.2.2.1, x.1.2.2.2.2.2.2.1, x.1.2.2.2.2.2.2.2.1, (), v0, ()), (x.2.1, ((), x.2.2.1.2.1, ()), v1, ()))) (fun y0 => k (.exit 2) ⟨[(1, (.dat (.int .i64) x.1.1)), (2, (.dat (.int .i64) x.1.2.1)), (3, (.dat (.int .i64) x.1.2.2.1)), (4, (.box 0 [] 0)), (9, (.dat .bool x.1.2.2.2.2.1)), (11, (.dat (.int .i64) x.1.2.2.2.2.2.1)), (13, (.dat (.sl (.int .i64)) x.1.2.2.2.2.2.2.1)), (19, (.box 1 [] 0))], [(.box (.dat G24 x.2.1)), (.box (.agg (.scons (.own 2) (.scons (.dat (.sl (.int .i64)) x.2.2.1.2.1) .snil)))), (.arr (.sl G37) y0)]⟩) x.1.2.2.2.2.2.2.2.2.2.1 x.2.2.2.1) (fun _ _ _ => rfl) (fun _ _ _ _ => rfl) (fun R x Kn k => by kernel_rfl)
theorem lm5 : ∀ c, Try.f5.body = some c → LmOk (E5) (C5) Try.f5.ntmps c := lmOk_of (ps := [(0, L5_1), (1, L5_2)]) (by kernel_rfl) (by kernel_rfl) ⟨ek5_1, ek5_2, trivial⟩
noncomputable def m5 (a0 : T24) (a1 : Int) (a2 : Int) (a3 : Int) : Option (Bool) :=
  (m7).bind fun r1 =>
  (m8 a0).bind fun r2 =>
  (bif ((!r2) == false) then (m13 a0) else some false).bind fun r3 =>
  (bif (((!r2) || (!r3)) == false) then (m14 a0 a1 a2 a3) else some false).bind fun r4 =>
  bif (((!r2) || (!r3)) || (!r4)) then
    some r1
  else
    (m9 a0 a1 a2 a3).bind fun r5 =>
    (m15 a0).bind fun r6 =>
    bif ((r5.2.2.1 != 0) || (r6.2.2.2.1 != 0)) then
      some (r1 && (r5.2.2.1 == r6.2.2.2.1))
    else
      bif ((List.length r6.1 : Int) != (List.length a0.1 : Int)) then
        some false
      else
        (idx r6.1 a1).bind fun x7 =>
        bif (x7 != a2) then
          some (r1 && (r5.2.1 == 1000000000000000))
        else
          (idx a0.1 a1).bind fun x8 =>
          (idx x8 a2).bind fun x9 =>
          bif (((List.length x9.1 : Int) == 1) && (r5.1 != 0)) then
            some false
          else
            l5_1 a1 a2 a0 (fun y14 =>
                bif ((List.length y14 : Int) == 0) then
                  some r1
                else
                  l5_2 a1 y14 a0 (fun y17 =>
                      (m15 (y17, a0.2.1, ())).bind fun r18 =>
                      bif (r18.2.2.2.1 != 0) then
                        some r1
                      else
                        (m16 a0 a1 a2 a3 r5.2.1).bind fun r19 =>
                        (m17 r19 r6.1).bind fun r20 =>
                        some ((r1 && r20.2.1) && (decide (r20.1 ≤ r18.2.1)))) FUEL 0 []) FUEL 0 []
noncomputable def e5 : PmE := entry 5 [G24, (.int .i64), (.int .i64), (.int .i64)] false .bool (fun x => m5 x.1 x.2.1 x.2.2.1 x.2.2.2.1)
noncomputable def V5 (mo7 : Option (Bool)) : Env := mkEnv2 Try.prog [(entry 7 [] false .bool (fun _ => mo7)), e8, e9, e13, e14, e15, e16, e17] []
theorem qv5 (mo7 : Option (Bool)) (x : tyL [G24, (.int .i64), (.int .i64), (.int .i64)]) : execF (V5 mo7) C5 Try.f5 (datL [G24, (.int .i64), (.int .i64), (.int .i64)] x) [] (retK false .bool) = (fun (a0 : T24) (a1 : Int) (a2 : Int) (a3 : Int) =>
  (mo7).bind fun r1 =>
  (m8 a0).bind fun r2 =>
  (bif ((!r2) == false) then (m13 a0) else some false).bind fun r3 =>
  (bif (((!r2) || (!r3)) == false) then (m14 a0 a1 a2 a3) else some false).bind fun r4 =>
  bif (((!r2) || (!r3)) || (!r4)) then
    some r1
  else
    (m9 a0 a1 a2 a3).bind fun r5 =>
    (m15 a0).bind fun r6 =>
    bif ((r5.2.2.1 != 0) || (r6.2.2.2.1 != 0)) then
      some (r1 && (r5.2.2.1 == r6.2.2.2.1))
    else
      bif ((List.length r6.1 : Int) != (List.length a0.1 : Int)) then
        some false
      else
        (idx r6.1 a1).bind fun x7 =>
        bif (x7 != a2) then
          some (r1 && (r5.2.1 == 1000000000000000))
        else
          (idx a0.1 a1).bind fun x8 =>
          (idx x8 a2).bind fun x9 =>
          bif (((List.length x9.1 : Int) == 1) && (r5.1 != 0)) then
            some false
          else
            l5_1 a1 a2 a0 (fun y14 =>
                bif ((List.length y14 : Int) == 0) then
                  some r1
                else
                  l5_2 a1 y14 a0 (fun y17 =>
                      (m15 (y17, a0.2.1, ())).bind fun r18 =>
                      bif (r18.2.2.2.1 != 0) then
                        some r1
                      else
                        (m16 a0 a1 a2 a3 r5.2.1).bind fun r19 =>
                        (m17 r19 r6.1).bind fun r20 =>
                        some ((r1 && r20.2.1) && (decide (r20.1 ≤ r18.2.1)))) FUEL 0 []) FUEL 0 []) x.1 x.2.1 x.2.2.1 x.2.2.2.1 := by kernel_rfl
theorem q5 (x : tyL [G24, (.int .i64), (.int .i64), (.int .i64)]) : execF E5 C5 Try.f5 (datL [G24, (.int .i64), (.int .i64), (.int .i64)] x) [] (retK false .bool) = m5 x.1 x.2.1 x.2.2.1 x.2.2.2.1 := qv5 m7 x
theorem p5 : PmOk Try.prog e5 := pm_ok (E := E5) ok5 ord lm5 Try.func5 ca5 q5

/-! 59: slices.Equal[[]int,int] -/
theorem ca59 : callable Try.prog 59 := ⟨Try.f59, Try.func59, by kernel_rfl, by kernel_rfl⟩
noncomputable def E59 : Env := mkEnv2 Try.prog [] []
theorem ok59 : EnvOk (E59) := mkEnv2_ok (by simp) (by simp)
/-- a round of a loop of slices.Equal[[]int,int] -/
noncomputable def s59_1 {R : Type} (t0 : (List Int)) (t1 : (List Int)) (t12 : Int) (kn : Int → Option R) (k1 : Option R) (k2 : Option R) (t13 : Int) : Option R :=
  bif (decide (t13 < t12)) then
    (idx t0 t13).bind fun x1 =>
    (idx t1 t13).bind fun x2 =>
    bif (x1 != x2) then
      k2
    else
      kn (IntKind.i64.wrap (t13 + 1))
  else
    k1
noncomputable def l59_1 {R : Type} (t0 : (List Int)) (t1 : (List Int)) (t12 : Int) (k1 : Option R) (k2 : Option R) : Nat → Int → Option R
  | 0, _ => none
  | n + 1, t13 => s59_1 t0 t1 t12 (l59_1 t0 t1 t12 k1 k2 n) k1 k2 t13
noncomputable def L59_1 : LE := ⟨5, 0, ⟨[(0, (.dat (.sl (.int .i64)))), (1, (.dat (.sl (.int .i64)))), (12, (.dat (.int .i64))), (13, (.dat (.int .i64)))], []⟩, fun R n x k => l59_1 x.1.1 x.1.2.1 x.1.2.2.1 (k (.exit 0) ⟨[], []⟩) (k .ret ⟨[(4, (.dat .bool false))], []⟩) n x.1.2.2.2.1⟩
noncomputable def C59 : Cfg := mkCfg [(5, ⟨[0, 1, 12, 13], [], []⟩)] [(5, (⟨[], [], []⟩, ⟨[4], [], []⟩))] (([(0, L59_1)] : List (Nat × LE)).map (·.2))
theorem ek59_1 : EOk (E59) (C59) Try.f59.ntmps (bodyL Try.f59 0) (L59_1) := eok_of (e := L59_1) (fun R x Kn k => s59_1 x.1.1 x.1.2.1 x.1.2.2.1 (fun v0 => Kn ((x.1.1, x.1.2.1, x.1.2.2.1, v0, ()), (()))) (k (.exit 0) ⟨[], []⟩) (k .ret ⟨[(4, (.dat .bool false))], []⟩) x.1.2.2.2.1) (fun _ _ _ => rfl) (fun _ _ _ _ => rfl) (fun R x Kn k => by kernel_rfl)
theorem lm59 : ∀ c, Try.f59.body = some c → LmOk (E59) (C59) Try.f59.ntmps c := lmOk_of (ps := [(0, L59_1)]) (by kernel_rfl) (by kernel_rfl) ⟨ek59_1, trivial⟩
noncomputable def m59 (a0 : (List Int)) (a1 : (List Int)) : Option (Bool) :=
  bif ((List.length a0 : Int) != (List.length a1 : Int)) then
    some false
  else
    l59_1 a0 a1 (List.length a0 : Int) (
        some true) (
        some false) FUEL 0
noncomputable def e59 : PmE := entry 59 [(.sl (.int .i64)), (.sl (.int .i64))] false .bool (fun x => m59 x.1 x.2.1)
theorem q59 (x : tyL [(.sl (.int .i64)), (.sl (.int .i64))]) : execF E59 C59 Try.f59 (datL [(.sl (.int .i64)), (.sl (.int .i64))] x) [] (retK false .bool) = m59 x.1 x.2.1 := by kernel_rfl
theorem p59 : PmOk Try.prog e59 := pm_ok (E := E59) ok59 ord lm59 Try.func59 ca59 q59

/-! 42: consol/plan.covers -/
theorem ca42 : callable Try.prog 42 := ⟨Try.f42, Try.func42, by kernel_rfl, by kernel_rfl⟩
def F42i : ShS := ⟨[(0, (.box 0 [] 0)), (1, (.dat (.sl (.int .i64)))), (2, (.dat (.int .i64))), (3, (.dat (.sl G37)))], [(.box (.agg (.scons (.dat G24) (.scons (.dat (.sl (.sl (.int .i64)))) (.scons (.own 1) (.scons (.own 2) .snil)))))), (.arr (.int .i64)), (.arr (.int .i64))]⟩
def F42o : ShS := ⟨[(0, (.tup (.scons (.dat (.sl G37)) (.scons (.dat .bool) .snil))))], [(.box (.agg (.scons (.dat G24) (.scons (.dat (.sl (.sl (.int .i64)))) (.scons (.own 1) (.scons (.own 2) .snil)))))), (.arr (.int .i64)), (.arr (.int .i64))]⟩
noncomputable def cS42 (mr : (List Int) → Int → (List T37) → T24 → (List (List Int)) → (List Int) → (List Int) → Option F42o.ty) : CmE := stE 42 [(1, [], (.sl (.int .i64)))] [] F42i F42o (fun x => mr x.1.2.1 x.1.2.2.1 x.1.2.2.2.1 x.2.1.1 x.2.1.2.1 x.2.2.1 x.2.2.2.1)
noncomputable def E42i40 : Env := mkEnv2 Try.prog [] []
theorem ok42i40 : EnvOk (E42i40) := mkEnv2_ok (by simp) (by simp)
/-- a round of a loop of (*consol/plan.state).step -/
noncomputable def s42_1 {R : Type} (t1 : Int) (t3 : Int) (t23 : (List Int)) (t24 : Int) (o0_2 : (List (List Int))) (kn : Int → (List Int) → Option R) (k1 : (List Int) → Option R) (t25 : Int) (o1 : (List Int)) : Option R :=
  bif (decide (t25 < t24)) then
    (idx t23 t25).bind fun x10 =>
    asrt true (decide (0 ≤ t25) && decide (t25 < (List.length o1 : Int))) (
      ((o1)[(t25 : Int).toNat]?).bind fun x11 =>
      (idx o0_2 t1).bind fun x12 =>
      (idx x12 t25).bind fun x13 =>
      asrt true (decide (0 ≤ t25) && decide (t25 < (List.length o1 : Int))) (
        ((o1)[(t25 : Int).toNat]?).bind fun x14 =>
        kn (IntKind.i64.wrap (t25 + 1)) (List.set o1 (t25 : Int).toNat (IntKind.i64.wrap (x11 + (IntKind.i64.wrap (t3 * (IntKind.i64.wrap (x10 - x13)))))))))
  else
    k1 o1
noncomputable def l42_1 {R : Type} (t1 : Int) (t3 : Int) (t23 : (List Int)) (t24 : Int) (o0_2 : (List (List Int))) (k1 : (List Int) → Option R) : Nat → Int → (List Int) → Option R
  | 0, _, _ => none
  | n + 1, t25, o1 => s42_1 t1 t3 t23 t24 o0_2 (l42_1 t1 t3 t23 t24 o0_2 k1 n) k1 t25 o1
noncomputable def L42_1 : LE := ⟨3, 3, ⟨[(0, (.box 0 [] 0)), (1, (.dat (.int .i64))), (3, (.dat (.int .i64))), (8, (.box 3 [] 0)), (23, (.dat (.sl (.int .i64)))), (24, (.dat (.int .i64))), (25, (.dat (.int .i64)))], [(.box (.agg (.scons (.dat G24) (.scons (.dat (.sl (.sl (.int .i64)))) (.scons (.own 1) (.scons (.own 2) .snil)))))), (.arr (.int .i64)), (.arr (.int .i64)), (.box (.dat G37))]⟩, fun R n x k => l42_1 x.1.2.1 x.1.2.2.1 x.1.2.2.2.2.1 x.1.2.2.2.2.2.1 x.2.1.2.1 (fun y0 => k (.exit 0) ⟨[(0, (.box 0 [] 0)), (3, (.dat (.int .i64) x.1.2.2.1)), (8, (.box 3 [] 0))], [(.box (.agg (.scons (.dat G24 x.2.1.1) (.scons (.dat (.sl (.sl (.int .i64))) x.2.1.2.1) (.scons (.own 1) (.scons (.own 2) .snil)))))), (.arr (.int .i64) y0), (.arr (.int .i64) x.2.2.2.1), (.box (.dat G37 x.2.2.2.2.1))]⟩) n x.1.2.2.2.2.2.2.1 x.2.2.1⟩
/-- a round of a loop of (*consol/plan.state).step -/
noncomputable def s42_2 {R : Type} (t1 : Int) (t3 : Int) (t23 : (List Int)) (t24 : Int) (o0_2 : (List (List Int))) (kn : Int → (List Int) → Option R) (k1 : (List Int) → Option R) (t25 : Int) (o1 : (List Int)) : Option R :=
  bif (decide (t25 < t24)) then
    (idx t23 t25).bind fun x22 =>
    asrt true (decide (0 ≤ t25) && decide (t25 < (List.length o1 : Int))) (
      ((o1)[(t25 : Int).toNat]?).bind fun x23 =>
      (idx o0_2 t1).bind fun x24 =>
      (idx x24 t25).bind fun x25 =>
      asrt true (decide (0 ≤ t25) && decide (t25 < (List.length o1 : Int))) (
        ((o1)[(t25 : Int).toNat]?).bind fun x26 =>
        kn (IntKind.i64.wrap (t25 + 1)) (List.set o1 (t25 : Int).toNat (IntKind.i64.wrap (x23 + (IntKind.i64.wrap (t3 * (IntKind.i64.wrap (x22 - x25)))))))))
  else
    k1 o1
noncomputable def l42_2 {R : Type} (t1 : Int) (t3 : Int) (t23 : (List Int)) (t24 : Int) (o0_2 : (List (List Int))) (k1 : (List Int) → Option R) : Nat → Int → (List Int) → Option R
  | 0, _, _ => none
  | n + 1, t25, o1 => s42_2 t1 t3 t23 t24 o0_2 (l42_2 t1 t3 t23 t24 o0_2 k1 n) k1 t25 o1
noncomputable def L42_2 : LE := ⟨3, 7, ⟨[(0, (.box 0 [] 0)), (1, (.dat (.int .i64))), (3, (.dat (.int .i64))), (8, (.box 7 [] 0)), (23, (.dat (.sl (.int .i64)))), (24, (.dat (.int .i64))), (25, (.dat (.int .i64)))], [(.box (.agg (.scons (.dat G24) (.scons (.dat (.sl (.sl (.int .i64)))) (.scons (.own 1) (.scons (.own 2) .snil)))))), (.arr (.int .i64)), (.arr (.int .i64)), .dead, .dead, .dead, .dead, (.box (.dat G37))]⟩, fun R n x k => l42_2 x.1.2.1 x.1.2.2.1 x.1.2.2.2.2.1 x.1.2.2.2.2.2.1 x.2.1.2.1 (fun y0 => k (.exit 0) ⟨[(0, (.box 0 [] 0)), (3, (.dat (.int .i64) x.1.2.2.1)), (8, (.box 7 [] 0))], [(.box (.agg (.scons (.dat G24 x.2.1.1) (.scons (.dat (.sl (.sl (.int .i64))) x.2.1.2.1) (.scons (.own 1) (.scons (.own 2) .snil)))))), (.arr (.int .i64) y0), (.arr (.int .i64) x.2.2.2.1), .dead, .dead, .dead, .dead, (.box (.dat G37 x.2.2.2.2.2.2.2.2.1))]⟩) n x.1.2.2.2.2.2.2.1 x.2.2.1⟩
noncomputable def C42i40 : Cfg := mkCfg [(3, ⟨[0, 1, 3, 8, 23, 24, 25], [], []⟩)] [(3, (⟨[0, 3, 8], [], []⟩, ⟨[], [], []⟩))] (([(0, L42_1), (0, L42_2)] : List (Nat × LE)).map (·.2))
theorem ek42_1 : EOk (E42i40) (C42i40) Try.f40.ntmps (bodyL Try.f40 0) (L42_1) := eok_of (e := L42_1) (fun R x Kn k => s42_1 x.1.2.1 x.1.2.2.1 x.1.2.2.2.2.1 x.1.2.2.2.2.2.1 x.2.1.2.1 (fun v0 v1 => Kn (((), x.1.2.1, x.1.2.2.1, (), x.1.2.2.2.2.1, x.1.2.2.2.2.2.1, v0, ()), ((x.2.1.1, x.2.1.2.1, (), (), ()), v1, x.2.2.2.1, x.2.2.2.2.1, ()))) (fun y0 => k (.exit 0) ⟨[(0, (.box 0 [] 0)), (3, (.dat (.int .i64) x.1.2.2.1)), (8, (.box 3 [] 0))], [(.box (.agg (.scons (.dat G24 x.2.1.1) (.scons (.dat (.sl (.sl (.int .i64))) x.2.1.2.1) (.scons (.own 1) (.scons (.own 2) .snil)))))), (.arr (.int .i64) y0), (.arr (.int .i64) x.2.2.2.1), (.box (.dat G37 x.2.2.2.2.1))]⟩) x.1.2.2.2.2.2.2.1 x.2.2.1) (fun _ _ _ => rfl) (fun _ _ _ _ => rfl) (fun R x Kn k => by kernel_rfl)
theorem ek42_2 : EOk (E42i40) (C42i40) Try.f40.ntmps (bodyL Try.f40 0) (L42_2) := eok_of (e := L42_2) (fun R x Kn k => s42_2 x.1.2.1 x.1.2.2.1 x.1.2.2.2.2.1 x.1.2.2.2.2.2.1 x.2.1.2.1 (fun v0 v1 => Kn (((), x.1.2.1, x.1.2.2.1, (), x.1.2.2.2.2.1, x.1.2.2.2.2.2.1, v0, ()), ((x.2.1.1, x.2.1.2.1, (), (), ()), v1, x.2.2.2.1, (), (), (), (), x.2.2.2.2.2.2.2.2.1, ()))) (fun y0 => k (.exit 0) ⟨[(0, (.box 0 [] 0)), (3, (.dat (.int .i64) x.1.2.2.1)), (8, (.box 7 [] 0))], [(.box (.agg (.scons (.dat G24 x.2.1.1) (.scons (.dat (.sl (.sl (.int .i64))) x.2.1.2.1) (.scons (.own 1) (.scons (.own 2) .snil)))))), (.arr (.int .i64) y0), (.arr (.int .i64) x.2.2.2.1), .dead, .dead, .dead, .dead, (.box (.dat G37 x.2.2.2.2.2.2.2.2.1))]⟩) x.1.2.2.2.2.2.2.1 x.2.2.1) (fun _ _ _ => rfl) (fun _ _ _ _ => rfl) (fun R x Kn k => by kernel_rfl)
theorem lm42i40 : ∀ c, Try.f40.body = some c → LmOk (E42i40) (C42i40) Try.f40.ntmps c := lmOk_of (ps := [(0, L42_1), (0, L42_2)]) (by kernel_rfl) (by kernel_rfl) ⟨ek42_1, ek42_2, trivial⟩
noncomputable def c42i40 : CmE := inl E42i40 C42i40 40 Try.f40
theorem d42i40 : CmOk Try.prog c42i40 := inl_ok (E := E42i40) ok42i40 ord lm42i40 Try.func40 ca40

noncomputable def E42 (mr : (List Int) → Int → (List T37) → T24 → (List (List Int)) → (List Int) → (List Int) → Option F42o.ty) : Env := mkEnv2 Try.prog [e30, e38, e59] [c39, c42i40, cS42 mr]
theorem ok42 (mr : (List Int) → Int → (List T37) → T24 → (List (List Int)) → (List Int) → (List Int) → Option F42o.ty) (hmr : CmOk Try.prog (cS42 mr)) : EnvOk (E42 mr) := mkEnv2_ok (by simp only [List.mem_cons, List.not_mem_nil, or_false, forall_eq_or_imp, forall_eq]; exact ⟨p30, p38, p59⟩) (by simp only [List.mem_cons, List.not_mem_nil, or_false, forall_eq_or_imp, forall_eq]; exact ⟨d39, d42i40, hmr⟩)
/-- a round of a loop of consol/plan.covers -/
noncomputable def s42_3 {R : Type} (mr : (List Int) → Int → (List T37) → T24 → (List (List Int)) → (List Int) → (List Int) → Option F42o.ty) (t1 : (List Int)) (t2 : Int) (t11 : Int) (t91 : Int) (kn : (List T37) → Int → T24 → (List (List Int)) → (List Int) → (List Int) → Option R) (k1 : (List T37) → T24 → (List (List Int)) → (List Int) → (List Int) → Option R) (k2 : T24 → (List (List Int)) → (List Int) → (List Int) → Option R) (t3 : (List T37)) (t92 : Int) (o0 : T24) (o0_2 : (List (List Int))) (o1 : (List Int)) (o2 : (List Int)) : Option R :=
  bif (decide (t92 < t91)) then
    (idx o0.1 t11).bind fun x8 =>
    (idx x8 t92).bind fun x9 =>
    l42_1 t11 1 x9.1 (List.length x9.1 : Int) o0_2 (fun y15 =>
        bif (decide (x9.2.1 ≥ 0)) then
          asrt true (decide (0 ≤ x9.2.1) && decide (x9.2.1 < (List.length o2 : Int))) (
            ((o2)[(x9.2.1 : Int).toNat]?).bind fun x16 =>
            asrt true (decide (0 ≤ x9.2.1) && decide (x9.2.1 < (List.length o2 : Int))) (
              ((o2)[(x9.2.1 : Int).toNat]?).bind fun x17 =>
              (cloneM t1).bind fun r18 =>
              asrt true (decide (List.length (α := Int) r18 + List.length (α := Int) [t92] ≤ LIM)) (
                (mr (r18 ++ [t92]) t2 t3 o0 o0_2 y15 (List.set o2 (x9.2.1 : Int).toNat (IntKind.i64.wrap (x16 + (IntKind.i64.wrap (1 * x9.2.2.1)))))).bind fun r19 =>
                (idx r19.2.1.1.1 t11).bind fun x20 =>
                (idx x20 t92).bind fun x21 =>
                l42_2 t11 (-1) x21.1 (List.length x21.1 : Int) r19.2.1.2.1 (fun y27 =>
                    bif (decide (x21.2.1 ≥ 0)) then
                      asrt true (decide (0 ≤ x21.2.1) && decide (x21.2.1 < (List.length r19.2.2.2.1 : Int))) (
                        ((r19.2.2.2.1)[(x21.2.1 : Int).toNat]?).bind fun x28 =>
                        asrt true (decide (0 ≤ x21.2.1) && decide (x21.2.1 < (List.length r19.2.2.2.1 : Int))) (
                          ((r19.2.2.2.1)[(x21.2.1 : Int).toNat]?).bind fun x29 =>
                          bif (!r19.1.1.2.1) then
                            k2 r19.2.1.1 r19.2.1.2.1 y27 (List.set r19.2.2.2.1 (x21.2.1 : Int).toNat (IntKind.i64.wrap (x28 + (IntKind.i64.wrap ((-1) * x21.2.2.1)))))
                          else
                            kn r19.1.1.1 (IntKind.i64.wrap (t92 + 1)) r19.2.1.1 r19.2.1.2.1 y27 (List.set r19.2.2.2.1 (x21.2.1 : Int).toNat (IntKind.i64.wrap (x28 + (IntKind.i64.wrap ((-1) * x21.2.2.1)))))))
                    else
                      bif (!r19.1.1.2.1) then
                        k2 r19.2.1.1 r19.2.1.2.1 y27 r19.2.2.2.1
                      else
                        kn r19.1.1.1 (IntKind.i64.wrap (t92 + 1)) r19.2.1.1 r19.2.1.2.1 y27 r19.2.2.2.1) FUEL 0 r19.2.2.1)))
        else
          (cloneM t1).bind fun r30 =>
          asrt true (decide (List.length (α := Int) r30 + List.length (α := Int) [t92] ≤ LIM)) (
            (mr (r30 ++ [t92]) t2 t3 o0 o0_2 y15 o2).bind fun r31 =>
            (idx r31.2.1.1.1 t11).bind fun x32 =>
            (idx x32 t92).bind fun x33 =>
            l42_2 t11 (-1) x33.1 (List.length x33.1 : Int) r31.2.1.2.1 (fun y34 =>
                bif (decide (x33.2.1 ≥ 0)) then
                  asrt true (decide (0 ≤ x33.2.1) && decide (x33.2.1 < (List.length r31.2.2.2.1 : Int))) (
                    ((r31.2.2.2.1)[(x33.2.1 : Int).toNat]?).bind fun x35 =>
                    asrt true (decide (0 ≤ x33.2.1) && decide (x33.2.1 < (List.length r31.2.2.2.1 : Int))) (
                      ((r31.2.2.2.1)[(x33.2.1 : Int).toNat]?).bind fun x36 =>
                      bif (!r31.1.1.2.1) then
                        k2 r31.2.1.1 r31.2.1.2.1 y34 (List.set r31.2.2.2.1 (x33.2.1 : Int).toNat (IntKind.i64.wrap (x35 + (IntKind.i64.wrap ((-1) * x33.2.2.1)))))
                      else
                        kn r31.1.1.1 (IntKind.i64.wrap (t92 + 1)) r31.2.1.1 r31.2.1.2.1 y34 (List.set r31.2.2.2.1 (x33.2.1 : Int).toNat (IntKind.i64.wrap (x35 + (IntKind.i64.wrap ((-1) * x33.2.2.1)))))))
                else
                  bif (!r31.1.1.2.1) then
                    k2 r31.2.1.1 r31.2.1.2.1 y34 r31.2.2.2.1
                  else
                    kn r31.1.1.1 (IntKind.i64.wrap (t92 + 1)) r31.2.1.1 r31.2.1.2.1 y34 r31.2.2.2.1) FUEL 0 r31.2.2.1)) FUEL 0 o1
  else
    k1 t3 o0 o0_2 o1 o2
noncomputable def l42_3 {R : Type} (mr : (List Int) → Int → (List T37) → T24 → (List (List Int)) → (List Int) → (List Int) → Option F42o.ty) (t1 : (List Int)) (t2 : Int) (t11 : Int) (t91 : Int) (k1 : (List T37) → T24 → (List (List Int)) → (List Int) → (List Int) → Option R) (k2 : T24 → (List (List Int)) → (List Int) → (List Int) → Option R) : Nat → (List T37) → Int → T24 → (List (List Int)) → (List Int) → (List Int) → Option R
  | 0, _, _, _, _, _, _ => none
  | n + 1, t3, t92, o0, o0_2, o1, o2 => s42_3 mr t1 t2 t11 t91 (l42_3 mr t1 t2 t11 t91 k1 k2 n) k1 k2 t3 t92 o0 o0_2 o1 o2
noncomputable def L42_3 (mr : (List Int) → Int → (List T37) → T24 → (List (List Int)) → (List Int) → (List Int) → Option F42o.ty) : LE := ⟨13, 3, ⟨[(0, (.box 0 [] 0)), (1, (.dat (.sl (.int .i64)))), (2, (.dat (.int .i64))), (3, (.dat (.sl G37))), (11, (.dat (.int .i64))), (91, (.dat (.int .i64))), (92, (.dat (.int .i64)))], [(.box (.agg (.scons (.dat G24) (.scons (.dat (.sl (.sl (.int .i64)))) (.scons (.own 1) (.scons (.own 2) .snil)))))), (.arr (.int .i64)), (.arr (.int .i64))]⟩, fun R n x k => l42_3 mr x.1.2.1 x.1.2.2.1 x.1.2.2.2.2.1 x.1.2.2.2.2.2.1 (fun y0 y1 y2 y3 y4 => k (.exit 0) ⟨[(3, (.dat (.sl G37) y0))], [(.box (.agg (.scons (.dat G24 y1) (.scons (.dat (.sl (.sl (.int .i64))) y2) (.scons (.own 1) (.scons (.own 2) .snil)))))), (.arr (.int .i64) y3), (.arr (.int .i64) y4)]⟩) (fun y0 y1 y2 y3 => k .ret ⟨[(8, .nils), (9, (.dat .bool false))], [(.box (.agg (.scons (.dat G24 y0) (.scons (.dat (.sl (.sl (.int .i64))) y1) (.scons (.own 1) (.scons (.own 2) .snil)))))), (.arr (.int .i64) y2), (.arr (.int .i64) y3)]⟩) n x.1.2.2.2.1 x.1.2.2.2.2.2.2.1 x.2.1.1 x.2.1.2.1 x.2.2.1 x.2.2.2.1⟩
noncomputable def C42 (mr : (List Int) → Int → (List T37) → T24 → (List (List Int)) → (List Int) → (List Int) → Option F42o.ty) : Cfg := mkCfg [(13, ⟨[0, 1, 2, 3, 11, 91, 92], [], []⟩)] [(13, (⟨[3], [], []⟩, ⟨[8, 9], [], []⟩))] (([(0, L42_3 mr)] : List (Nat × LE)).map (·.2))
theorem ek42_3 (mr : (List Int) → Int → (List T37) → T24 → (List (List Int)) → (List Int) → (List Int) → Option F42o.ty) : EOk (E42 mr) (C42 mr) Try.f42.ntmps (bodyL Try.f42 0) (L42_3 mr) := eok_of (e := L42_3 mr) (fun R x Kn k => s42_3 mr x.1.2.1 x.1.2.2.1 x.1.2.2.2.2.1 x.1.2.2.2.2.2.1 (fun v0 v1 v2 v3 v4 v5 => Kn (((), x.1.2.1, x.1.2.2.1, v0, x.1.2.2.2.2.1, x.1.2.2.2.2.2.1, v1, ()), ((v2, v3, (), (), ()), v4, v5, ()))) (fun y0 y1 y2 y3 y4 => k (.exit 0) ⟨[(3, (.dat (.sl G37) y0))], [(.box (.agg (.scons (.dat G24 y1) (.scons (.dat (.sl (.sl (.int .i64))) y2) (.scons (.own 1) (.scons (.own 2) .snil)))))), (.arr (.int .i64) y3), (.arr (.int .i64) y4)]⟩) (fun y0 y1 y2 y3 => k .ret ⟨[(8, .nils), (9, (.dat .bool false))], [(.box (.agg (.scons (.dat G24 y0) (.scons (.dat (.sl (.sl (.int .i64))) y1) (.scons (.own 1) (.scons (.own 2) .snil)))))), (.arr (.int .i64) y2), (.arr (.int .i64) y3)]⟩) x.1.2.2.2.1 x.1.2.2.2.2.2.2.1 x.2.1.1 x.2.1.2.1 x.2.2.1 x.2.2.2.1) (fun _ _ _ => rfl) (fun _ _ _ _ => rfl) (fun R x Kn k => by kernel_rfl)
theorem lm42 (mr : (List Int) → Int → (List T37) → T24 → (List (List Int)) → (List Int) → (List Int) → Option F42o.ty) : ∀ c, Try.f42.body = some c → LmOk (E42 mr) (C42 mr) Try.f42.ntmps c := lmOk_of (ps := [(0, L42_3 mr)]) (by kernel_rfl) (by kernel_rfl) ⟨ek42_3 mr, trivial⟩
noncomputable def M42 (mr : (List Int) → Int → (List T37) → T24 → (List (List Int)) → (List Int) → (List Int) → Option F42o.ty) (a0 : (List Int)) (a1 : Int) (a2 : (List T37)) (a3 : T24) (a4 : (List (List Int))) (a5 : (List Int)) (a6 : (List Int)) : Option F42o.ty :=
  bif ((List.length a2 : Int) == 0) then
    some ((([], false, ()), ()), ((a3, a4, (), (), ()), a5, a6, ()))
  else
    (idx a2 0).bind fun x1 =>
    (m59 x1.1 a0).bind fun r2 =>
    bif r2 then
      bif (x1.2.2.1 == (-1)) then
        asrt true (bounds true (List.length a2) 1 (List.length a2 : Int)) (
          (m38 (a3, a4, a5, a6, ())).bind fun r3 =>
          some ((((subl a2 1 (List.length a2 : Int)), ((decide (x1.2.1 ≤ r3)) && (decide (x1.2.1 ≥ a1))), ()), ()), ((a3, a4, (), (), ()), a5, a6, ())))
      else
        asrt true (bounds true (List.length a2) 1 (List.length a2 : Int)) (
          (m30 0 (IntKind.i64.wrap ((List.length a6 : Int) - 1)) [x1.2.2.1]).bind fun r4 =>
          asrt (r4 == true) (decide (0 ≤ x1.2.2.1) && decide (x1.2.2.1 < (List.length a6 : Int))) (
            ((bif (r4 == true) then (a6)[(x1.2.2.1 : Int).toNat]? else some 0)).bind fun x5 =>
            (idxG (r4 == true) 0 a3.2.1 x1.2.2.1).bind fun x6 =>
            some ((((subl a2 1 (List.length a2 : Int)), (r4 && (decide (x5 > x6))), ()), ()), ((a3, a4, (), (), ()), a5, a6, ()))))
    else
      bif ((List.length a0 : Int) == (List.length a3.1 : Int)) then
        some ((([], false, ()), ()), ((a3, a4, (), (), ()), a5, a6, ()))
      else
        (idx a3.1 (List.length a0 : Int)).bind fun x7 =>
        l42_3 mr a0 a1 (List.length a0 : Int) (List.length x7 : Int) (fun y37 y38 y39 y40 y41 =>
            some (((y37, true, ()), ()), ((y38, y39, (), (), ()), y40, y41, ()))) (fun y42 y43 y44 y45 =>
            some ((([], false, ()), ()), ((y42, y43, (), (), ()), y44, y45, ()))) FUEL a2 0 a3 a4 a5 a6
theorem q42 (mr : (List Int) → Int → (List T37) → T24 → (List (List Int)) → (List Int) → (List Int) → Option F42o.ty) (x : F42i.ty) : execF (E42 mr) (C42 mr) Try.f42 ((F42i.enc x).regs.map (·.2)) (F42i.enc x).heap (retS [(0, [0], (.sl G37))] [] 3 F42o) = M42 mr x.1.2.1 x.1.2.2.1 x.1.2.2.2.1 x.2.1.1 x.2.1.2.1 x.2.2.1 x.2.2.2.1 := by kernel_rfl
theorem R42 (mr : (List Int) → Int → (List T37) → T24 → (List (List Int)) → (List Int) → (List Int) → Option F42o.ty) (hmr : CmOk Try.prog (cS42 mr)) : CRun Try.prog 42 F42i F42o (fun x => M42 mr x.1.2.1 x.1.2.2.1 x.1.2.2.2.1 x.2.1.1 x.2.1.2.1 x.2.2.1 x.2.2.2.1) := st_run (E := E42 mr) (ok42 mr hmr) ord (lm42 mr) Try.func42 (q42 mr)
noncomputable def m42N : Nat → (List Int) → Int → (List T37) → T24 → (List (List Int)) → (List Int) → (List Int) → Option F42o.ty
  | 0, _, _, _, _, _, _, _ => none
  | n + 1, a0, a1, a2, a3, a4, a5, a6 => M42 (m42N n) a0 a1 a2 a3 a4 a5 a6
theorem dS42 : ∀ n, CmOk Try.prog (cS42 (m42N n))
  | 0 => st_ok ca42 (fun _ _ h => by cases h)
  | n + 1 => st_ok ca42 (R42 (m42N n) (dS42 n))
noncomputable def m42 (a0 : (List Int)) (a1 : Int) (a2 : (List T37)) (a3 : T24) (a4 : (List (List Int))) (a5 : (List Int)) (a6 : (List Int)) : Option F42o.ty := m42N FUEL a0 a1 a2 a3 a4 a5 a6
noncomputable def c42 : CmE := cS42 (fun a0 a1 a2 a3 a4 a5 a6 => m42 a0 a1 a2 a3 a4 a5 a6)
theorem d42 : CmOk Try.prog c42 := dS42 FUEL

/-! 18: consol/plan.Check -/
noncomputable def E18i35 : Env := mkEnv2 Try.prog [e29] [c39]
theorem ok18i35 : EnvOk (E18i35) := mkEnv2_ok (by simp only [List.mem_cons, List.not_mem_nil, or_false, forall_eq]; exact p29) (by simp only [List.mem_cons, List.not_mem_nil, or_false, forall_eq]; exact d39)
/-- a round of a loop of consol/plan.open -/
noncomputable def s18_1 {R : Type} (t42 : (List Int)) (t43 : Int) (kn : Int → (List Int) → Option R) (k1 : (List Int) → Option R) (t44 : Int) (o2 : (List Int)) : Option R :=
  bif (decide (t44 < t43)) then
    (idx t42 t44).bind fun x8 =>
    asrt true (decide (0 ≤ t44) && decide (t44 < (List.length o2 : Int))) (
      ((o2)[(t44 : Int).toNat]?).bind fun x9 =>
      asrt true (decide (0 ≤ t44) && decide (t44 < (List.length o2 : Int))) (
        ((o2)[(t44 : Int).toNat]?).bind fun x10 =>
        kn (IntKind.i64.wrap (t44 + 1)) (List.set o2 (t44 : Int).toNat (bif decide (x8 < x9) then x8 else x9))))
  else
    k1 o2
noncomputable def l18_1 {R : Type} (t42 : (List Int)) (t43 : Int) (k1 : (List Int) → Option R) : Nat → Int → (List Int) → Option R
  | 0, _, _ => none
  | n + 1, t44, o2 => s18_1 t42 t43 (l18_1 t42 t43 k1 n) k1 t44 o2
noncomputable def L18_1 : LE := ⟨11, 1, ⟨[(3, (.box 1 [] 0)), (6, (.own 2)), (24, (.dat (.sl (.sl G37)))), (25, (.dat (.int .i64))), (26, (.dat (.int .i64))), (35, (.dat (.sl G37))), (36, (.dat (.int .i64))), (37, (.dat (.int .i64))), (42, (.dat (.sl (.int .i64)))), (43, (.dat (.int .i64))), (44, (.dat (.int .i64)))], [.dead, (.box (.agg (.scons (.dat G24) (.scons (.own 3) (.scons (.own 4) (.scons (.own 5) .snil)))))), (.arr (.int .i64)), (.arr (.sl (.int .i64))), (.arr (.int .i64)), (.arr (.int .i64))]⟩, fun R n x k => l18_1 x.1.2.2.2.2.2.2.2.2.1 x.1.2.2.2.2.2.2.2.2.2.1 (fun y0 => k (.exit 4) ⟨[(3, (.box 1 [] 0)), (6, (.own 2)), (24, (.dat (.sl (.sl G37)) x.1.2.2.1)), (25, (.dat (.int .i64) x.1.2.2.2.1)), (26, (.dat (.int .i64) x.1.2.2.2.2.1)), (35, (.dat (.sl G37) x.1.2.2.2.2.2.1)), (36, (.dat (.int .i64) x.1.2.2.2.2.2.2.1)), (37, (.dat (.int .i64) x.1.2.2.2.2.2.2.2.1))], [.dead, (.box (.agg (.scons (.dat G24 x.2.2.1.1) (.scons (.own 3) (.scons (.own 4) (.scons (.own 5) .snil)))))), (.arr (.int .i64) y0), (.arr (.sl (.int .i64)) x.2.2.2.2.1), (.arr (.int .i64) x.2.2.2.2.2.1), (.arr (.int .i64) x.2.2.2.2.2.2.1)]⟩) n x.1.2.2.2.2.2.2.2.2.2.2.1 x.2.2.2.1⟩
/-- a round of a loop of consol/plan.open -/
noncomputable def s18_2 {R : Type} (t35 : (List T37)) (t36 : Int) (kn : Int → (List Int) → Option R) (k1 : (List Int) → Option R) (t37 : Int) (o2 : (List Int)) : Option R :=
  bif (decide (t37 < t36)) then
    (idx t35 t37).bind fun x7 =>
    l18_1 x7.1 (List.length x7.1 : Int) (fun y11 =>
        kn (IntKind.i64.wrap (t37 + 1)) y11) FUEL 0 o2
  else
    k1 o2
noncomputable def l18_2 {R : Type} (t35 : (List T37)) (t36 : Int) (k1 : (List Int) → Option R) : Nat → Int → (List Int) → Option R
  | 0, _, _ => none
  | n + 1, t37, o2 => s18_2 t35 t36 (l18_2 t35 t36 k1 n) k1 t37 o2
noncomputable def L18_2 : LE := ⟨8, 1, ⟨[(3, (.box 1 [] 0)), (6, (.own 2)), (24, (.dat (.sl (.sl G37)))), (25, (.dat (.int .i64))), (26, (.dat (.int .i64))), (35, (.dat (.sl G37))), (36, (.dat (.int .i64))), (37, (.dat (.int .i64)))], [.dead, (.box (.agg (.scons (.dat G24) (.scons (.own 3) (.scons (.own 4) (.scons (.own 5) .snil)))))), (.arr (.int .i64)), (.arr (.sl (.int .i64))), (.arr (.int .i64)), (.arr (.int .i64))]⟩, fun R n x k => l18_2 x.1.2.2.2.2.2.1 x.1.2.2.2.2.2.2.1 (fun y0 => k (.exit 2) ⟨[(3, (.box 1 [] 0)), (6, (.own 2)), (24, (.dat (.sl (.sl G37)) x.1.2.2.1)), (25, (.dat (.int .i64) x.1.2.2.2.1)), (26, (.dat (.int .i64) x.1.2.2.2.2.1))], [.dead, (.box (.agg (.scons (.dat G24 x.2.2.1.1) (.scons (.own 3) (.scons (.own 4) (.scons (.own 5) .snil)))))), (.arr (.int .i64) y0), (.arr (.sl (.int .i64)) x.2.2.2.2.1), (.arr (.int .i64) x.2.2.2.2.2.1), (.arr (.int .i64) x.2.2.2.2.2.2.1)]⟩) n x.1.2.2.2.2.2.2.2.1 x.2.2.2.1⟩
/-- a round of a loop of consol/plan.open -/
noncomputable def s18_3 {R : Type} (t70 : (List Int)) (t71 : Int) (kn : Int → (List Int) → Option R) (k1 : (List Int) → Option R) (t72 : Int) (o3 : (List Int)) : Option R :=
  bif (decide (t72 < t71)) then
    (idx t70 t72).bind fun x13 =>
    asrt true (decide (0 ≤ t72) && decide (t72 < (List.length o3 : Int))) (
      ((o3)[(t72 : Int).toNat]?).bind fun x14 =>
      asrt true (decide (0 ≤ t72) && decide (t72 < (List.length o3 : Int))) (
        ((o3)[(t72 : Int).toNat]?).bind fun x15 =>
        kn (IntKind.i64.wrap (t72 + 1)) (List.set o3 (t72 : Int).toNat (IntKind.i64.wrap (x14 + x13)))))
  else
    k1 o3
noncomputable def l18_3 {R : Type} (t70 : (List Int)) (t71 : Int) (k1 : (List Int) → Option R) : Nat → Int → (List Int) → Option R
  | 0, _, _ => none
  | n + 1, t72, o3 => s18_3 t70 t71 (l18_3 t70 t71 k1 n) k1 t72 o3
noncomputable def L18_3 : LE := ⟨18, 1, ⟨[(3, (.box 1 [] 0)), (24, (.dat (.sl (.sl G37)))), (25, (.dat (.int .i64))), (26, (.dat (.int .i64))), (70, (.dat (.sl (.int .i64)))), (71, (.dat (.int .i64))), (72, (.dat (.int .i64)))], [.dead, (.box (.agg (.scons (.dat G24) (.scons (.own 2) (.scons (.own 3) (.scons (.own 4) .snil)))))), (.arr (.sl (.int .i64))), (.arr (.int .i64)), (.arr (.int .i64))]⟩, fun R n x k => l18_3 x.1.2.2.2.2.1 x.1.2.2.2.2.2.1 (fun y0 => k (.exit 6) ⟨[(3, (.box 1 [] 0)), (24, (.dat (.sl (.sl G37)) x.1.2.1)), (25, (.dat (.int .i64) x.1.2.2.1)), (26, (.dat (.int .i64) x.1.2.2.2.1))], [.dead, (.box (.agg (.scons (.dat G24 x.2.2.1.1) (.scons (.own 2) (.scons (.own 3) (.scons (.own 4) .snil)))))), (.arr (.sl (.int .i64)) x.2.2.2.1), (.arr (.int .i64) y0), (.arr (.int .i64) x.2.2.2.2.2.1)]⟩) n x.1.2.2.2.2.2.2.1 x.2.2.2.2.1⟩
/-- a round of a loop of consol/plan.open -/
noncomputable def s18_4 {R : Type} (t24 : (List (List T37))) (t25 : Int) (kn : Int → (List (List Int)) → (List Int) → Option R) (k1 : (List (List Int)) → (List Int) → Option R) (t26 : Int) (o2 : (List (List Int))) (o3 : (List Int)) : Option R :=
  bif (decide (t26 < t25)) then
    (idx t24 t26).bind fun x4 =>
    (idx x4 0).bind fun x5 =>
    (cloneM x5.1).bind fun r6 =>
    l18_2 x4 (List.length x4 : Int) (fun y12 =>
        asrt true (decide (List.length (α := (List Int)) o2 + List.length (α := (List Int)) [y12] ≤ LIM)) (
          l18_3 y12 (List.length y12 : Int) (fun y16 =>
              kn (IntKind.i64.wrap (t26 + 1)) (o2 ++ [y12]) y16) FUEL 0 o3)) FUEL 0 r6
  else
    k1 o2 o3
noncomputable def l18_4 {R : Type} (t24 : (List (List T37))) (t25 : Int) (k1 : (List (List Int)) → (List Int) → Option R) : Nat → Int → (List (List Int)) → (List Int) → Option R
  | 0, _, _, _ => none
  | n + 1, t26, o2, o3 => s18_4 t24 t25 (l18_4 t24 t25 k1 n) k1 t26 o2 o3
noncomputable def L18_4 : LE := ⟨4, 1, ⟨[(3, (.box 1 [] 0)), (24, (.dat (.sl (.sl G37)))), (25, (.dat (.int .i64))), (26, (.dat (.int .i64)))], [.dead, (.box (.agg (.scons (.dat G24) (.scons (.own 2) (.scons (.own 3) (.scons (.own 4) .snil)))))), (.arr (.sl (.int .i64))), (.arr (.int .i64)), (.arr (.int .i64))]⟩, fun R n x k => l18_4 x.1.2.1 x.1.2.2.1 (fun y0 y1 => k (.exit 0) ⟨[(3, (.box 1 [] 0))], [.dead, (.box (.agg (.scons (.dat G24 x.2.2.1.1) (.scons (.own 2) (.scons (.own 3) (.scons (.own 4) .snil)))))), (.arr (.sl (.int .i64)) y0), (.arr (.int .i64) y1), (.arr (.int .i64) x.2.2.2.2.2.1)]⟩) n x.1.2.2.2.1 x.2.2.2.1 x.2.2.2.2.1⟩
noncomputable def C18i35 : Cfg := mkCfg [(4, ⟨[3, 24, 25, 26], [(3, [1], (.sl (.int .i64)))], []⟩), (8, ⟨[3, 6, 24, 25, 26, 35, 36, 37], [], []⟩), (11, ⟨[3, 6, 24, 25, 26, 35, 36, 37, 42, 43, 44], [], []⟩), (18, ⟨[3, 24, 25, 26, 70, 71, 72], [], []⟩)] [(4, (⟨[3], [], []⟩, ⟨[2], [], []⟩)), (8, (⟨[3, 6, 24, 25, 26], [], []⟩, ⟨[2], [], []⟩)), (11, (⟨[3, 6, 24, 25, 26, 35, 36, 37], [], []⟩, ⟨[2], [], []⟩)), (18, (⟨[3, 24, 25, 26], [], []⟩, ⟨[2], [], []⟩))] (([(2, L18_1), (1, L18_2), (3, L18_3), (0, L18_4)] : List (Nat × LE)).map (·.2)) [] [(15, [(6, [], (.sl (.int .i64)))]), (22, [(3, [1], (.sl (.sl (.int .i64))))])]
theorem ek18_1 : EOk (E18i35) (C18i35) Try.f35.ntmps (bodyL Try.f35 2) (L18_1) := eok_of (e := L18_1) (fun R x Kn k => s18_1 x.1.2.2.2.2.2.2.2.2.1 x.1.2.2.2.2.2.2.2.2.2.1 (fun v0 v1 => Kn (((), (), x.1.2.2.1, x.1.2.2.2.1, x.1.2.2.2.2.1, x.1.2.2.2.2.2.1, x.1.2.2.2.2.2.2.1, x.1.2.2.2.2.2.2.2.1, x.1.2.2.2.2.2.2.2.2.1, x.1.2.2.2.2.2.2.2.2.2.1, v0, ()), ((), (x.2.2.1.1, (), (), (), ()), v1, x.2.2.2.2.1, x.2.2.2.2.2.1, x.2.2.2.2.2.2.1, ()))) (fun y0 => k (.exit 4) ⟨[(3, (.box 1 [] 0)), (6, (.own 2)), (24, (.dat (.sl (.sl G37)) x.1.2.2.1)), (25, (.dat (.int .i64) x.1.2.2.2.1)), (26, (.dat (.int .i64) x.1.2.2.2.2.1)), (35, (.dat (.sl G37) x.1.2.2.2.2.2.1)), (36, (.dat (.int .i64) x.1.2.2.2.2.2.2.1)), (37, (.dat (.int .i64) x.1.2.2.2.2.2.2.2.1))], [.dead, (.box (.agg (.scons (.dat G24 x.2.2.1.1) (.scons (.own 3) (.scons (.own 4) (.scons (.own 5) .snil)))))), (.arr (.int .i64) y0), (.arr (.sl (.int .i64)) x.2.2.2.2.1), (.arr (.int .i64) x.2.2.2.2.2.1), (.arr (.int .i64) x.2.2.2.2.2.2.1)]⟩) x.1.2.2.2.2.2.2.2.2.2.2.1 x.2.2.2.1) (fun _ _ _ => rfl) (fun _ _ _ _ => rfl) (fun R x Kn k => by kernel_rfl)
theorem ek18_2 : EOk (E18i35) (C18i35) Try.f35.ntmps (bodyL Try.f35 1) (L18_2) := eok_of (e := L18_2) (fun R x Kn k => s18_2 x.1.2.2.2.2.2.1 x.1.2.2.2.2.2.2.1 (fun v0 v1 => Kn (((), (), x.1.2.2.1, x.1.2.2.2.1, x.1.2.2.2.2.1, x.1.2.2.2.2.2.1, x.1.2.2.2.2.2.2.1, v0, ()), ((), (x.2.2.1.1, (), (), (), ()), v1, x.2.2.2.2.1, x.2.2.2.2.2.1, x.2.2.2.2.2.2.1, ()))) (fun y0 => k (.exit 2) ⟨[(3, (.box 1 [] 0)), (6, (.own 2)), (24, (.dat (.sl (.sl G37)) x.1.2.2.1)), (25, (.dat (.int .i64) x.1.2.2.2.1)), (26, (.dat (.int .i64) x.1.2.2.2.2.1))], [.dead, (.box (.agg (.scons (.dat G24 x.2.2.1.1) (.scons (.own 3) (.scons (.own 4) (.scons (.own 5) .snil)))))), (.arr (.int .i64) y0), (.arr (.sl (.int .i64)) x.2.2.2.2.1), (.arr (.int .i64) x.2.2.2.2.2.1), (.arr (.int .i64) x.2.2.2.2.2.2.1)]⟩) x.1.2.2.2.2.2.2.2.1 x.2.2.2.1) (fun _ _ _ => rfl) (fun _ _ _ _ => rfl) (fun R x Kn k => by kernel_rfl)
theorem ek18_3 : EOk (E18i35) (C18i35) Try.f35.ntmps (bodyL Try.f35 3) (L18_3) := eok_of (e := L18_3) (fun R x Kn k => s18_3 x.1.2.2.2.2.1 x.1.2.2.2.2.2.1 (fun v0 v1 => Kn (((), x.1.2.1, x.1.2.2.1, x.1.2.2.2.1, x.1.2.2.2.2.1, x.1.2.2.2.2.2.1, v0, ()), ((), (x.2.2.1.1, (), (), (), ()), x.2.2.2.1, v1, x.2.2.2.2.2.1, ()))) (fun y0 => k (.exit 6) ⟨[(3, (.box 1 [] 0)), (24, (.dat (.sl (.sl G37)) x.1.2.1)), (25, (.dat (.int .i64) x.1.2.2.1)), (26, (.dat (.int .i64) x.1.2.2.2.1))], [.dead, (.box (.agg (.scons (.dat G24 x.2.2.1.1) (.scons (.own 2) (.scons (.own 3) (.scons (.own 4) .snil)))))), (.arr (.sl (.int .i64)) x.2.2.2.1), (.arr (.int .i64) y0), (.arr (.int .i64) x.2.2.2.2.2.1)]⟩) x.1.2.2.2.2.2.2.1 x.2.2.2.2.1) (fun _ _ _ => rfl) (fun _ _ _ _ => rfl) (fun R x Kn k => by kernel_rfl)
theorem ek18_4 : EOk (E18i35) (C18i35) Try.f35.ntmps (bodyL Try.f35 0) (L18_4) := eok_of (e := L18_4) (fun R x Kn k => s18_4 x.1.2.1 x.1.2.2.1 (fun v0 v1 v2 => Kn (((), x.1.2.1, x.1.2.2.1, v0, ()), ((), (x.2.2.1.1, (), (), (), ()), v1, v2, x.2.2.2.2.2.1, ()))) (fun y0 y1 => k (.exit 0) ⟨[(3, (.box 1 [] 0))], [.dead, (.box (.agg (.scons (.dat G24 x.2.2.1.1) (.scons (.own 2) (.scons (.own 3) (.scons (.own 4) .snil)))))), (.arr (.sl (.int .i64)) y0), (.arr (.int .i64) y1), (.arr (.int .i64) x.2.2.2.2.2.1)]⟩) x.1.2.2.2.1 x.2.2.2.1 x.2.2.2.2.1) (fun _ _ _ => rfl) (fun _ _ _ _ => rfl) (fun R x Kn k => by kernel_rfl)
theorem lm18i35 : ∀ c, Try.f35.body = some c → LmOk (E18i35) (C18i35) Try.f35.ntmps c := lmOk_of (ps := [(2, L18_1), (1, L18_2), (3, L18_3), (0, L18_4)]) (by kernel_rfl) (by kernel_rfl) ⟨ek18_1, ek18_2, ek18_3, ek18_4, trivial⟩
noncomputable def c18i35 : CmE := inl E18i35 C18i35 35 Try.f35
theorem d18i35 : CmOk Try.prog c18i35 := inl_ok (E := E18i35) ok18i35 ord lm18i35 Try.func35 ca35

theorem ca18 : callable Try.prog 18 := ⟨Try.f18, Try.func18, by kernel_rfl, by kernel_rfl⟩
noncomputable def E18 : Env := mkEnv2 Try.prog [e13, e17] [c18i35, c42]
theorem ok18 : EnvOk (E18) := mkEnv2_ok (by simp only [List.mem_cons, List.not_mem_nil, or_false, forall_eq_or_imp, forall_eq]; exact ⟨p13, p17⟩) (by simp only [List.mem_cons, List.not_mem_nil, or_false, forall_eq_or_imp, forall_eq]; exact ⟨d18i35, d42⟩)
noncomputable def C18 : Cfg := noCfg
theorem lm18 : ∀ c, Try.f18.body = some c → LmOk (E18) (C18) Try.f18.ntmps c := fun _ _ => noCfg_lm
noncomputable def m18 (a0 : T24) (a1 : (List Int)) (a2 : Int) (a3 : (List T37)) : Option (Int) :=
  (m13 a0).bind fun r1 =>
  bif (!r1) then
    some 1
  else
    (m17 a0 a1).bind fun r2 =>
    bif ((!r2.2.1) || (r2.1 != a2)) then
      some 24
    else
      (m29 a0).bind fun r3 =>
      asrt true (decide (0 ≤ r3) && decide (r3 ≤ r3) && decide (r3 ≤ (LIM : Int))) (
        asrt true (decide (0 ≤ (List.length a0.2.1 : Int)) && decide ((List.length a0.2.1 : Int) ≤ (List.length a0.2.1 : Int)) && decide ((List.length a0.2.1 : Int) ≤ (LIM : Int))) (
          l18_4 a0.1 (List.length a0.1 : Int) (fun y17 y18 =>
              (m42 [] a2 a3 a0 y17 y18 (List.replicate ((List.length a0.2.1 : Int) : Int).toNat 0)).bind fun r19 =>
              bif ((!r19.1.1.2.1) || (decide ((List.length r19.1.1.1 : Int) > 0))) then
                some 24
              else
                some 0) FUEL 0 [] (List.replicate (r3 : Int).toNat 0)))
noncomputable def e18 : PmE := entry 18 [G24, (.sl (.int .i64)), (.int .i64), (.sl G37)] false (.int .i64) (fun x => m18 x.1 x.2.1 x.2.2.1 x.2.2.2.1)
theorem q18 (x : tyL [G24, (.sl (.int .i64)), (.int .i64), (.sl G37)]) : execF E18 C18 Try.f18 (datL [G24, (.sl (.int .i64)), (.int .i64), (.sl G37)] x) [] (retK false (.int .i64)) = m18 x.1 x.2.1 x.2.2.1 x.2.2.2.1 := by kernel_rfl
theorem p18 : PmOk Try.prog e18 := pm_ok (E := E18) ok18 ord lm18 Try.func18 ca18 q18

/-! 6: consol/consollaw41.MarginStays -/
theorem ca6 : callable Try.prog 6 := ⟨Try.f6, Try.func6, by kernel_rfl, by kernel_rfl⟩
noncomputable def E6 : Env := mkEnv2 Try.prog [e7, e8, e11, e15, e17, e18] []
theorem ok6 : EnvOk (E6) := mkEnv2_ok (by simp only [List.mem_cons, List.not_mem_nil, or_false, forall_eq_or_imp, forall_eq]; exact ⟨p7, p8, p11, p15, p17, p18⟩) (by simp)
noncomputable def C6 : Cfg := noCfg
theorem lm6 : ∀ c, Try.f6.body = some c → LmOk (E6) (C6) Try.f6.ntmps c := fun _ _ => noCfg_lm
noncomputable def m6 (a0 : T24) (a1 : (List Int)) (a2 : (List Int)) : Option (Bool) :=
  (m7).bind fun r1 =>
  (m8 a0).bind fun r2 =>
  bif (((!r2) || (decide ((List.length a1 : Int) > 6))) || (decide ((List.length a2 : Int) > 6))) then
    some r1
  else
    (m15 a0).bind fun r3 =>
    (m11 a0 a1).bind fun r4 =>
    (m11 a0 a2).bind fun r5 =>
    bif (r3.2.2.2.1 != 0) then
      some ((r1 && (!r4)) && (!r5))
    else
      (m17 a0 a1).bind fun r6 =>
      (m17 a0 a2).bind fun r7 =>
      (bif (r1 == true) then (m11 a0 r3.1) else some false).bind fun r8 =>
      (bif ((r1 && r8) == true) then (m18 a0 a1 r3.2.1 r3.2.2.1) else some 0).bind fun r9 =>
      some (((r1 && r8) && (r4 == (r9 == 0))) && (((!r4) || (!r5)) || (r6.1 == r7.1)))
noncomputable def e6 : PmE := entry 6 [G24, (.sl (.int .i64)), (.sl (.int .i64))] false .bool (fun x => m6 x.1 x.2.1 x.2.2.1)
noncomputable def V6 (mo7 : Option (Bool)) : Env := mkEnv2 Try.prog [(entry 7 [] false .bool (fun _ => mo7)), e8, e11, e15, e17, e18] []
theorem qv6 (mo7 : Option (Bool)) (x : tyL [G24, (.sl (.int .i64)), (.sl (.int .i64))]) : execF (V6 mo7) C6 Try.f6 (datL [G24, (.sl (.int .i64)), (.sl (.int .i64))] x) [] (retK false .bool) = (fun (a0 : T24) (a1 : (List Int)) (a2 : (List Int)) =>
  (mo7).bind fun r1 =>
  (m8 a0).bind fun r2 =>
  bif (((!r2) || (decide ((List.length a1 : Int) > 6))) || (decide ((List.length a2 : Int) > 6))) then
    some r1
  else
    (m15 a0).bind fun r3 =>
    (m11 a0 a1).bind fun r4 =>
    (m11 a0 a2).bind fun r5 =>
    bif (r3.2.2.2.1 != 0) then
      some ((r1 && (!r4)) && (!r5))
    else
      (m17 a0 a1).bind fun r6 =>
      (m17 a0 a2).bind fun r7 =>
      (bif (r1 == true) then (m11 a0 r3.1) else some false).bind fun r8 =>
      (bif ((r1 && r8) == true) then (m18 a0 a1 r3.2.1 r3.2.2.1) else some 0).bind fun r9 =>
      some (((r1 && r8) && (r4 == (r9 == 0))) && (((!r4) || (!r5)) || (r6.1 == r7.1)))) x.1 x.2.1 x.2.2.1 := by kernel_rfl
theorem q6 (x : tyL [G24, (.sl (.int .i64)), (.sl (.int .i64))]) : execF E6 C6 Try.f6 (datL [G24, (.sl (.int .i64)), (.sl (.int .i64))] x) [] (retK false .bool) = m6 x.1 x.2.1 x.2.2.1 := qv6 m7 x
theorem p6 : PmOk Try.prog e6 := pm_ok (E := E6) ok6 ord lm6 Try.func6 ca6 q6

end Go.Proofs.Ytadinocaadlgmaa
