/- Models of the functions that the statements reach. -/
import Derived.Test.YtdobcidinpjkoaaE32
import Derived.Test.YtdobcidinpjkoaaChecked
import Derived.KernelRfl
namespace Go.Proofs.Ytdobcidinpjkoaa
open Go Go.Eng
set_option linter.unusedVariables false

/-- x, y, signed, code -/
abbrev G7 : GT := .cons (.int .i64) (.cons (.int .i64) (.cons .bool (.cons (.int .u8) (.nil))))
abbrev T7 : Type := Int × Int × Bool × Int × Unit
/-- msg, addr -/
abbrev G13 : GT := .cons .str (.cons (.int .u64) (.nil))
abbrev T13 : Type := (List UInt8) × Int × Unit
/-- Rest, Days -/
abbrev G23 : GT := .cons (.sl (.int .i64)) (.cons (.sl (.int .i64)) (.nil))
abbrev T23 : Type := (List Int) × (List Int) × Unit

theorem ord : Try.prog.follows .mixedOrders = true := by kernel_rfl

/-! 24: consol/consollaw08.some -/
theorem ca24 : callable Try.prog 24 := ⟨Try.f24, Try.func24, by kernel_rfl, by kernel_rfl⟩
noncomputable def E24 : Env := mkEnv2 Try.prog [] []
theorem ok24 : EnvOk E24 := mkEnv2_ok (by simp) (by simp)
noncomputable def C24 : Cfg := noCfg
theorem lm24 : ∀ c, Try.f24.body = some c → LmOk E24 C24 Try.f24.ntmps c := fun _ _ => noCfg_lm
noncomputable def m24  : Option (T23) :=
  some ([5, 6], [30], ())
noncomputable def e24 : PmE := entry 24 [] false G23 (fun x => m24 )
theorem q24 (x : tyL []) : execF E24 C24 Try.f24 (datL [] x) [] (retK false G23) = m24  := by kernel_rfl
theorem p24 : PmOk Try.prog e24 := pm_ok (E := E24) ok24 ord lm24 Try.func24 ca24 q24

/-! 27: consol/cal.ascending -/
theorem ca27 : callable Try.prog 27 := ⟨Try.f27, Try.func27, by kernel_rfl, by kernel_rfl⟩
noncomputable def E27 : Env := mkEnv2 Try.prog [] []
theorem ok27 : EnvOk E27 := mkEnv2_ok (by simp) (by simp)
/-- a round of a loop of consol/cal.ascending -/
noncomputable def s27_1 {R : Type} (t1 : Int) (t8 : (List Int)) (t9 : Int) (kn : Int → Int → Option R) (k1 : Option R) (k2 : Option R) (t5 : Int) (t10 : Int) : Option R :=
  bif (decide (t10 < t9)) then
    (idx t8 t10).bind fun x1 =>
    bif ((decide (x1 ≤ t5)) || (decide (x1 > t1))) then
      k2
    else
      kn x1 (IntKind.i64.wrap (t10 + 1))
  else
    k1
noncomputable def l27_1 {R : Type} (t1 : Int) (t8 : (List Int)) (t9 : Int) (k1 : Option R) (k2 : Option R) : Nat → Int → Int → Option R
  | 0, _, _ => none
  | n + 1, t5, t10 => s27_1 t1 t8 t9 (l27_1 t1 t8 t9 k1 k2 n) k1 k2 t5 t10
noncomputable def L27_1 : LE := ⟨4, 0, ⟨[(1, (.dat (.int .i64))), (5, (.dat (.int .i64))), (8, (.dat (.sl (.int .i64)))), (9, (.dat (.int .i64))), (10, (.dat (.int .i64)))], []⟩, fun R n x k => l27_1 x.1.1 x.1.2.2.1 x.1.2.2.2.1 (k (.exit 0) ⟨[], []⟩) (k .ret ⟨[(4, (.dat .bool false))], []⟩) n x.1.2.1 x.1.2.2.2.2.1⟩
noncomputable def C27 : Cfg := mkCfg [(4, ⟨[1, 5, 8, 9, 10], []⟩)] [(4, (⟨[], []⟩, ⟨[4], []⟩))] (([(0, L27_1)] : List (Nat × LE)).map (·.2))
theorem ek27_1 : EOk E27 C27 Try.f27.ntmps (bodyL Try.f27 0) L27_1 := eok_of (e := L27_1) (fun R x Kn k => s27_1 x.1.1 x.1.2.2.1 x.1.2.2.2.1 (fun v0 v1 => Kn ((x.1.1, v0, x.1.2.2.1, x.1.2.2.2.1, v1, ()), (()))) (k (.exit 0) ⟨[], []⟩) (k .ret ⟨[(4, (.dat .bool false))], []⟩) x.1.2.1 x.1.2.2.2.2.1) (fun _ _ _ => rfl) (fun _ _ _ _ => rfl) (fun R x Kn k => by kernel_rfl)
theorem lm27 : ∀ c, Try.f27.body = some c → LmOk E27 C27 Try.f27.ntmps c := lmOk_of (ps := [(0, L27_1)]) (by kernel_rfl) (by kernel_rfl) ⟨ek27_1, trivial⟩
noncomputable def m27 (a0 : (List Int)) (a1 : Int) : Option (Bool) :=
  l27_1 a1 a0 (List.length a0 : Int) (
      some true) (
      some false) FUEL (-1) 0
noncomputable def e27 : PmE := entry 27 [(.sl (.int .i64)), (.int .i64)] false .bool (fun x => m27 x.1 x.2.1)
theorem q27 (x : tyL [(.sl (.int .i64)), (.int .i64)]) : execF E27 C27 Try.f27 (datL [(.sl (.int .i64)), (.int .i64)] x) [] (retK false .bool) = m27 x.1 x.2.1 := by kernel_rfl
theorem p27 : PmOk Try.prog e27 := pm_ok (E := E27) ok27 ord lm27 Try.func27 ca27 q27

/-! 14: consol/cal.Right -/
theorem ca14 : callable Try.prog 14 := ⟨Try.f14, Try.func14, by kernel_rfl, by kernel_rfl⟩
noncomputable def E14 : Env := mkEnv2 Try.prog [e27] []
theorem ok14 : EnvOk E14 := mkEnv2_ok (by simp only [List.mem_cons, List.not_mem_nil, or_false, forall_eq]; exact p27) (by simp)
noncomputable def C14 : Cfg := noCfg
theorem lm14 : ∀ c, Try.f14.body = some c → LmOk E14 C14 Try.f14.ntmps c := fun _ _ => noCfg_lm
noncomputable def m14 (a0 : T23) : Option (Bool) :=
  (bif (((decide ((List.length a0.1 : Int) ≤ 6)) && (decide ((List.length a0.2.1 : Int) ≤ 4000))) == true) then (m27 a0.1 6) else some false).bind fun r1 =>
  (bif ((((decide ((List.length a0.1 : Int) ≤ 6)) && (decide ((List.length a0.2.1 : Int) ≤ 4000))) && r1) == true) then (m27 a0.2.1 200000) else some false).bind fun r2 =>
  some ((((decide ((List.length a0.1 : Int) ≤ 6)) && (decide ((List.length a0.2.1 : Int) ≤ 4000))) && r1) && r2)
noncomputable def e14 : PmE := entry 14 [G23] false .bool (fun x => m14 x.1)
theorem q14 (x : tyL [G23]) : execF E14 C14 Try.f14 (datL [G23] x) [] (retK false .bool) = m14 x.1 := by kernel_rfl
theorem p14 : PmOk Try.prog e14 := pm_ok (E := E14) ok14 ord lm14 Try.func14 ca14 q14

/-! 29: consol/cal.valid -/
theorem ca29 : callable Try.prog 29 := ⟨Try.f29, Try.func29, by kernel_rfl, by kernel_rfl⟩
noncomputable def E29 : Env := mkEnv2 Try.prog [] []
theorem ok29 : EnvOk E29 := mkEnv2_ok (by simp) (by simp)
noncomputable def C29 : Cfg := noCfg
theorem lm29 : ∀ c, Try.f29.body = some c → LmOk E29 C29 Try.f29.ntmps c := fun _ _ => noCfg_lm
noncomputable def m29 (a0 : Int) : Option (Bool) :=
  some ((decide (a0 ≥ 0)) && (decide (a0 ≤ 200000)))
noncomputable def e29 : PmE := entry 29 [(.int .i64)] false .bool (fun x => m29 x.1)
theorem q29 (x : tyL [(.int .i64)]) : execF E29 C29 Try.f29 (datL [(.int .i64)] x) [] (retK false .bool) = m29 x.1 := by kernel_rfl
theorem p29 : PmOk Try.prog e29 := pm_ok (E := E29) ok29 ord lm29 Try.func29 ca29 q29

/-! 47: cmp.isNaN[int] -/
theorem ca47 : callable Try.prog 47 := ⟨Try.f47, Try.func47, by kernel_rfl, by kernel_rfl⟩
noncomputable def E47 : Env := mkEnv2 Try.prog [] []
theorem ok47 : EnvOk E47 := mkEnv2_ok (by simp) (by simp)
noncomputable def C47 : Cfg := noCfg
theorem lm47 : ∀ c, Try.f47.body = some c → LmOk E47 C47 Try.f47.ntmps c := fun _ _ => noCfg_lm
noncomputable def m47 (a0 : Int) : Option (Bool) :=
  some (a0 != a0)
noncomputable def e47 : PmE := entry 47 [(.int .i64)] false .bool (fun x => m47 x.1)
theorem q47 (x : tyL [(.int .i64)]) : execF E47 C47 Try.f47 (datL [(.int .i64)] x) [] (retK false .bool) = m47 x.1 := by kernel_rfl
theorem p47 : PmOk Try.prog e47 := pm_ok (E := E47) ok47 ord lm47 Try.func47 ca47 q47

/-! 43: cmp.Less[int] -/
theorem ca43 : callable Try.prog 43 := ⟨Try.f43, Try.func43, by kernel_rfl, by kernel_rfl⟩
noncomputable def E43 : Env := mkEnv2 Try.prog [e47] []
theorem ok43 : EnvOk E43 := mkEnv2_ok (by simp only [List.mem_cons, List.not_mem_nil, or_false, forall_eq]; exact p47) (by simp)
noncomputable def C43 : Cfg := noCfg
theorem lm43 : ∀ c, Try.f43.body = some c → LmOk E43 C43 Try.f43.ntmps c := fun _ _ => noCfg_lm
noncomputable def m43 (a0 : Int) (a1 : Int) : Option (Bool) :=
  (m47 a0).bind fun r1 =>
  (bif (r1 == true) then (m47 a1) else some false).bind fun r2 =>
  some ((r1 && (!r2)) || (decide (a0 < a1)))
noncomputable def e43 : PmE := entry 43 [(.int .i64), (.int .i64)] false .bool (fun x => m43 x.1 x.2.1)
theorem q43 (x : tyL [(.int .i64), (.int .i64)]) : execF E43 C43 Try.f43 (datL [(.int .i64), (.int .i64)] x) [] (retK false .bool) = m43 x.1 x.2.1 := by kernel_rfl
theorem p43 : PmOk Try.prog e43 := pm_ok (E := E43) ok43 ord lm43 Try.func43 ca43 q43

/-! 44: slices.isNaN[int] -/
theorem ca44 : callable Try.prog 44 := ⟨Try.f44, Try.func44, by kernel_rfl, by kernel_rfl⟩
noncomputable def E44 : Env := mkEnv2 Try.prog [] []
theorem ok44 : EnvOk E44 := mkEnv2_ok (by simp) (by simp)
noncomputable def C44 : Cfg := noCfg
theorem lm44 : ∀ c, Try.f44.body = some c → LmOk E44 C44 Try.f44.ntmps c := fun _ _ => noCfg_lm
noncomputable def m44 (a0 : Int) : Option (Bool) :=
  some (a0 != a0)
noncomputable def e44 : PmE := entry 44 [(.int .i64)] false .bool (fun x => m44 x.1)
theorem q44 (x : tyL [(.int .i64)]) : execF E44 C44 Try.f44 (datL [(.int .i64)] x) [] (retK false .bool) = m44 x.1 := by kernel_rfl
theorem p44 : PmOk Try.prog e44 := pm_ok (E := E44) ok44 ord lm44 Try.func44 ca44 q44

/-! 38: slices.BinarySearch[[]int,int] -/
theorem ca38 : callable Try.prog 38 := ⟨Try.f38, Try.func38, by kernel_rfl, by kernel_rfl⟩
noncomputable def E38 : Env := mkEnv2 Try.prog [e43, e44] []
theorem ok38 : EnvOk E38 := mkEnv2_ok (by simp only [List.mem_cons, List.not_mem_nil, or_false, forall_eq_or_imp, forall_eq]; exact ⟨p43, p44⟩) (by simp)
/-- a round of a loop of slices.BinarySearch[[]int,int] -/
noncomputable def s38_1 {R : Type} (t0 : (List Int)) (t1 : Int) (kn : Int → Int → Option R) (k1 : Int → Option R) (t7 : Int) (t8 : Int) : Option R :=
  bif (decide (t7 < t8)) then
    (idx t0 (IntKind.i64.wrap (shr2 (IntKind.u64.wrap (IntKind.i64.wrap (t7 + t8))) 1))).bind fun x1 =>
    (m43 x1 t1).bind fun r2 =>
    bif r2 then
      kn (IntKind.i64.wrap ((IntKind.i64.wrap (shr2 (IntKind.u64.wrap (IntKind.i64.wrap (t7 + t8))) 1)) + 1)) t8
    else
      kn t7 (IntKind.i64.wrap (shr2 (IntKind.u64.wrap (IntKind.i64.wrap (t7 + t8))) 1))
  else
    k1 t7
noncomputable def l38_1 {R : Type} (t0 : (List Int)) (t1 : Int) (k1 : Int → Option R) : Nat → Int → Int → Option R
  | 0, _, _ => none
  | n + 1, t7, t8 => s38_1 t0 t1 (l38_1 t0 t1 k1 n) k1 t7 t8
noncomputable def L38_1 : LE := ⟨4, 0, ⟨[(0, (.dat (.sl (.int .i64)))), (1, (.dat (.int .i64))), (6, (.dat (.int .i64))), (7, (.dat (.int .i64))), (8, (.dat (.int .i64)))], []⟩, fun R n x k => l38_1 x.1.1 x.1.2.1 (fun y0 => k (.exit 0) ⟨[(0, (.dat (.sl (.int .i64)) x.1.1)), (1, (.dat (.int .i64) x.1.2.1)), (6, (.dat (.int .i64) x.1.2.2.1)), (7, (.dat (.int .i64) y0))], []⟩) n x.1.2.2.2.1 x.1.2.2.2.2.1⟩
noncomputable def C38 : Cfg := mkCfg [(4, ⟨[0, 1, 6, 7, 8], []⟩)] [(4, (⟨[0, 1, 6, 7], []⟩, ⟨[4, 5], []⟩))] (([(0, L38_1)] : List (Nat × LE)).map (·.2))
theorem ek38_1 : EOk E38 C38 Try.f38.ntmps (bodyL Try.f38 0) L38_1 := eok_of (e := L38_1) (fun R x Kn k => s38_1 x.1.1 x.1.2.1 (fun v0 v1 => Kn ((x.1.1, x.1.2.1, x.1.2.2.1, v0, v1, ()), (()))) (fun y0 => k (.exit 0) ⟨[(0, (.dat (.sl (.int .i64)) x.1.1)), (1, (.dat (.int .i64) x.1.2.1)), (6, (.dat (.int .i64) x.1.2.2.1)), (7, (.dat (.int .i64) y0))], []⟩) x.1.2.2.2.1 x.1.2.2.2.2.1) (fun _ _ _ => rfl) (fun _ _ _ _ => rfl) (fun R x Kn k => by kernel_rfl)
theorem lm38 : ∀ c, Try.f38.body = some c → LmOk E38 C38 Try.f38.ntmps c := lmOk_of (ps := [(0, L38_1)]) (by kernel_rfl) (by kernel_rfl) ⟨ek38_1, trivial⟩
noncomputable def m38 (a0 : (List Int)) (a1 : Int) : Option ((Int × (Bool × Unit))) :=
  l38_1 a0 a1 (fun y3 =>
      (idxG ((decide (y3 < (List.length a0 : Int))) == true) 0 a0 y3).bind fun x4 =>
      (idxG (((decide (y3 < (List.length a0 : Int))) == true) && ((x4 == a1) == false)) 0 a0 y3).bind fun x5 =>
      (bif (((decide (y3 < (List.length a0 : Int))) == true) && ((x4 == a1) == false)) then (m44 x5) else some false).bind fun r6 =>
      (bif ((((decide (y3 < (List.length a0 : Int))) == true) && ((x4 == a1) == false)) && (r6 == true)) then (m44 a1) else some false).bind fun r7 =>
      some (y3, ((decide (y3 < (List.length a0 : Int))) && ((x4 == a1) || (r6 && r7))), ())) FUEL 0 (List.length a0 : Int)
noncomputable def e38 : PmE := entry 38 [(.sl (.int .i64)), (.int .i64)] true (.cons (.int .i64) (.cons .bool .nil)) (fun x => m38 x.1 x.2.1)
theorem q38 (x : tyL [(.sl (.int .i64)), (.int .i64)]) : execF E38 C38 Try.f38 (datL [(.sl (.int .i64)), (.int .i64)] x) [] (retK true (.cons (.int .i64) (.cons .bool .nil))) = m38 x.1 x.2.1 := by kernel_rfl
theorem p38 : PmOk Try.prog e38 := pm_ok (E := E38) ok38 ord lm38 Try.func38 ca38 q38

/-! 45: slices.Index[[]int,int] -/
theorem ca45 : callable Try.prog 45 := ⟨Try.f45, Try.func45, by kernel_rfl, by kernel_rfl⟩
noncomputable def E45 : Env := mkEnv2 Try.prog [] []
theorem ok45 : EnvOk E45 := mkEnv2_ok (by simp) (by simp)
/-- a round of a loop of slices.Index[[]int,int] -/
noncomputable def s45_1 {R : Type} (t0 : (List Int)) (t1 : Int) (t7 : Int) (kn : Int → Option R) (k1 : Option R) (k2 : Int → Option R) (t8 : Int) : Option R :=
  bif (decide (t8 < t7)) then
    (idx t0 t8).bind fun x1 =>
    bif (t1 == x1) then
      k2 t8
    else
      kn (IntKind.i64.wrap (t8 + 1))
  else
    k1
noncomputable def l45_1 {R : Type} (t0 : (List Int)) (t1 : Int) (t7 : Int) (k1 : Option R) (k2 : Int → Option R) : Nat → Int → Option R
  | 0, _ => none
  | n + 1, t8 => s45_1 t0 t1 t7 (l45_1 t0 t1 t7 k1 k2 n) k1 k2 t8
noncomputable def L45_1 : LE := ⟨3, 0, ⟨[(0, (.dat (.sl (.int .i64)))), (1, (.dat (.int .i64))), (7, (.dat (.int .i64))), (8, (.dat (.int .i64)))], []⟩, fun R n x k => l45_1 x.1.1 x.1.2.1 x.1.2.2.1 (k (.exit 0) ⟨[], []⟩) (fun y0 => k .ret ⟨[(4, (.dat (.int .i64) y0))], []⟩) n x.1.2.2.2.1⟩
noncomputable def C45 : Cfg := mkCfg [(3, ⟨[0, 1, 7, 8], []⟩)] [(3, (⟨[], []⟩, ⟨[4], []⟩))] (([(0, L45_1)] : List (Nat × LE)).map (·.2))
theorem ek45_1 : EOk E45 C45 Try.f45.ntmps (bodyL Try.f45 0) L45_1 := eok_of (e := L45_1) (fun R x Kn k => s45_1 x.1.1 x.1.2.1 x.1.2.2.1 (fun v0 => Kn ((x.1.1, x.1.2.1, x.1.2.2.1, v0, ()), (()))) (k (.exit 0) ⟨[], []⟩) (fun y0 => k .ret ⟨[(4, (.dat (.int .i64) y0))], []⟩) x.1.2.2.2.1) (fun _ _ _ => rfl) (fun _ _ _ _ => rfl) (fun R x Kn k => by kernel_rfl)
theorem lm45 : ∀ c, Try.f45.body = some c → LmOk E45 C45 Try.f45.ntmps c := lmOk_of (ps := [(0, L45_1)]) (by kernel_rfl) (by kernel_rfl) ⟨ek45_1, trivial⟩
noncomputable def m45 (a0 : (List Int)) (a1 : Int) : Option (Int) :=
  l45_1 a0 a1 (List.length a0 : Int) (
      some (-1)) (fun y2 =>
      some y2) FUEL 0
noncomputable def e45 : PmE := entry 45 [(.sl (.int .i64)), (.int .i64)] false (.int .i64) (fun x => m45 x.1 x.2.1)
theorem q45 (x : tyL [(.sl (.int .i64)), (.int .i64)]) : execF E45 C45 Try.f45 (datL [(.sl (.int .i64)), (.int .i64)] x) [] (retK false (.int .i64)) = m45 x.1 x.2.1 := by kernel_rfl
theorem p45 : PmOk Try.prog e45 := pm_ok (E := E45) ok45 ord lm45 Try.func45 ca45 q45

/-! 39: slices.Contains[[]int,int] -/
theorem ca39 : callable Try.prog 39 := ⟨Try.f39, Try.func39, by kernel_rfl, by kernel_rfl⟩
noncomputable def E39 : Env := mkEnv2 Try.prog [e45] []
theorem ok39 : EnvOk E39 := mkEnv2_ok (by simp only [List.mem_cons, List.not_mem_nil, or_false, forall_eq]; exact p45) (by simp)
noncomputable def C39 : Cfg := noCfg
theorem lm39 : ∀ c, Try.f39.body = some c → LmOk E39 C39 Try.f39.ntmps c := fun _ _ => noCfg_lm
noncomputable def m39 (a0 : (List Int)) (a1 : Int) : Option (Bool) :=
  (m45 a0 a1).bind fun r1 =>
  some (decide (r1 ≥ 0))
noncomputable def e39 : PmE := entry 39 [(.sl (.int .i64)), (.int .i64)] false .bool (fun x => m39 x.1 x.2.1)
theorem q39 (x : tyL [(.sl (.int .i64)), (.int .i64)]) : execF E39 C39 Try.f39 (datL [(.sl (.int .i64)), (.int .i64)] x) [] (retK false .bool) = m39 x.1 x.2.1 := by kernel_rfl
theorem p39 : PmOk Try.prog e39 := pm_ok (E := E39) ok39 ord lm39 Try.func39 ca39 q39

/-! 30: consol/cal.open -/
theorem ca30 : callable Try.prog 30 := ⟨Try.f30, Try.func30, by kernel_rfl, by kernel_rfl⟩
noncomputable def E30 : Env := mkEnv2 Try.prog [e38, e39] []
theorem ok30 : EnvOk E30 := mkEnv2_ok (by simp only [List.mem_cons, List.not_mem_nil, or_false, forall_eq_or_imp, forall_eq]; exact ⟨p38, p39⟩) (by simp)
noncomputable def C30 : Cfg := noCfg
theorem lm30 : ∀ c, Try.f30.body = some c → LmOk E30 C30 Try.f30.ntmps c := fun _ _ => noCfg_lm
noncomputable def m30 (a0 : T23) (a1 : Int) : Option (Bool) :=
  (m38 a0.2.1 a1).bind fun r1 =>
  asrt ((!r1.2.1) == true) true (
    (bif ((!r1.2.1) == true) then (m39 a0.1 (Int.tmod a1 7)) else some false).bind fun r2 =>
    some ((!r1.2.1) && (!r2)))
noncomputable def e30 : PmE := entry 30 [G23, (.int .i64)] false .bool (fun x => m30 x.1 x.2.1)
theorem q30 (x : tyL [G23, (.int .i64)]) : execF E30 C30 Try.f30 (datL [G23, (.int .i64)] x) [] (retK false .bool) = m30 x.1 x.2.1 := by kernel_rfl
theorem p30 : PmOk Try.prog e30 := pm_ok (E := E30) ok30 ord lm30 Try.func30 ca30 q30

/-! 32: consol/cal.walk -/
theorem ca32 : callable Try.prog 32 := ⟨Try.f32, Try.func32, by kernel_rfl, by kernel_rfl⟩
noncomputable def E32 : Env := mkEnv2 Try.prog [e29, e30] []
theorem ok32 : EnvOk E32 := mkEnv2_ok (by simp only [List.mem_cons, List.not_mem_nil, or_false, forall_eq_or_imp, forall_eq]; exact ⟨p29, p30⟩) (by simp)
/-- a round of a loop of consol/cal.walk -/
noncomputable def s32_1 {R : Type} (t2 : Int) (o0 : T23) (kn : Int → Option R) (k1 : Option R) (k2 : Int → Option R) (t1 : Int) : Option R :=
  (m29 t1).bind fun r1 =>
  bif r1 then
    (m30 o0 t1).bind fun r2 =>
    bif r2 then
      k2 t1
    else
      kn (IntKind.i64.wrap (t1 + t2))
  else
    k1
noncomputable def l32_1 {R : Type} (t2 : Int) (o0 : T23) (k1 : Option R) (k2 : Int → Option R) : Nat → Int → Option R
  | 0, _ => none
  | n + 1, t1 => s32_1 t2 o0 (l32_1 t2 o0 k1 k2 n) k1 k2 t1
noncomputable def L32_1 : LE := ⟨2, 0, ⟨[(1, (.dat (.int .i64))), (2, (.dat (.int .i64))), (3, (.box 0 [] 0))], [(.box (.dat G23))]⟩, fun R n x k => l32_1 x.1.2.1 x.2.1 (k (.exit 0) ⟨[], []⟩) (fun y0 => k .ret ⟨[(6, (.dat (.int .i64) y0)), (7, (.dat (.int .i64) 0))], []⟩) n x.1.1⟩
noncomputable def C32 : Cfg := mkCfg [(2, ⟨[1, 2, 3], []⟩)] [(2, (⟨[], []⟩, ⟨[6, 7], []⟩))] (([(0, L32_1)] : List (Nat × LE)).map (·.2))
theorem ek32_1 : EOk E32 C32 Try.f32.ntmps (bodyL Try.f32 0) L32_1 := eok_of (e := L32_1) (fun R x Kn k => s32_1 x.1.2.1 x.2.1 (fun v0 => Kn ((v0, x.1.2.1, (), ()), (x.2.1, ()))) (k (.exit 0) ⟨[], []⟩) (fun y0 => k .ret ⟨[(6, (.dat (.int .i64) y0)), (7, (.dat (.int .i64) 0))], []⟩) x.1.1) (fun _ _ _ => rfl) (fun _ _ _ _ => rfl) (fun R x Kn k => by kernel_rfl)
theorem lm32 : ∀ c, Try.f32.body = some c → LmOk E32 C32 Try.f32.ntmps c := lmOk_of (ps := [(0, L32_1)]) (by kernel_rfl) (by kernel_rfl) ⟨ek32_1, trivial⟩
noncomputable def m32 (a0 : T23) (a1 : Int) (a2 : Int) : Option ((Int × (Int × Unit))) :=
  l32_1 a2 a0 (
      some (0, 3, ())) (fun y3 =>
      some (y3, 0, ())) FUEL a1
noncomputable def e32 : PmE := entry 32 [G23, (.int .i64), (.int .i64)] true (.cons (.int .i64) (.cons (.int .i64) .nil)) (fun x => m32 x.1 x.2.1 x.2.2.1)
theorem q32 (x : tyL [G23, (.int .i64), (.int .i64)]) : execF E32 C32 Try.f32 (datL [G23, (.int .i64), (.int .i64)] x) [] (retK true (.cons (.int .i64) (.cons (.int .i64) .nil))) = m32 x.1 x.2.1 x.2.2.1 := by kernel_rfl
theorem p32 : PmOk Try.prog e32 := pm_ok (E := E32) ok32 ord lm32 Try.func32 ca32 q32

/-! 35: consol/date.isDay -/
theorem ca35 : callable Try.prog 35 := ⟨Try.f35, Try.func35, by kernel_rfl, by kernel_rfl⟩
noncomputable def E35 : Env := mkEnv2 Try.prog [] []
theorem ok35 : EnvOk E35 := mkEnv2_ok (by simp) (by simp)
noncomputable def C35 : Cfg := noCfg
theorem lm35 : ∀ c, Try.f35.body = some c → LmOk E35 C35 Try.f35.ntmps c := fun _ _ => noCfg_lm
noncomputable def m35 (a0 : Int) : Option (Bool) :=
  some ((decide (a0 ≥ 0)) && (decide (a0 ≤ 200000)))
noncomputable def e35 : PmE := entry 35 [(.int .i64)] false .bool (fun x => m35 x.1)
theorem q35 (x : tyL [(.int .i64)]) : execF E35 C35 Try.f35 (datL [(.int .i64)] x) [] (retK false .bool) = m35 x.1 := by kernel_rfl
theorem p35 : PmOk Try.prog e35 := pm_ok (E := E35) ok35 ord lm35 Try.func35 ca35 q35

/-! 36: consol/date.before -/
theorem ca36 : callable Try.prog 36 := ⟨Try.f36, Try.func36, by kernel_rfl, by kernel_rfl⟩
noncomputable def E36 : Env := mkEnv2 Try.prog [] []
theorem ok36 : EnvOk E36 := mkEnv2_ok (by simp) (by simp)
noncomputable def C36 : Cfg := noCfg
theorem lm36 : ∀ c, Try.f36.body = some c → LmOk E36 C36 Try.f36.ntmps c := fun _ _ => noCfg_lm
noncomputable def m36 (a0 : Int) : Option (Int) :=
  some (IntKind.i64.wrap ((IntKind.i64.wrap ((IntKind.i64.wrap ((IntKind.i64.wrap ((IntKind.i64.wrap (365 * (IntKind.i64.wrap ((IntKind.i64.wrap (a0 - 1)) - 1899)))) + (IntKind.i64.wrap (Int.tdiv (IntKind.i64.wrap (a0 - 1)) 4)))) - (IntKind.i64.wrap (Int.tdiv (IntKind.i64.wrap (a0 - 1)) 100)))) + (IntKind.i64.wrap (Int.tdiv (IntKind.i64.wrap (a0 - 1)) 400)))) - 460))
noncomputable def e36 : PmE := entry 36 [(.int .i64)] false (.int .i64) (fun x => m36 x.1)
theorem q36 (x : tyL [(.int .i64)]) : execF E36 C36 Try.f36 (datL [(.int .i64)] x) [] (retK false (.int .i64)) = m36 x.1 := by kernel_rfl
theorem p36 : PmOk Try.prog e36 := pm_ok (E := E36) ok36 ord lm36 Try.func36 ca36 q36

/-! 42: consol/date.Leap -/
theorem ca42 : callable Try.prog 42 := ⟨Try.f42, Try.func42, by kernel_rfl, by kernel_rfl⟩
noncomputable def E42 : Env := mkEnv2 Try.prog [] []
theorem ok42 : EnvOk E42 := mkEnv2_ok (by simp) (by simp)
noncomputable def C42 : Cfg := noCfg
theorem lm42 : ∀ c, Try.f42.body = some c → LmOk E42 C42 Try.f42.ntmps c := fun _ _ => noCfg_lm
noncomputable def m42 (a0 : Int) : Option (Bool) :=
  asrt (((Int.tmod a0 4) == 0) == true) true (
    asrt ((((Int.tmod a0 4) == 0) == true) && (((Int.tmod a0 100) != 0) == false)) true (
      some (((Int.tmod a0 4) == 0) && (((Int.tmod a0 100) != 0) || ((Int.tmod a0 400) == 0)))))
noncomputable def e42 : PmE := entry 42 [(.int .i64)] false .bool (fun x => m42 x.1)
theorem q42 (x : tyL [(.int .i64)]) : execF E42 C42 Try.f42 (datL [(.int .i64)] x) [] (retK false .bool) = m42 x.1 := by kernel_rfl
theorem p42 : PmOk Try.prog e42 := pm_ok (E := E42) ok42 ord lm42 Try.func42 ca42 q42

/-! 37: consol/date.Last -/
theorem ca37 : callable Try.prog 37 := ⟨Try.f37, Try.func37, by kernel_rfl, by kernel_rfl⟩
noncomputable def E37 : Env := mkEnv2 Try.prog [e42] []
theorem ok37 : EnvOk E37 := mkEnv2_ok (by simp only [List.mem_cons, List.not_mem_nil, or_false, forall_eq]; exact p42) (by simp)
noncomputable def C37 : Cfg := mkCfg [(10, ⟨[0, 5, 6], []⟩), (15, ⟨[0, 5, 14], []⟩), (20, ⟨[], []⟩)] [] (([] : List (Nat × LE)).map (·.2))
theorem lm37 : ∀ c, Try.f37.body = some c → LmOk E37 C37 Try.f37.ntmps c := lmOk_of (ps := []) (by kernel_rfl) (by kernel_rfl) trivial
noncomputable def m37 (a0 : Int) (a1 : Int) : Option (Int) :=
  cont (fun (k1 : Bool → _) =>
    bif (a1 == 1) then
      k1 (a1 == 1)
    else
      bif (a1 == 3) then
        k1 (a1 == 3)
      else
        bif (a1 == 5) then
          k1 (a1 == 5)
        else
          bif (a1 == 7) then
            k1 (a1 == 7)
          else
            bif (a1 == 8) then
              k1 (a1 == 8)
            else
              bif (a1 == 10) then
                k1 (a1 == 10)
              else
                k1 (a1 == 12)) fun y1 =>
  bif y1 then
    some 31
  else
    cont (fun (k2 : Bool → _) =>
      bif (a1 == 4) then
        k2 (a1 == 4)
      else
        bif (a1 == 6) then
          k2 (a1 == 6)
        else
          bif (a1 == 9) then
            k2 (a1 == 9)
          else
            k2 (a1 == 11)) fun y2 =>
    bif y2 then
      some 30
    else
      bif (a1 == 2) then
        (m42 a0).bind fun r3 =>
        bif r3 then
          some 29
        else
          some 28
      else
        some 0
noncomputable def e37 : PmE := entry 37 [(.int .i64), (.int .i64)] false (.int .i64) (fun x => m37 x.1 x.2.1)
theorem q37 (x : tyL [(.int .i64), (.int .i64)]) : execF E37 C37 Try.f37 (datL [(.int .i64), (.int .i64)] x) [] (retK false (.int .i64)) = m37 x.1 x.2.1 := by kernel_rfl
theorem p37 : PmOk Try.prog e37 := pm_ok (E := E37) ok37 ord lm37 Try.func37 ca37 q37

/-! 22: consol/date.Parts -/
theorem ca22 : callable Try.prog 22 := ⟨Try.f22, Try.func22, by kernel_rfl, by kernel_rfl⟩
noncomputable def E22 : Env := mkEnv2 Try.prog [e35, e36, e37] []
theorem ok22 : EnvOk E22 := mkEnv2_ok (by simp only [List.mem_cons, List.not_mem_nil, or_false, forall_eq_or_imp, forall_eq]; exact ⟨p35, p36, p37⟩) (by simp)
/-- a round of a loop of consol/date.Parts -/
noncomputable def s22_1 {R : Type} (t0 : Int) (kn : Int → Option R) (k1 : Int → Option R) (t2 : Int) : Option R :=
  (m36 (IntKind.i64.wrap (t2 + 1))).bind fun r2 =>
  bif (decide (r2 ≤ t0)) then
    kn (IntKind.i64.wrap (t2 + 1))
  else
    k1 t2
noncomputable def l22_1 {R : Type} (t0 : Int) (k1 : Int → Option R) : Nat → Int → Option R
  | 0, _ => none
  | n + 1, t2 => s22_1 t0 (l22_1 t0 k1 n) k1 t2
noncomputable def L22_1 : LE := ⟨5, 0, ⟨[(0, (.dat (.int .i64))), (2, (.dat (.int .i64)))], []⟩, fun R n x k => l22_1 x.1.1 (fun y0 => k (.exit 0) ⟨[(0, (.dat (.int .i64) x.1.1)), (2, (.dat (.int .i64) y0))], []⟩) n x.1.2.1⟩
/-- a round of a loop of consol/date.Parts -/
noncomputable def s22_2 {R : Type} (t2 : Int) (kn : Int → Int → Option R) (k1 : Int → Int → Option R) (t3 : Int) (t6 : Int) : Option R :=
  (m37 t2 t3).bind fun r5 =>
  bif (decide (t6 ≥ r5)) then
    (m37 t2 t3).bind fun r6 =>
    kn (IntKind.i64.wrap (t3 + 1)) (IntKind.i64.wrap (t6 - r6))
  else
    k1 t3 t6
noncomputable def l22_2 {R : Type} (t2 : Int) (k1 : Int → Int → Option R) : Nat → Int → Int → Option R
  | 0, _, _ => none
  | n + 1, t3, t6 => s22_2 t2 (l22_2 t2 k1 n) k1 t3 t6
noncomputable def L22_2 : LE := ⟨9, 0, ⟨[(2, (.dat (.int .i64))), (3, (.dat (.int .i64))), (6, (.dat (.int .i64)))], []⟩, fun R n x k => l22_2 x.1.1 (fun y0 y1 => k (.exit 2) ⟨[(2, (.dat (.int .i64) x.1.1)), (3, (.dat (.int .i64) y0)), (6, (.dat (.int .i64) y1))], []⟩) n x.1.2.1 x.1.2.2.1⟩
noncomputable def C22 : Cfg := mkCfg [(5, ⟨[0, 2], []⟩), (9, ⟨[2, 3, 6], []⟩)] [(5, (⟨[0, 2], []⟩, ⟨[2, 3, 4, 5], []⟩)), (9, (⟨[2, 3, 6], []⟩, ⟨[2, 3, 4, 5], []⟩))] (([(0, L22_1), (1, L22_2)] : List (Nat × LE)).map (·.2))
theorem ek22_1 : EOk E22 C22 Try.f22.ntmps (bodyL Try.f22 0) L22_1 := eok_of (e := L22_1) (fun R x Kn k => s22_1 x.1.1 (fun v0 => Kn ((x.1.1, v0, ()), (()))) (fun y0 => k (.exit 0) ⟨[(0, (.dat (.int .i64) x.1.1)), (2, (.dat (.int .i64) y0))], []⟩) x.1.2.1) (fun _ _ _ => rfl) (fun _ _ _ _ => rfl) (fun R x Kn k => by kernel_rfl)
theorem ek22_2 : EOk E22 C22 Try.f22.ntmps (bodyL Try.f22 1) L22_2 := eok_of (e := L22_2) (fun R x Kn k => s22_2 x.1.1 (fun v0 v1 => Kn ((x.1.1, v0, v1, ()), (()))) (fun y0 y1 => k (.exit 2) ⟨[(2, (.dat (.int .i64) x.1.1)), (3, (.dat (.int .i64) y0)), (6, (.dat (.int .i64) y1))], []⟩) x.1.2.1 x.1.2.2.1) (fun _ _ _ => rfl) (fun _ _ _ _ => rfl) (fun R x Kn k => by kernel_rfl)
theorem lm22 : ∀ c, Try.f22.body = some c → LmOk E22 C22 Try.f22.ntmps c := lmOk_of (ps := [(0, L22_1), (1, L22_2)]) (by kernel_rfl) (by kernel_rfl) ⟨ek22_1, ek22_2, trivial⟩
noncomputable def m22 (a0 : Int) : Option ((Int × (Int × (Int × (Int × Unit))))) :=
  (m35 a0).bind fun r1 =>
  bif (!r1) then
    some (0, 0, 0, 3, ())
  else
    l22_1 a0 (fun y3 =>
        (m36 y3).bind fun r4 =>
        l22_2 y3 (fun y7 y8 =>
            some (y3, y7, (IntKind.i64.wrap (y8 + 1)), 0, ())) FUEL 1 (IntKind.i64.wrap (a0 - r4))) FUEL (IntKind.i64.wrap (1900 + (IntKind.i64.wrap (Int.tdiv a0 366))))
noncomputable def e22 : PmE := entry 22 [(.int .i64)] true (.cons (.int .i64) (.cons (.int .i64) (.cons (.int .i64) (.cons (.int .i64) .nil)))) (fun x => m22 x.1)
theorem q22 (x : tyL [(.int .i64)]) : execF E22 C22 Try.f22 (datL [(.int .i64)] x) [] (retK true (.cons (.int .i64) (.cons (.int .i64) (.cons (.int .i64) (.cons (.int .i64) .nil))))) = m22 x.1 := by kernel_rfl
theorem p22 : PmOk Try.prog e22 := pm_ok (E := E22) ok22 ord lm22 Try.func22 ca22 q22

/-! 33: consol/cal.month -/
theorem ca33 : callable Try.prog 33 := ⟨Try.f33, Try.func33, by kernel_rfl, by kernel_rfl⟩
noncomputable def E33 : Env := mkEnv2 Try.prog [e22] []
theorem ok33 : EnvOk E33 := mkEnv2_ok (by simp only [List.mem_cons, List.not_mem_nil, or_false, forall_eq]; exact p22) (by simp)
noncomputable def C33 : Cfg := noCfg
theorem lm33 : ∀ c, Try.f33.body = some c → LmOk E33 C33 Try.f33.ntmps c := fun _ _ => noCfg_lm
noncomputable def m33 (a0 : Int) : Option (Int) :=
  (m22 a0).bind fun r1 =>
  some (IntKind.i64.wrap ((IntKind.i64.wrap (12 * r1.1)) + r1.2.1))
noncomputable def e33 : PmE := entry 33 [(.int .i64)] false (.int .i64) (fun x => m33 x.1)
theorem q33 (x : tyL [(.int .i64)]) : execF E33 C33 Try.f33 (datL [(.int .i64)] x) [] (retK false (.int .i64)) = m33 x.1 := by kernel_rfl
theorem p33 : PmOk Try.prog e33 := pm_ok (E := E33) ok33 ord lm33 Try.func33 ca33 q33

/-! 18: consol/cal.Adjust -/
theorem ca18 : callable Try.prog 18 := ⟨Try.f18, Try.func18, by kernel_rfl, by kernel_rfl⟩
noncomputable def E18 : Env := mkEnv2 Try.prog [e14, e29, e32, e33] []
theorem ok18 : EnvOk E18 := mkEnv2_ok (by simp only [List.mem_cons, List.not_mem_nil, or_false, forall_eq_or_imp, forall_eq]; exact ⟨p14, p29, p32, p33⟩) (by simp)
noncomputable def C18 : Cfg := mkCfg [(13, ⟨[1, 3], []⟩)] [] (([] : List (Nat × LE)).map (·.2))
theorem lm18 : ∀ c, Try.f18.body = some c → LmOk E18 C18 Try.f18.ntmps c := lmOk_of (ps := []) (by kernel_rfl) (by kernel_rfl) trivial
noncomputable def m18 (a0 : T23) (a1 : Int) (a2 : Int) : Option ((Int × (Int × Unit))) :=
  (m14 a0).bind fun r1 =>
  (bif ((!r1) == false) then (m29 a1) else some false).bind fun r2 =>
  bif ((((!r1) || (!r2)) || (decide (a2 < 0))) || (decide (a2 ≥ 4))) then
    some (0, 1, ())
  else
    cont (fun (k7 : Unit → _) =>
      bif (a2 == 0) then
        some (a1, 0, ())
      else
        bif (a2 == 1) then
          (m32 a0 a1 1).bind fun r3 =>
          some (r3.1, r3.2.1, ())
        else
          bif (a2 == 2) then
            (m32 a0 a1 1).bind fun r4 =>
            (bif ((r4.2.1 == 0) == true) then (m33 r4.1) else some 0).bind fun r5 =>
            (bif ((r4.2.1 == 0) == true) then (m33 a1) else some 0).bind fun r6 =>
            bif ((r4.2.1 == 0) && (r5 == r6)) then
              some (r4.1, 0, ())
            else
              k7 ()
          else
            k7 ()) fun _ =>
    (m32 a0 a1 (-1)).bind fun r8 =>
    some (r8.1, r8.2.1, ())
noncomputable def e18 : PmE := entry 18 [G23, (.int .i64), (.int .i64)] true (.cons (.int .i64) (.cons (.int .i64) .nil)) (fun x => m18 x.1 x.2.1 x.2.2.1)
theorem q18 (x : tyL [G23, (.int .i64), (.int .i64)]) : execF E18 C18 Try.f18 (datL [G23, (.int .i64), (.int .i64)] x) [] (retK true (.cons (.int .i64) (.cons (.int .i64) .nil))) = m18 x.1 x.2.1 x.2.2.1 := by kernel_rfl
theorem p18 : PmOk Try.prog e18 := pm_ok (E := E18) ok18 ord lm18 Try.func18 ca18 q18

/-! 10: consol/cal.Next -/
theorem ca10 : callable Try.prog 10 := ⟨Try.f10, Try.func10, by kernel_rfl, by kernel_rfl⟩
noncomputable def E10 : Env := mkEnv2 Try.prog [e18] []
theorem ok10 : EnvOk E10 := mkEnv2_ok (by simp only [List.mem_cons, List.not_mem_nil, or_false, forall_eq]; exact p18) (by simp)
noncomputable def C10 : Cfg := noCfg
theorem lm10 : ∀ c, Try.f10.body = some c → LmOk E10 C10 Try.f10.ntmps c := fun _ _ => noCfg_lm
noncomputable def m10 (a0 : T23) (a1 : Int) : Option ((Int × (Int × Unit))) :=
  (m18 a0 a1 1).bind fun r1 =>
  some (r1.1, r1.2.1, ())
noncomputable def e10 : PmE := entry 10 [G23, (.int .i64)] true (.cons (.int .i64) (.cons (.int .i64) .nil)) (fun x => m10 x.1 x.2.1)
theorem q10 (x : tyL [G23, (.int .i64)]) : execF E10 C10 Try.f10 (datL [G23, (.int .i64)] x) [] (retK true (.cons (.int .i64) (.cons (.int .i64) .nil))) = m10 x.1 x.2.1 := by kernel_rfl
theorem p10 : PmOk Try.prog e10 := pm_ok (E := E10) ok10 ord lm10 Try.func10 ca10 q10

/-! 12: consol/cal.Before -/
theorem ca12 : callable Try.prog 12 := ⟨Try.f12, Try.func12, by kernel_rfl, by kernel_rfl⟩
noncomputable def E12 : Env := mkEnv2 Try.prog [e18] []
theorem ok12 : EnvOk E12 := mkEnv2_ok (by simp only [List.mem_cons, List.not_mem_nil, or_false, forall_eq]; exact p18) (by simp)
noncomputable def C12 : Cfg := noCfg
theorem lm12 : ∀ c, Try.f12.body = some c → LmOk E12 C12 Try.f12.ntmps c := fun _ _ => noCfg_lm
noncomputable def m12 (a0 : T23) (a1 : Int) : Option ((Int × (Int × Unit))) :=
  (m18 a0 a1 3).bind fun r1 =>
  some (r1.1, r1.2.1, ())
noncomputable def e12 : PmE := entry 12 [G23, (.int .i64)] true (.cons (.int .i64) (.cons (.int .i64) .nil)) (fun x => m12 x.1 x.2.1)
theorem q12 (x : tyL [G23, (.int .i64)]) : execF E12 C12 Try.f12 (datL [G23, (.int .i64)] x) [] (retK true (.cons (.int .i64) (.cons (.int .i64) .nil))) = m12 x.1 x.2.1 := by kernel_rfl
theorem p12 : PmOk Try.prog e12 := pm_ok (E := E12) ok12 ord lm12 Try.func12 ca12 q12

/-! 20: consol/cal.Back -/
theorem ca20 : callable Try.prog 20 := ⟨Try.f20, Try.func20, by kernel_rfl, by kernel_rfl⟩
noncomputable def E20 : Env := mkEnv2 Try.prog [e14, e29, e32] []
theorem ok20 : EnvOk E20 := mkEnv2_ok (by simp only [List.mem_cons, List.not_mem_nil, or_false, forall_eq_or_imp, forall_eq]; exact ⟨p14, p29, p32⟩) (by simp)
/-- a round of a loop of consol/cal.Back -/
noncomputable def s20_1 {R : Type} (t26 : Int) (o0 : T23) (kn : Int → Int → Option R) (k1 : Int → Option R) (k2 : Int → Option R) (t1 : Int) (t27 : Int) : Option R :=
  bif (decide (t27 < t26)) then
    (m32 o0 (IntKind.i64.wrap (t1 - 1)) (-1)).bind fun r3 =>
    bif (r3.2.1 != 0) then
      k2 r3.2.1
    else
      kn r3.1 (IntKind.i64.wrap (t27 + 1))
  else
    k1 t1
noncomputable def l20_1 {R : Type} (t26 : Int) (o0 : T23) (k1 : Int → Option R) (k2 : Int → Option R) : Nat → Int → Int → Option R
  | 0, _, _ => none
  | n + 1, t1, t27 => s20_1 t26 o0 (l20_1 t26 o0 k1 k2 n) k1 k2 t1 t27
noncomputable def L20_1 : LE := ⟨5, 0, ⟨[(1, (.dat (.int .i64))), (3, (.box 0 [] 0)), (26, (.dat (.int .i64))), (27, (.dat (.int .i64)))], [(.box (.dat G23))]⟩, fun R n x k => l20_1 x.1.2.2.1 x.2.1 (fun y0 => k (.exit 0) ⟨[(1, (.dat (.int .i64) y0))], []⟩) (fun y0 => k .ret ⟨[(6, (.dat (.int .i64) 0)), (7, (.dat (.int .i64) y0))], []⟩) n x.1.1 x.1.2.2.2.1⟩
noncomputable def C20 : Cfg := mkCfg [(5, ⟨[1, 3, 26, 27], []⟩)] [(5, (⟨[1], []⟩, ⟨[6, 7], []⟩))] (([(0, L20_1)] : List (Nat × LE)).map (·.2))
theorem ek20_1 : EOk E20 C20 Try.f20.ntmps (bodyL Try.f20 0) L20_1 := eok_of (e := L20_1) (fun R x Kn k => s20_1 x.1.2.2.1 x.2.1 (fun v0 v1 => Kn ((v0, (), x.1.2.2.1, v1, ()), (x.2.1, ()))) (fun y0 => k (.exit 0) ⟨[(1, (.dat (.int .i64) y0))], []⟩) (fun y0 => k .ret ⟨[(6, (.dat (.int .i64) 0)), (7, (.dat (.int .i64) y0))], []⟩) x.1.1 x.1.2.2.2.1) (fun _ _ _ => rfl) (fun _ _ _ _ => rfl) (fun R x Kn k => by kernel_rfl)
theorem lm20 : ∀ c, Try.f20.body = some c → LmOk E20 C20 Try.f20.ntmps c := lmOk_of (ps := [(0, L20_1)]) (by kernel_rfl) (by kernel_rfl) ⟨ek20_1, trivial⟩
noncomputable def m20 (a0 : T23) (a1 : Int) (a2 : Int) : Option ((Int × (Int × Unit))) :=
  (m14 a0).bind fun r1 =>
  (bif ((!r1) == false) then (m29 a1) else some false).bind fun r2 =>
  bif ((((!r1) || (!r2)) || (decide (a2 < 0))) || (decide (a2 > 1000))) then
    some (0, 1, ())
  else
    l20_1 a2 a0 (fun y4 =>
        some (y4, 0, ())) (fun y5 =>
        some (0, y5, ())) FUEL a1 0
noncomputable def e20 : PmE := entry 20 [G23, (.int .i64), (.int .i64)] true (.cons (.int .i64) (.cons (.int .i64) .nil)) (fun x => m20 x.1 x.2.1 x.2.2.1)
theorem q20 (x : tyL [G23, (.int .i64), (.int .i64)]) : execF E20 C20 Try.f20 (datL [G23, (.int .i64), (.int .i64)] x) [] (retK true (.cons (.int .i64) (.cons (.int .i64) .nil))) = m20 x.1 x.2.1 x.2.2.1 := by kernel_rfl
theorem p20 : PmOk Try.prog e20 := pm_ok (E := E20) ok20 ord lm20 Try.func20 ca20 q20

/-! 16: consol/cal.Business -/
theorem ca16 : callable Try.prog 16 := ⟨Try.f16, Try.func16, by kernel_rfl, by kernel_rfl⟩
noncomputable def E16 : Env := mkEnv2 Try.prog [e14, e29, e30] []
theorem ok16 : EnvOk E16 := mkEnv2_ok (by simp only [List.mem_cons, List.not_mem_nil, or_false, forall_eq_or_imp, forall_eq]; exact ⟨p14, p29, p30⟩) (by simp)
noncomputable def C16 : Cfg := noCfg
theorem lm16 : ∀ c, Try.f16.body = some c → LmOk E16 C16 Try.f16.ntmps c := fun _ _ => noCfg_lm
noncomputable def m16 (a0 : T23) (a1 : Int) : Option (Bool) :=
  (m14 a0).bind fun r1 =>
  (bif (r1 == true) then (m29 a1) else some false).bind fun r2 =>
  (bif ((r1 && r2) == true) then (m30 a0 a1) else some false).bind fun r3 =>
  some ((r1 && r2) && r3)
noncomputable def e16 : PmE := entry 16 [G23, (.int .i64)] false .bool (fun x => m16 x.1 x.2.1)
theorem q16 (x : tyL [G23, (.int .i64)]) : execF E16 C16 Try.f16 (datL [G23, (.int .i64)] x) [] (retK false .bool) = m16 x.1 x.2.1 := by kernel_rfl
theorem p16 : PmOk Try.prog e16 := pm_ok (E := E16) ok16 ord lm16 Try.func16 ca16 q16

/-! 8: consol/consollaw08.small -/
theorem ca8 : callable Try.prog 8 := ⟨Try.f8, Try.func8, by kernel_rfl, by kernel_rfl⟩
noncomputable def E8 : Env := mkEnv2 Try.prog [e10, e12, e14, e16, e18, e20, e24] []
theorem ok8 : EnvOk E8 := mkEnv2_ok (by simp only [List.mem_cons, List.not_mem_nil, or_false, forall_eq_or_imp, forall_eq]; exact ⟨p10, p12, p14, p16, p18, p20, p24⟩) (by simp)
noncomputable def C8 : Cfg := noCfg
theorem lm8 : ∀ c, Try.f8.body = some c → LmOk E8 C8 Try.f8.ntmps c := fun _ _ => noCfg_lm
noncomputable def m8  : Option (Bool) :=
  (m24).bind fun r1 =>
  (m10 r1 5).bind fun r2 =>
  (m12 r1 6).bind fun r3 =>
  (m10 r1 30).bind fun r4 =>
  (m18 r1 30 2).bind fun r5 =>
  (m18 r1 30 1).bind fun r6 =>
  (m20 r1 7 1).bind fun r7 =>
  (m20 r1 32 2).bind fun r8 =>
  (m20 r1 4 5).bind fun r9 =>
  (m16 r1 0).bind fun r10 =>
  (bif (r10 == true) then (m16 r1 5) else some false).bind fun r11 =>
  (bif ((r10 && (!r11)) == true) then (m16 r1 30) else some false).bind fun r12 =>
  (bif ((((((((((((r10 && (!r11)) && (!r12)) && (r2.1 == 7)) && (r3.1 == 4)) && (r4.1 == 31)) && (r5.1 == 29)) && (r6.1 == 31)) && (r7.1 == 4)) && (r8.1 == 29)) && (((((((r2.2.1 == 0) && (r3.2.1 == 0)) && (r4.2.1 == 0)) && (r5.2.1 == 0)) && (r6.2.1 == 0)) && (r7.2.1 == 0)) && (r8.2.1 == 0))) && (r9.2.1 == 3)) == true) then (m14 r1) else some false).bind fun r13 =>
  some ((((((((((((r10 && (!r11)) && (!r12)) && (r2.1 == 7)) && (r3.1 == 4)) && (r4.1 == 31)) && (r5.1 == 29)) && (r6.1 == 31)) && (r7.1 == 4)) && (r8.1 == 29)) && (((((((r2.2.1 == 0) && (r3.2.1 == 0)) && (r4.2.1 == 0)) && (r5.2.1 == 0)) && (r6.2.1 == 0)) && (r7.2.1 == 0)) && (r8.2.1 == 0))) && (r9.2.1 == 3)) && r13)
noncomputable def e8 : PmE := entry 8 [] false .bool (fun x => m8 )
theorem q8 (x : tyL []) : execF E8 C8 Try.f8 (datL [] x) [] (retK false .bool) = m8  := by kernel_rfl
theorem p8 : PmOk Try.prog e8 := pm_ok (E := E8) ok8 ord lm8 Try.func8 ca8 q8

/-! 9: consol/consolref08.Few -/
theorem ca9 : callable Try.prog 9 := ⟨Try.f9, Try.func9, by kernel_rfl, by kernel_rfl⟩
noncomputable def E9 : Env := mkEnv2 Try.prog [] []
theorem ok9 : EnvOk E9 := mkEnv2_ok (by simp) (by simp)
noncomputable def C9 : Cfg := noCfg
theorem lm9 : ∀ c, Try.f9.body = some c → LmOk E9 C9 Try.f9.ntmps c := fun _ _ => noCfg_lm
noncomputable def m9 (a0 : T23) : Option (Bool) :=
  some ((decide ((List.length a0.1 : Int) ≤ 20)) && (decide ((List.length a0.2.1 : Int) ≤ 20)))
noncomputable def e9 : PmE := entry 9 [G23] false .bool (fun x => m9 x.1)
theorem q9 (x : tyL [G23]) : execF E9 C9 Try.f9 (datL [G23] x) [] (retK false .bool) = m9 x.1 := by kernel_rfl
theorem p9 : PmOk Try.prog e9 := pm_ok (E := E9) ok9 ord lm9 Try.func9 ca9 q9

/-! 28: consol/consolref08.ascending -/
theorem ca28 : callable Try.prog 28 := ⟨Try.f28, Try.func28, by kernel_rfl, by kernel_rfl⟩
noncomputable def E28 : Env := mkEnv2 Try.prog [] []
theorem ok28 : EnvOk E28 := mkEnv2_ok (by simp) (by simp)
/-- a round of a loop of consol/consolref08.ascending -/
noncomputable def s28_1 {R : Type} (t0 : (List Int)) (t1 : Int) (kn : Int → Option R) (k1 : Option R) (k2 : Option R) (t5 : Int) : Option R :=
  bif (decide (t5 < (List.length t0 : Int))) then
    (idx t0 t5).bind fun x1 =>
    (idxG ((decide (x1 < 0)) == false) 0 t0 t5).bind fun x2 =>
    (idxG ((((decide (x1 < 0)) || (decide (x2 > t1))) == false) && ((decide (t5 > 0)) == true)) 0 t0 (IntKind.i64.wrap (t5 - 1))).bind fun x3 =>
    (idxG ((((decide (x1 < 0)) || (decide (x2 > t1))) == false) && ((decide (t5 > 0)) == true)) 0 t0 t5).bind fun x4 =>
    bif (((decide (x1 < 0)) || (decide (x2 > t1))) || ((decide (t5 > 0)) && (decide (x3 ≥ x4)))) then
      k2
    else
      kn (IntKind.i64.wrap (t5 + 1))
  else
    k1
noncomputable def l28_1 {R : Type} (t0 : (List Int)) (t1 : Int) (k1 : Option R) (k2 : Option R) : Nat → Int → Option R
  | 0, _ => none
  | n + 1, t5 => s28_1 t0 t1 (l28_1 t0 t1 k1 k2 n) k1 k2 t5
noncomputable def L28_1 : LE := ⟨3, 0, ⟨[(0, (.dat (.sl (.int .i64)))), (1, (.dat (.int .i64))), (5, (.dat (.int .i64)))], []⟩, fun R n x k => l28_1 x.1.1 x.1.2.1 (k (.exit 0) ⟨[], []⟩) (k .ret ⟨[(4, (.dat .bool false))], []⟩) n x.1.2.2.1⟩
noncomputable def C28 : Cfg := mkCfg [(3, ⟨[0, 1, 5], []⟩)] [(3, (⟨[], []⟩, ⟨[4], []⟩))] (([(0, L28_1)] : List (Nat × LE)).map (·.2))
theorem ek28_1 : EOk E28 C28 Try.f28.ntmps (bodyL Try.f28 0) L28_1 := eok_of (e := L28_1) (fun R x Kn k => s28_1 x.1.1 x.1.2.1 (fun v0 => Kn ((x.1.1, x.1.2.1, v0, ()), (()))) (k (.exit 0) ⟨[], []⟩) (k .ret ⟨[(4, (.dat .bool false))], []⟩) x.1.2.2.1) (fun _ _ _ => rfl) (fun _ _ _ _ => rfl) (fun R x Kn k => by kernel_rfl)
theorem lm28 : ∀ c, Try.f28.body = some c → LmOk E28 C28 Try.f28.ntmps c := lmOk_of (ps := [(0, L28_1)]) (by kernel_rfl) (by kernel_rfl) ⟨ek28_1, trivial⟩
noncomputable def m28 (a0 : (List Int)) (a1 : Int) : Option (Bool) :=
  l28_1 a0 a1 (
      some true) (
      some false) FUEL 0
noncomputable def e28 : PmE := entry 28 [(.sl (.int .i64)), (.int .i64)] false .bool (fun x => m28 x.1 x.2.1)
theorem q28 (x : tyL [(.sl (.int .i64)), (.int .i64)]) : execF E28 C28 Try.f28 (datL [(.sl (.int .i64)), (.int .i64)] x) [] (retK false .bool) = m28 x.1 x.2.1 := by kernel_rfl
theorem p28 : PmOk Try.prog e28 := pm_ok (E := E28) ok28 ord lm28 Try.func28 ca28 q28

/-! 15: consol/consolref08.Right -/
theorem ca15 : callable Try.prog 15 := ⟨Try.f15, Try.func15, by kernel_rfl, by kernel_rfl⟩
noncomputable def E15 : Env := mkEnv2 Try.prog [e28] []
theorem ok15 : EnvOk E15 := mkEnv2_ok (by simp only [List.mem_cons, List.not_mem_nil, or_false, forall_eq]; exact p28) (by simp)
noncomputable def C15 : Cfg := noCfg
theorem lm15 : ∀ c, Try.f15.body = some c → LmOk E15 C15 Try.f15.ntmps c := fun _ _ => noCfg_lm
noncomputable def m15 (a0 : T23) : Option (Bool) :=
  (bif (((decide ((List.length a0.1 : Int) ≤ 6)) && (decide ((List.length a0.2.1 : Int) ≤ 4000))) == true) then (m28 a0.1 6) else some false).bind fun r1 =>
  (bif ((((decide ((List.length a0.1 : Int) ≤ 6)) && (decide ((List.length a0.2.1 : Int) ≤ 4000))) && r1) == true) then (m28 a0.2.1 200000) else some false).bind fun r2 =>
  some ((((decide ((List.length a0.1 : Int) ≤ 6)) && (decide ((List.length a0.2.1 : Int) ≤ 4000))) && r1) && r2)
noncomputable def e15 : PmE := entry 15 [G23] false .bool (fun x => m15 x.1)
theorem q15 (x : tyL [G23]) : execF E15 C15 Try.f15 (datL [G23] x) [] (retK false .bool) = m15 x.1 := by kernel_rfl
theorem p15 : PmOk Try.prog e15 := pm_ok (E := E15) ok15 ord lm15 Try.func15 ca15 q15

/-! 25: consol/consolref08.day -/
theorem ca25 : callable Try.prog 25 := ⟨Try.f25, Try.func25, by kernel_rfl, by kernel_rfl⟩
noncomputable def E25 : Env := mkEnv2 Try.prog [] []
theorem ok25 : EnvOk E25 := mkEnv2_ok (by simp) (by simp)
noncomputable def C25 : Cfg := noCfg
theorem lm25 : ∀ c, Try.f25.body = some c → LmOk E25 C25 Try.f25.ntmps c := fun _ _ => noCfg_lm
noncomputable def m25 (a0 : Int) : Option (Bool) :=
  some ((decide (a0 ≥ 0)) && (decide (a0 ≤ 200000)))
noncomputable def e25 : PmE := entry 25 [(.int .i64)] false .bool (fun x => m25 x.1)
theorem q25 (x : tyL [(.int .i64)]) : execF E25 C25 Try.f25 (datL [(.int .i64)] x) [] (retK false .bool) = m25 x.1 := by kernel_rfl
theorem p25 : PmOk Try.prog e25 := pm_ok (E := E25) ok25 ord lm25 Try.func25 ca25 q25

/-! 31: consol/consolref08.has -/
theorem ca31 : callable Try.prog 31 := ⟨Try.f31, Try.func31, by kernel_rfl, by kernel_rfl⟩
noncomputable def E31 : Env := mkEnv2 Try.prog [] []
theorem ok31 : EnvOk E31 := mkEnv2_ok (by simp) (by simp)
/-- a round of a loop of consol/consolref08.has -/
noncomputable def s31_1 {R : Type} (t0 : (List Int)) (t1 : Int) (kn : Int → Option R) (k1 : Option R) (k2 : Option R) (t5 : Int) : Option R :=
  bif (decide (t5 < (List.length t0 : Int))) then
    (idx t0 t5).bind fun x1 =>
    bif (x1 == t1) then
      k2
    else
      kn (IntKind.i64.wrap (t5 + 1))
  else
    k1
noncomputable def l31_1 {R : Type} (t0 : (List Int)) (t1 : Int) (k1 : Option R) (k2 : Option R) : Nat → Int → Option R
  | 0, _ => none
  | n + 1, t5 => s31_1 t0 t1 (l31_1 t0 t1 k1 k2 n) k1 k2 t5
noncomputable def L31_1 : LE := ⟨3, 0, ⟨[(0, (.dat (.sl (.int .i64)))), (1, (.dat (.int .i64))), (5, (.dat (.int .i64)))], []⟩, fun R n x k => l31_1 x.1.1 x.1.2.1 (k (.exit 0) ⟨[], []⟩) (k .ret ⟨[(4, (.dat .bool true))], []⟩) n x.1.2.2.1⟩
noncomputable def C31 : Cfg := mkCfg [(3, ⟨[0, 1, 5], []⟩)] [(3, (⟨[], []⟩, ⟨[4], []⟩))] (([(0, L31_1)] : List (Nat × LE)).map (·.2))
theorem ek31_1 : EOk E31 C31 Try.f31.ntmps (bodyL Try.f31 0) L31_1 := eok_of (e := L31_1) (fun R x Kn k => s31_1 x.1.1 x.1.2.1 (fun v0 => Kn ((x.1.1, x.1.2.1, v0, ()), (()))) (k (.exit 0) ⟨[], []⟩) (k .ret ⟨[(4, (.dat .bool true))], []⟩) x.1.2.2.1) (fun _ _ _ => rfl) (fun _ _ _ _ => rfl) (fun R x Kn k => by kernel_rfl)
theorem lm31 : ∀ c, Try.f31.body = some c → LmOk E31 C31 Try.f31.ntmps c := lmOk_of (ps := [(0, L31_1)]) (by kernel_rfl) (by kernel_rfl) ⟨ek31_1, trivial⟩
noncomputable def m31 (a0 : (List Int)) (a1 : Int) : Option (Bool) :=
  l31_1 a0 a1 (
      some false) (
      some true) FUEL 0
noncomputable def e31 : PmE := entry 31 [(.sl (.int .i64)), (.int .i64)] false .bool (fun x => m31 x.1 x.2.1)
theorem q31 (x : tyL [(.sl (.int .i64)), (.int .i64)]) : execF E31 C31 Try.f31 (datL [(.sl (.int .i64)), (.int .i64)] x) [] (retK false .bool) = m31 x.1 x.2.1 := by kernel_rfl
theorem p31 : PmOk Try.prog e31 := pm_ok (E := E31) ok31 ord lm31 Try.func31 ca31 q31

/-! 17: consol/consolref08.Business -/
theorem ca17 : callable Try.prog 17 := ⟨Try.f17, Try.func17, by kernel_rfl, by kernel_rfl⟩
noncomputable def E17 : Env := mkEnv2 Try.prog [e15, e25, e31] []
theorem ok17 : EnvOk E17 := mkEnv2_ok (by simp only [List.mem_cons, List.not_mem_nil, or_false, forall_eq_or_imp, forall_eq]; exact ⟨p15, p25, p31⟩) (by simp)
noncomputable def C17 : Cfg := noCfg
theorem lm17 : ∀ c, Try.f17.body = some c → LmOk E17 C17 Try.f17.ntmps c := fun _ _ => noCfg_lm
noncomputable def m17 (a0 : T23) (a1 : Int) : Option (Bool) :=
  (m15 a0).bind fun r1 =>
  (bif (r1 == true) then (m25 a1) else some false).bind fun r2 =>
  asrt ((r1 && r2) == true) true (
    (bif ((r1 && r2) == true) then (m31 a0.1 (Int.tmod a1 7)) else some false).bind fun r3 =>
    (bif (((r1 && r2) && (!r3)) == true) then (m31 a0.2.1 a1) else some false).bind fun r4 =>
    some (((r1 && r2) && (!r3)) && (!r4)))
noncomputable def e17 : PmE := entry 17 [G23, (.int .i64)] false .bool (fun x => m17 x.1 x.2.1)
theorem q17 (x : tyL [G23, (.int .i64)]) : execF E17 C17 Try.f17 (datL [G23, (.int .i64)] x) [] (retK false .bool) = m17 x.1 x.2.1 := by kernel_rfl
theorem p17 : PmOk Try.prog e17 := pm_ok (E := E17) ok17 ord lm17 Try.func17 ca17 q17

/-! 26: consol/consolref08.moved -/
theorem ca26 : callable Try.prog 26 := ⟨Try.f26, Try.func26, by kernel_rfl, by kernel_rfl⟩
noncomputable def E26 : Env := mkEnv2 Try.prog [e17, e25] []
theorem ok26 : EnvOk E26 := mkEnv2_ok (by simp only [List.mem_cons, List.not_mem_nil, or_false, forall_eq_or_imp, forall_eq]; exact ⟨p17, p25⟩) (by simp)
/-- a round of a loop of consol/consolref08.moved -/
noncomputable def s26_1 {R : Type} (t2 : Int) (o0 : T23) (kn : Int → Option R) (k1 : Option R) (k2 : Int → Option R) (t1 : Int) : Option R :=
  (m25 t1).bind fun r1 =>
  bif r1 then
    (m17 o0 t1).bind fun r2 =>
    bif r2 then
      k2 t1
    else
      kn (IntKind.i64.wrap (t1 + t2))
  else
    k1
noncomputable def l26_1 {R : Type} (t2 : Int) (o0 : T23) (k1 : Option R) (k2 : Int → Option R) : Nat → Int → Option R
  | 0, _ => none
  | n + 1, t1 => s26_1 t2 o0 (l26_1 t2 o0 k1 k2 n) k1 k2 t1
noncomputable def L26_1 : LE := ⟨2, 0, ⟨[(1, (.dat (.int .i64))), (2, (.dat (.int .i64))), (3, (.box 0 [] 0))], [(.box (.dat G23))]⟩, fun R n x k => l26_1 x.1.2.1 x.2.1 (k (.exit 0) ⟨[], []⟩) (fun y0 => k .ret ⟨[(6, (.dat (.int .i64) y0)), (7, (.dat (.int .i64) 0))], []⟩) n x.1.1⟩
noncomputable def C26 : Cfg := mkCfg [(2, ⟨[1, 2, 3], []⟩)] [(2, (⟨[], []⟩, ⟨[6, 7], []⟩))] (([(0, L26_1)] : List (Nat × LE)).map (·.2))
theorem ek26_1 : EOk E26 C26 Try.f26.ntmps (bodyL Try.f26 0) L26_1 := eok_of (e := L26_1) (fun R x Kn k => s26_1 x.1.2.1 x.2.1 (fun v0 => Kn ((v0, x.1.2.1, (), ()), (x.2.1, ()))) (k (.exit 0) ⟨[], []⟩) (fun y0 => k .ret ⟨[(6, (.dat (.int .i64) y0)), (7, (.dat (.int .i64) 0))], []⟩) x.1.1) (fun _ _ _ => rfl) (fun _ _ _ _ => rfl) (fun R x Kn k => by kernel_rfl)
theorem lm26 : ∀ c, Try.f26.body = some c → LmOk E26 C26 Try.f26.ntmps c := lmOk_of (ps := [(0, L26_1)]) (by kernel_rfl) (by kernel_rfl) ⟨ek26_1, trivial⟩
noncomputable def m26 (a0 : T23) (a1 : Int) (a2 : Int) : Option ((Int × (Int × Unit))) :=
  l26_1 a2 a0 (
      some (0, 3, ())) (fun y3 =>
      some (y3, 0, ())) FUEL a1
noncomputable def e26 : PmE := entry 26 [G23, (.int .i64), (.int .i64)] true (.cons (.int .i64) (.cons (.int .i64) .nil)) (fun x => m26 x.1 x.2.1 x.2.2.1)
theorem q26 (x : tyL [G23, (.int .i64), (.int .i64)]) : execF E26 C26 Try.f26 (datL [G23, (.int .i64), (.int .i64)] x) [] (retK true (.cons (.int .i64) (.cons (.int .i64) .nil))) = m26 x.1 x.2.1 x.2.2.1 := by kernel_rfl
theorem p26 : PmOk Try.prog e26 := pm_ok (E := E26) ok26 ord lm26 Try.func26 ca26 q26

/-! 11: consol/consolref08.Next -/
theorem ca11 : callable Try.prog 11 := ⟨Try.f11, Try.func11, by kernel_rfl, by kernel_rfl⟩
noncomputable def E11 : Env := mkEnv2 Try.prog [e15, e25, e26] []
theorem ok11 : EnvOk E11 := mkEnv2_ok (by simp only [List.mem_cons, List.not_mem_nil, or_false, forall_eq_or_imp, forall_eq]; exact ⟨p15, p25, p26⟩) (by simp)
noncomputable def C11 : Cfg := noCfg
theorem lm11 : ∀ c, Try.f11.body = some c → LmOk E11 C11 Try.f11.ntmps c := fun _ _ => noCfg_lm
noncomputable def m11 (a0 : T23) (a1 : Int) : Option ((Int × (Int × Unit))) :=
  (m15 a0).bind fun r1 =>
  (bif ((!r1) == false) then (m25 a1) else some false).bind fun r2 =>
  bif ((!r1) || (!r2)) then
    some (0, 1, ())
  else
    (m26 a0 a1 1).bind fun r3 =>
    some (r3.1, r3.2.1, ())
noncomputable def e11 : PmE := entry 11 [G23, (.int .i64)] true (.cons (.int .i64) (.cons (.int .i64) .nil)) (fun x => m11 x.1 x.2.1)
theorem q11 (x : tyL [G23, (.int .i64)]) : execF E11 C11 Try.f11 (datL [G23, (.int .i64)] x) [] (retK true (.cons (.int .i64) (.cons (.int .i64) .nil))) = m11 x.1 x.2.1 := by kernel_rfl
theorem p11 : PmOk Try.prog e11 := pm_ok (E := E11) ok11 ord lm11 Try.func11 ca11 q11

/-! 13: consol/consolref08.Before -/
theorem ca13 : callable Try.prog 13 := ⟨Try.f13, Try.func13, by kernel_rfl, by kernel_rfl⟩
noncomputable def E13 : Env := mkEnv2 Try.prog [e15, e25, e26] []
theorem ok13 : EnvOk E13 := mkEnv2_ok (by simp only [List.mem_cons, List.not_mem_nil, or_false, forall_eq_or_imp, forall_eq]; exact ⟨p15, p25, p26⟩) (by simp)
noncomputable def C13 : Cfg := noCfg
theorem lm13 : ∀ c, Try.f13.body = some c → LmOk E13 C13 Try.f13.ntmps c := fun _ _ => noCfg_lm
noncomputable def m13 (a0 : T23) (a1 : Int) : Option ((Int × (Int × Unit))) :=
  (m15 a0).bind fun r1 =>
  (bif ((!r1) == false) then (m25 a1) else some false).bind fun r2 =>
  bif ((!r1) || (!r2)) then
    some (0, 1, ())
  else
    (m26 a0 a1 (-1)).bind fun r3 =>
    some (r3.1, r3.2.1, ())
noncomputable def e13 : PmE := entry 13 [G23, (.int .i64)] true (.cons (.int .i64) (.cons (.int .i64) .nil)) (fun x => m13 x.1 x.2.1)
theorem q13 (x : tyL [G23, (.int .i64)]) : execF E13 C13 Try.f13 (datL [G23, (.int .i64)] x) [] (retK true (.cons (.int .i64) (.cons (.int .i64) .nil))) = m13 x.1 x.2.1 := by kernel_rfl
theorem p13 : PmOk Try.prog e13 := pm_ok (E := E13) ok13 ord lm13 Try.func13 ca13 q13

/-! 46: consol/consolref07.Leap -/
theorem ca46 : callable Try.prog 46 := ⟨Try.f46, Try.func46, by kernel_rfl, by kernel_rfl⟩
noncomputable def E46 : Env := mkEnv2 Try.prog [] []
theorem ok46 : EnvOk E46 := mkEnv2_ok (by simp) (by simp)
noncomputable def C46 : Cfg := noCfg
theorem lm46 : ∀ c, Try.f46.body = some c → LmOk E46 C46 Try.f46.ntmps c := fun _ _ => noCfg_lm
noncomputable def m46 (a0 : Int) : Option (Bool) :=
  bif ((Int.tmod a0 100) == 0) then
    some ((Int.tmod a0 400) == 0)
  else
    some ((Int.tmod a0 4) == 0)
noncomputable def e46 : PmE := entry 46 [(.int .i64)] false .bool (fun x => m46 x.1)
theorem q46 (x : tyL [(.int .i64)]) : execF E46 C46 Try.f46 (datL [(.int .i64)] x) [] (retK false .bool) = m46 x.1 := by kernel_rfl
theorem p46 : PmOk Try.prog e46 := pm_ok (E := E46) ok46 ord lm46 Try.func46 ca46 q46

/-! 40: consol/consolref07.year -/
theorem ca40 : callable Try.prog 40 := ⟨Try.f40, Try.func40, by kernel_rfl, by kernel_rfl⟩
noncomputable def E40 : Env := mkEnv2 Try.prog [e46] []
theorem ok40 : EnvOk E40 := mkEnv2_ok (by simp only [List.mem_cons, List.not_mem_nil, or_false, forall_eq]; exact p46) (by simp)
noncomputable def C40 : Cfg := noCfg
theorem lm40 : ∀ c, Try.f40.body = some c → LmOk E40 C40 Try.f40.ntmps c := fun _ _ => noCfg_lm
noncomputable def m40 (a0 : Int) : Option (Int) :=
  (m46 a0).bind fun r1 =>
  bif r1 then
    some 366
  else
    some 365
noncomputable def e40 : PmE := entry 40 [(.int .i64)] false (.int .i64) (fun x => m40 x.1)
theorem q40 (x : tyL [(.int .i64)]) : execF E40 C40 Try.f40 (datL [(.int .i64)] x) [] (retK false (.int .i64)) = m40 x.1 := by kernel_rfl
theorem p40 : PmOk Try.prog e40 := pm_ok (E := E40) ok40 ord lm40 Try.func40 ca40 q40

/-! 41: consol/consolref07.Last -/
theorem ca41 : callable Try.prog 41 := ⟨Try.f41, Try.func41, by kernel_rfl, by kernel_rfl⟩
noncomputable def E41 : Env := mkEnv2 Try.prog [e46] []
theorem ok41 : EnvOk E41 := mkEnv2_ok (by simp only [List.mem_cons, List.not_mem_nil, or_false, forall_eq]; exact p46) (by simp)
noncomputable def C41 : Cfg := noCfg
theorem lm41 : ∀ c, Try.f41.body = some c → LmOk E41 C41 Try.f41.ntmps c := fun _ _ => noCfg_lm
noncomputable def m41 (a0 : Int) (a1 : Int) : Option (Int) :=
  bif ((decide (a1 < 1)) || (decide (a1 > 12))) then
    some 0
  else
    (bif ((a1 == 2) == true) then (m46 a0) else some false).bind fun r1 =>
    bif ((a1 == 2) && r1) then
      some 29
    else
      asrt true (decide (0 ≤ (IntKind.i64.wrap (a1 - 1))) && decide ((IntKind.i64.wrap (a1 - 1)) < (List.length [31, 28, 31, 30, 31, 30, 31, 31, 30, 31, 30, 31] : Int))) (
        (([31, 28, 31, 30, 31, 30, 31, 31, 30, 31, 30, 31])[((IntKind.i64.wrap (a1 - 1)) : Int).toNat]?).bind fun x2 =>
        some x2)
noncomputable def e41 : PmE := entry 41 [(.int .i64), (.int .i64)] false (.int .i64) (fun x => m41 x.1 x.2.1)
theorem q41 (x : tyL [(.int .i64), (.int .i64)]) : execF E41 C41 Try.f41 (datL [(.int .i64), (.int .i64)] x) [] (retK false (.int .i64)) = m41 x.1 x.2.1 := by kernel_rfl
theorem p41 : PmOk Try.prog e41 := pm_ok (E := E41) ok41 ord lm41 Try.func41 ca41 q41

/-! 34: consol/consolref07.Parts -/
theorem ca34 : callable Try.prog 34 := ⟨Try.f34, Try.func34, by kernel_rfl, by kernel_rfl⟩
noncomputable def E34 : Env := mkEnv2 Try.prog [e40, e41] []
theorem ok34 : EnvOk E34 := mkEnv2_ok (by simp only [List.mem_cons, List.not_mem_nil, or_false, forall_eq_or_imp, forall_eq]; exact ⟨p40, p41⟩) (by simp)
/-- a round of a loop of consol/consolref07.Parts -/
noncomputable def s34_1 {R : Type} (kn : Int → Int → Option R) (k1 : Int → Int → Option R) (t0 : Int) (t6 : Int) : Option R :=
  (m40 t6).bind fun r1 =>
  bif (decide (t0 ≥ r1)) then
    (m40 t6).bind fun r2 =>
    kn (IntKind.i64.wrap (t0 - r2)) (IntKind.i64.wrap (t6 + 1))
  else
    k1 t0 t6
noncomputable def l34_1 {R : Type} (k1 : Int → Int → Option R) : Nat → Int → Int → Option R
  | 0, _, _ => none
  | n + 1, t0, t6 => s34_1 (l34_1 k1 n) k1 t0 t6
noncomputable def L34_1 : LE := ⟨5, 0, ⟨[(0, (.dat (.int .i64))), (6, (.dat (.int .i64)))], []⟩, fun R n x k => l34_1 (fun y0 y1 => k (.exit 0) ⟨[(0, (.dat (.int .i64) y0)), (6, (.dat (.int .i64) y1))], []⟩) n x.1.1 x.1.2.1⟩
/-- a round of a loop of consol/consolref07.Parts -/
noncomputable def s34_2 {R : Type} (t6 : Int) (kn : Int → Int → Option R) (k1 : Int → Int → Option R) (t0 : Int) (t7 : Int) : Option R :=
  (m41 t6 t7).bind fun r5 =>
  bif (decide (t0 ≥ r5)) then
    (m41 t6 t7).bind fun r6 =>
    kn (IntKind.i64.wrap (t0 - r6)) (IntKind.i64.wrap (t7 + 1))
  else
    k1 t0 t7
noncomputable def l34_2 {R : Type} (t6 : Int) (k1 : Int → Int → Option R) : Nat → Int → Int → Option R
  | 0, _, _ => none
  | n + 1, t0, t7 => s34_2 t6 (l34_2 t6 k1 n) k1 t0 t7
noncomputable def L34_2 : LE := ⟨9, 0, ⟨[(0, (.dat (.int .i64))), (6, (.dat (.int .i64))), (7, (.dat (.int .i64)))], []⟩, fun R n x k => l34_2 x.1.2.1 (fun y0 y1 => k (.exit 2) ⟨[(0, (.dat (.int .i64) y0)), (6, (.dat (.int .i64) x.1.2.1)), (7, (.dat (.int .i64) y1))], []⟩) n x.1.1 x.1.2.2.1⟩
noncomputable def C34 : Cfg := mkCfg [(5, ⟨[0, 6], []⟩), (9, ⟨[0, 6, 7], []⟩)] [(5, (⟨[0, 6], []⟩, ⟨[2, 3, 4, 5], []⟩)), (9, (⟨[0, 6, 7], []⟩, ⟨[2, 3, 4, 5], []⟩))] (([(0, L34_1), (1, L34_2)] : List (Nat × LE)).map (·.2))
theorem ek34_1 : EOk E34 C34 Try.f34.ntmps (bodyL Try.f34 0) L34_1 := eok_of (e := L34_1) (fun R x Kn k => s34_1 (fun v0 v1 => Kn ((v0, v1, ()), (()))) (fun y0 y1 => k (.exit 0) ⟨[(0, (.dat (.int .i64) y0)), (6, (.dat (.int .i64) y1))], []⟩) x.1.1 x.1.2.1) (fun _ _ _ => rfl) (fun _ _ _ _ => rfl) (fun R x Kn k => by kernel_rfl)
theorem ek34_2 : EOk E34 C34 Try.f34.ntmps (bodyL Try.f34 1) L34_2 := eok_of (e := L34_2) (fun R x Kn k => s34_2 x.1.2.1 (fun v0 v1 => Kn ((v0, x.1.2.1, v1, ()), (()))) (fun y0 y1 => k (.exit 2) ⟨[(0, (.dat (.int .i64) y0)), (6, (.dat (.int .i64) x.1.2.1)), (7, (.dat (.int .i64) y1))], []⟩) x.1.1 x.1.2.2.1) (fun _ _ _ => rfl) (fun _ _ _ _ => rfl) (fun R x Kn k => by kernel_rfl)
theorem lm34 : ∀ c, Try.f34.body = some c → LmOk E34 C34 Try.f34.ntmps c := lmOk_of (ps := [(0, L34_1), (1, L34_2)]) (by kernel_rfl) (by kernel_rfl) ⟨ek34_1, ek34_2, trivial⟩
noncomputable def m34 (a0 : Int) : Option ((Int × (Int × (Int × (Int × Unit))))) :=
  bif ((decide (a0 < 0)) || (decide (a0 > 200000))) then
    some (0, 0, 0, 3, ())
  else
    l34_1 (fun y3 y4 =>
        l34_2 y4 (fun y7 y8 =>
            some (y4, y8, (IntKind.i64.wrap (y7 + 1)), 0, ())) FUEL y3 1) FUEL a0 1900
noncomputable def e34 : PmE := entry 34 [(.int .i64)] true (.cons (.int .i64) (.cons (.int .i64) (.cons (.int .i64) (.cons (.int .i64) .nil)))) (fun x => m34 x.1)
theorem q34 (x : tyL [(.int .i64)]) : execF E34 C34 Try.f34 (datL [(.int .i64)] x) [] (retK true (.cons (.int .i64) (.cons (.int .i64) (.cons (.int .i64) (.cons (.int .i64) .nil))))) = m34 x.1 := by kernel_rfl
theorem p34 : PmOk Try.prog e34 := pm_ok (E := E34) ok34 ord lm34 Try.func34 ca34 q34

/-! 19: consol/consolref08.Adjust -/
theorem ca19 : callable Try.prog 19 := ⟨Try.f19, Try.func19, by kernel_rfl, by kernel_rfl⟩
noncomputable def E19 : Env := mkEnv2 Try.prog [e15, e25, e26, e34] []
theorem ok19 : EnvOk E19 := mkEnv2_ok (by simp only [List.mem_cons, List.not_mem_nil, or_false, forall_eq_or_imp, forall_eq]; exact ⟨p15, p25, p26, p34⟩) (by simp)
noncomputable def C19 : Cfg := noCfg
theorem lm19 : ∀ c, Try.f19.body = some c → LmOk E19 C19 Try.f19.ntmps c := fun _ _ => noCfg_lm
noncomputable def m19 (a0 : T23) (a1 : Int) (a2 : Int) : Option ((Int × (Int × Unit))) :=
  (m15 a0).bind fun r1 =>
  (bif ((!r1) == false) then (m25 a1) else some false).bind fun r2 =>
  bif ((((!r1) || (!r2)) || (decide (a2 < 0))) || (decide (a2 ≥ 4))) then
    some (0, 1, ())
  else
    bif (a2 == 0) then
      some (a1, 0, ())
    else
      bif (a2 == 1) then
        (m26 a0 a1 1).bind fun r3 =>
        some (r3.1, r3.2.1, ())
      else
        (m26 a0 a1 1).bind fun r4 =>
        (m34 a1).bind fun r5 =>
        (m34 r4.1).bind fun r6 =>
        bif ((((a2 == 2) && (r4.2.1 == 0)) && (r5.1 == r6.1)) && (r5.2.1 == r6.2.1)) then
          some (r4.1, 0, ())
        else
          (m26 a0 a1 (-1)).bind fun r7 =>
          some (r7.1, r7.2.1, ())
noncomputable def e19 : PmE := entry 19 [G23, (.int .i64), (.int .i64)] true (.cons (.int .i64) (.cons (.int .i64) .nil)) (fun x => m19 x.1 x.2.1 x.2.2.1)
theorem q19 (x : tyL [G23, (.int .i64), (.int .i64)]) : execF E19 C19 Try.f19 (datL [G23, (.int .i64), (.int .i64)] x) [] (retK true (.cons (.int .i64) (.cons (.int .i64) .nil))) = m19 x.1 x.2.1 x.2.2.1 := by kernel_rfl
theorem p19 : PmOk Try.prog e19 := pm_ok (E := E19) ok19 ord lm19 Try.func19 ca19 q19

/-! 21: consol/consolref08.Back -/
theorem ca21 : callable Try.prog 21 := ⟨Try.f21, Try.func21, by kernel_rfl, by kernel_rfl⟩
noncomputable def E21 : Env := mkEnv2 Try.prog [e15, e25, e26] []
theorem ok21 : EnvOk E21 := mkEnv2_ok (by simp only [List.mem_cons, List.not_mem_nil, or_false, forall_eq_or_imp, forall_eq]; exact ⟨p15, p25, p26⟩) (by simp)
/-- a round of a loop of consol/consolref08.Back -/
noncomputable def s21_1 {R : Type} (t2 : Int) (o0 : T23) (kn : Int → Int → Option R) (k1 : Int → Option R) (k2 : Int → Option R) (t1 : Int) (t8 : Int) : Option R :=
  bif (decide (t8 < t2)) then
    (m26 o0 (IntKind.i64.wrap (t1 - 1)) (-1)).bind fun r3 =>
    bif (r3.2.1 != 0) then
      k2 r3.2.1
    else
      kn r3.1 (IntKind.i64.wrap (t8 + 1))
  else
    k1 t1
noncomputable def l21_1 {R : Type} (t2 : Int) (o0 : T23) (k1 : Int → Option R) (k2 : Int → Option R) : Nat → Int → Int → Option R
  | 0, _, _ => none
  | n + 1, t1, t8 => s21_1 t2 o0 (l21_1 t2 o0 k1 k2 n) k1 k2 t1 t8
noncomputable def L21_1 : LE := ⟨5, 0, ⟨[(1, (.dat (.int .i64))), (2, (.dat (.int .i64))), (3, (.box 0 [] 0)), (8, (.dat (.int .i64)))], [(.box (.dat G23))]⟩, fun R n x k => l21_1 x.1.2.1 x.2.1 (fun y0 => k (.exit 0) ⟨[(1, (.dat (.int .i64) y0))], []⟩) (fun y0 => k .ret ⟨[(6, (.dat (.int .i64) 0)), (7, (.dat (.int .i64) y0))], []⟩) n x.1.1 x.1.2.2.2.1⟩
noncomputable def C21 : Cfg := mkCfg [(5, ⟨[1, 2, 3, 8], []⟩)] [(5, (⟨[1], []⟩, ⟨[6, 7], []⟩))] (([(0, L21_1)] : List (Nat × LE)).map (·.2))
theorem ek21_1 : EOk E21 C21 Try.f21.ntmps (bodyL Try.f21 0) L21_1 := eok_of (e := L21_1) (fun R x Kn k => s21_1 x.1.2.1 x.2.1 (fun v0 v1 => Kn ((v0, x.1.2.1, (), v1, ()), (x.2.1, ()))) (fun y0 => k (.exit 0) ⟨[(1, (.dat (.int .i64) y0))], []⟩) (fun y0 => k .ret ⟨[(6, (.dat (.int .i64) 0)), (7, (.dat (.int .i64) y0))], []⟩) x.1.1 x.1.2.2.2.1) (fun _ _ _ => rfl) (fun _ _ _ _ => rfl) (fun R x Kn k => by kernel_rfl)
theorem lm21 : ∀ c, Try.f21.body = some c → LmOk E21 C21 Try.f21.ntmps c := lmOk_of (ps := [(0, L21_1)]) (by kernel_rfl) (by kernel_rfl) ⟨ek21_1, trivial⟩
noncomputable def m21 (a0 : T23) (a1 : Int) (a2 : Int) : Option ((Int × (Int × Unit))) :=
  (m15 a0).bind fun r1 =>
  (bif ((!r1) == false) then (m25 a1) else some false).bind fun r2 =>
  bif ((((!r1) || (!r2)) || (decide (a2 < 0))) || (decide (a2 > 1000))) then
    some (0, 1, ())
  else
    l21_1 a2 a0 (fun y4 =>
        some (y4, 0, ())) (fun y5 =>
        some (0, y5, ())) FUEL a1 0
noncomputable def e21 : PmE := entry 21 [G23, (.int .i64), (.int .i64)] true (.cons (.int .i64) (.cons (.int .i64) .nil)) (fun x => m21 x.1 x.2.1 x.2.2.1)
theorem q21 (x : tyL [G23, (.int .i64), (.int .i64)]) : execF E21 C21 Try.f21 (datL [G23, (.int .i64), (.int .i64)] x) [] (retK true (.cons (.int .i64) (.cons (.int .i64) .nil))) = m21 x.1 x.2.1 x.2.2.1 := by kernel_rfl
theorem p21 : PmOk Try.prog e21 := pm_ok (E := E21) ok21 ord lm21 Try.func21 ca21 q21

/-! 3: consol/consollaw08.CalTells -/
theorem ca3 : callable Try.prog 3 := ⟨Try.f3, Try.func3, by kernel_rfl, by kernel_rfl⟩
noncomputable def E3 : Env := mkEnv2 Try.prog [e8, e9, e10, e11, e12, e13, e14, e15, e16, e17, e18, e19, e20, e21] []
theorem ok3 : EnvOk E3 := mkEnv2_ok (by simp only [List.mem_cons, List.not_mem_nil, or_false, forall_eq_or_imp, forall_eq]; exact ⟨p8, p9, p10, p11, p12, p13, p14, p15, p16, p17, p18, p19, p20, p21⟩) (by simp)
noncomputable def C3 : Cfg := noCfg
theorem lm3 : ∀ c, Try.f3.body = some c → LmOk E3 C3 Try.f3.ntmps c := fun _ _ => noCfg_lm
noncomputable def m3 (a0 : T23) (a1 : Int) (a2 : Int) (a3 : Int) : Option (Bool) :=
  (m8).bind fun r1 =>
  (m9 a0).bind fun r2 =>
  bif (!r2) then
    some r1
  else
    (m10 a0 a1).bind fun r3 =>
    (m11 a0 a1).bind fun r4 =>
    (m12 a0 a1).bind fun r5 =>
    (m13 a0 a1).bind fun r6 =>
    (bif (((((r3.1 != r4.1) || (r3.2.1 != r4.2.1)) || (r5.1 != r6.1)) || (r5.2.1 != r6.2.1)) == false) then (m14 a0) else some false).bind fun r7 =>
    (bif (((((r3.1 != r4.1) || (r3.2.1 != r4.2.1)) || (r5.1 != r6.1)) || (r5.2.1 != r6.2.1)) == false) then (m15 a0) else some false).bind fun r8 =>
    (bif ((((((r3.1 != r4.1) || (r3.2.1 != r4.2.1)) || (r5.1 != r6.1)) || (r5.2.1 != r6.2.1)) || (!(r7 == r8))) == false) then (m16 a0 a1) else some false).bind fun r9 =>
    (bif ((((((r3.1 != r4.1) || (r3.2.1 != r4.2.1)) || (r5.1 != r6.1)) || (r5.2.1 != r6.2.1)) || (!(r7 == r8))) == false) then (m17 a0 a1) else some false).bind fun r10 =>
    bif ((((((r3.1 != r4.1) || (r3.2.1 != r4.2.1)) || (r5.1 != r6.1)) || (r5.2.1 != r6.2.1)) || (!(r7 == r8))) || (!(r9 == r10))) then
      some false
    else
      (m18 a0 a1 a2).bind fun r11 =>
      (m19 a0 a1 a2).bind fun r12 =>
      (m20 a0 a1 a3).bind fun r13 =>
      (m21 a0 a1 a3).bind fun r14 =>
      some ((((r1 && (r11.1 == r12.1)) && (r11.2.1 == r12.2.1)) && (r13.1 == r14.1)) && (r13.2.1 == r14.2.1))
noncomputable def e3 : PmE := entry 3 [G23, (.int .i64), (.int .i64), (.int .i64)] false .bool (fun x => m3 x.1 x.2.1 x.2.2.1 x.2.2.2.1)
theorem q3 (x : tyL [G23, (.int .i64), (.int .i64), (.int .i64)]) : execF E3 C3 Try.f3 (datL [G23, (.int .i64), (.int .i64), (.int .i64)] x) [] (retK false .bool) = m3 x.1 x.2.1 x.2.2.1 x.2.2.2.1 := by kernel_rfl
theorem p3 : PmOk Try.prog e3 := pm_ok (E := E3) ok3 ord lm3 Try.func3 ca3 q3

/-! 23: consol/consollaw08.same -/
theorem ca23 : callable Try.prog 23 := ⟨Try.f23, Try.func23, by kernel_rfl, by kernel_rfl⟩
noncomputable def E23 : Env := mkEnv2 Try.prog [e22] []
theorem ok23 : EnvOk E23 := mkEnv2_ok (by simp only [List.mem_cons, List.not_mem_nil, or_false, forall_eq]; exact p22) (by simp)
noncomputable def C23 : Cfg := noCfg
theorem lm23 : ∀ c, Try.f23.body = some c → LmOk E23 C23 Try.f23.ntmps c := fun _ _ => noCfg_lm
noncomputable def m23 (a0 : Int) (a1 : Int) (a2 : Int) : Option (Bool) :=
  (m22 a0).bind fun r1 =>
  some (((r1.2.2.2.1 == 0) && (r1.1 == a1)) && (r1.2.1 == a2))
noncomputable def e23 : PmE := entry 23 [(.int .i64), (.int .i64), (.int .i64)] false .bool (fun x => m23 x.1 x.2.1 x.2.2.1)
theorem q23 (x : tyL [(.int .i64), (.int .i64), (.int .i64)]) : execF E23 C23 Try.f23 (datL [(.int .i64), (.int .i64), (.int .i64)] x) [] (retK false .bool) = m23 x.1 x.2.1 x.2.2.1 := by kernel_rfl
theorem p23 : PmOk Try.prog e23 := pm_ok (E := E23) ok23 ord lm23 Try.func23 ca23 q23

/-! 4: consol/consollaw08.CalMoves -/
theorem ca4 : callable Try.prog 4 := ⟨Try.f4, Try.func4, by kernel_rfl, by kernel_rfl⟩
noncomputable def E4 : Env := mkEnv2 Try.prog [e8, e9, e10, e12, e14, e16, e18, e22, e23] []
theorem ok4 : EnvOk E4 := mkEnv2_ok (by simp only [List.mem_cons, List.not_mem_nil, or_false, forall_eq_or_imp, forall_eq]; exact ⟨p8, p9, p10, p12, p14, p16, p18, p22, p23⟩) (by simp)
/-- a round of a loop of consol/consollaw08.CalMoves -/
noncomputable def s4_1 {R : Type} (t5 : Bool) (t18 : Int) (t19 : Int) (o0 : T23) (kn : Int → Option R) (k1 : Option R) (k2 : Bool → Option R) (t20 : Int) : Option R :=
  bif (decide (t20 < t19)) then
    (m16 o0 t20).bind fun r14 =>
    bif (r14 || (decide ((IntKind.i64.wrap (t20 - t18)) > 200))) then
      k2 (t5 && (decide ((IntKind.i64.wrap (t20 - t18)) > 200)))
    else
      kn (IntKind.i64.wrap (t20 + 1))
  else
    k1
noncomputable def l4_1 {R : Type} (t5 : Bool) (t18 : Int) (t19 : Int) (o0 : T23) (k1 : Option R) (k2 : Bool → Option R) : Nat → Int → Option R
  | 0, _ => none
  | n + 1, t20 => s4_1 t5 t18 t19 o0 (l4_1 t5 t18 t19 o0 k1 k2 n) k1 k2 t20
noncomputable def L4_1 : LE := ⟨22, 0, ⟨[(1, (.dat (.int .i64))), (2, (.box 0 [] 0)), (5, (.dat .bool)), (6, (.dat (.int .i64))), (7, (.dat (.int .i64))), (8, (.dat (.int .i64))), (9, (.dat (.int .i64))), (10, (.dat (.int .i64))), (11, (.dat (.int .i64))), (18, (.dat (.int .i64))), (19, (.dat (.int .i64))), (20, (.dat (.int .i64)))], [(.box (.dat G23))]⟩, fun R n x k => l4_1 x.1.2.2.1 x.1.2.2.2.2.2.2.2.2.2.1 x.1.2.2.2.2.2.2.2.2.2.2.1 x.2.1 (k (.exit 0) ⟨[(1, (.dat (.int .i64) x.1.1)), (5, (.dat .bool x.1.2.2.1)), (6, (.dat (.int .i64) x.1.2.2.2.1)), (7, (.dat (.int .i64) x.1.2.2.2.2.1)), (8, (.dat (.int .i64) x.1.2.2.2.2.2.1)), (9, (.dat (.int .i64) x.1.2.2.2.2.2.2.1)), (10, (.dat (.int .i64) x.1.2.2.2.2.2.2.2.1)), (11, (.dat (.int .i64) x.1.2.2.2.2.2.2.2.2.1))], []⟩) (fun y0 => k .ret ⟨[(4, (.dat .bool y0))], []⟩) n x.1.2.2.2.2.2.2.2.2.2.2.2.1⟩
noncomputable def C4 : Cfg := mkCfg [(17, ⟨[1, 2, 5, 6, 7, 8, 9, 10, 11, 18, 19], []⟩), (19, ⟨[1, 2, 5, 6, 7, 8, 9, 10, 11, 18, 19], []⟩), (22, ⟨[1, 2, 5, 6, 7, 8, 9, 10, 11, 18, 19, 20], []⟩)] [(22, (⟨[1, 5, 6, 7, 8, 9, 10, 11], []⟩, ⟨[4], []⟩))] (([(0, L4_1)] : List (Nat × LE)).map (·.2))
theorem ek4_1 : EOk E4 C4 Try.f4.ntmps (bodyL Try.f4 0) L4_1 := eok_of (e := L4_1) (fun R x Kn k => s4_1 x.1.2.2.1 x.1.2.2.2.2.2.2.2.2.2.1 x.1.2.2.2.2.2.2.2.2.2.2.1 x.2.1 (fun v0 => Kn ((x.1.1, (), x.1.2.2.1, x.1.2.2.2.1, x.1.2.2.2.2.1, x.1.2.2.2.2.2.1, x.1.2.2.2.2.2.2.1, x.1.2.2.2.2.2.2.2.1, x.1.2.2.2.2.2.2.2.2.1, x.1.2.2.2.2.2.2.2.2.2.1, x.1.2.2.2.2.2.2.2.2.2.2.1, v0, ()), (x.2.1, ()))) (k (.exit 0) ⟨[(1, (.dat (.int .i64) x.1.1)), (5, (.dat .bool x.1.2.2.1)), (6, (.dat (.int .i64) x.1.2.2.2.1)), (7, (.dat (.int .i64) x.1.2.2.2.2.1)), (8, (.dat (.int .i64) x.1.2.2.2.2.2.1)), (9, (.dat (.int .i64) x.1.2.2.2.2.2.2.1)), (10, (.dat (.int .i64) x.1.2.2.2.2.2.2.2.1)), (11, (.dat (.int .i64) x.1.2.2.2.2.2.2.2.2.1))], []⟩) (fun y0 => k .ret ⟨[(4, (.dat .bool y0))], []⟩) x.1.2.2.2.2.2.2.2.2.2.2.2.1) (fun _ _ _ => rfl) (fun _ _ _ _ => rfl) (fun R x Kn k => by kernel_rfl)
theorem lm4 : ∀ c, Try.f4.body = some c → LmOk E4 C4 Try.f4.ntmps c := lmOk_of (ps := [(0, L4_1)]) (by kernel_rfl) (by kernel_rfl) ⟨ek4_1, trivial⟩
noncomputable def m4 (a0 : T23) (a1 : Int) : Option (Bool) :=
  (m8).bind fun r1 =>
  (m9 a0).bind fun r2 =>
  (bif ((!r2) == false) then (m14 a0) else some false).bind fun r3 =>
  bif ((((!r2) || (!r3)) || (decide (a1 < 0))) || (decide (a1 > 200000))) then
    some r1
  else
    (m10 a0 a1).bind fun r4 =>
    (m12 a0 a1).bind fun r5 =>
    (m18 a0 a1 2).bind fun r6 =>
    (m18 a0 a1 1).bind fun r7 =>
    (m18 a0 a1 3).bind fun r8 =>
    (m18 a0 a1 0).bind fun r9 =>
    (bif (((((((((r7.1 != r4.1) || (r7.2.1 != r4.2.1)) || (r8.1 != r5.1)) || (r8.2.1 != r5.2.1)) || (r9.1 != a1)) || (r9.2.1 != 0)) == false) && ((r4.2.1 == 0) == true)) && ((decide (r4.1 < a1)) == false)) then (m16 a0 r4.1) else some false).bind fun r10 =>
    (bif ((((((((((r7.1 != r4.1) || (r7.2.1 != r4.2.1)) || (r8.1 != r5.1)) || (r8.2.1 != r5.2.1)) || (r9.1 != a1)) || (r9.2.1 != 0)) || ((r4.2.1 == 0) && ((decide (r4.1 < a1)) || (!r10)))) == false) && ((r5.2.1 == 0) == true)) && ((decide (r5.1 > a1)) == false)) then (m16 a0 r5.1) else some false).bind fun r11 =>
    bif ((((((((r7.1 != r4.1) || (r7.2.1 != r4.2.1)) || (r8.1 != r5.1)) || (r8.2.1 != r5.2.1)) || (r9.1 != a1)) || (r9.2.1 != 0)) || ((r4.2.1 == 0) && ((decide (r4.1 < a1)) || (!r10)))) || ((r5.2.1 == 0) && ((decide (r5.1 > a1)) || (!r11)))) then
      some false
    else
      cont (fun (k12 : Int → _) =>
        bif (r5.2.1 != 0) then
          k12 0
        else
          k12 (IntKind.i64.wrap (r5.1 + 1))) fun y12 =>
      cont (fun (k13 : Int → _) =>
        bif (r4.2.1 != 0) then
          k13 200001
        else
          k13 r4.1) fun y13 =>
      bif (((r5.1 == r4.1) && (r4.2.1 == 0)) && (r5.2.1 == 0)) then
        some (((r1 && (r5.1 == a1)) && (r6.1 == a1)) && (r6.2.1 == 0))
      else
        l4_1 r1 y12 y13 a0 (
            (m22 a1).bind fun r16 =>
            (bif ((r4.2.1 == 0) == true) then (m23 r4.1 r16.1 r16.2.1) else some false).bind fun r17 =>
            bif ((r4.2.1 == 0) && r17) then
              some (((r1 && (r6.1 == r4.1)) && (r6.2.1 == 0)) && (r16.2.2.2.1 == 0))
            else
              some ((r1 && (r6.1 == r5.1)) && (r6.2.1 == r5.2.1))) (fun y15 =>
            some y15) FUEL y12
noncomputable def e4 : PmE := entry 4 [G23, (.int .i64)] false .bool (fun x => m4 x.1 x.2.1)
theorem q4 (x : tyL [G23, (.int .i64)]) : execF E4 C4 Try.f4 (datL [G23, (.int .i64)] x) [] (retK false .bool) = m4 x.1 x.2.1 := by kernel_rfl
theorem p4 : PmOk Try.prog e4 := pm_ok (E := E4) ok4 ord lm4 Try.func4 ca4 q4

/-! 5: consol/consollaw08.CalOrder -/
theorem ca5 : callable Try.prog 5 := ⟨Try.f5, Try.func5, by kernel_rfl, by kernel_rfl⟩
noncomputable def E5 : Env := mkEnv2 Try.prog [e8, e9, e10, e12, e14, e18] []
theorem ok5 : EnvOk E5 := mkEnv2_ok (by simp only [List.mem_cons, List.not_mem_nil, or_false, forall_eq_or_imp, forall_eq]; exact ⟨p8, p9, p10, p12, p14, p18⟩) (by simp)
noncomputable def C5 : Cfg := noCfg
theorem lm5 : ∀ c, Try.f5.body = some c → LmOk E5 C5 Try.f5.ntmps c := fun _ _ => noCfg_lm
noncomputable def m5 (a0 : T23) (a1 : Int) (a2 : Int) (a3 : Int) : Option (Bool) :=
  (m8).bind fun r1 =>
  (m9 a0).bind fun r2 =>
  (bif ((!r2) == false) then (m14 a0) else some false).bind fun r3 =>
  bif (((((!r2) || (!r3)) || (decide (a1 < 0))) || (decide (a1 > a2))) || (decide (a2 > 200000))) then
    some r1
  else
    (m10 a0 a1).bind fun r4 =>
    (m10 a0 a2).bind fun r5 =>
    (m12 a0 a1).bind fun r6 =>
    (m12 a0 a2).bind fun r7 =>
    bif (((r5.2.1 == 0) && ((r4.2.1 != 0) || (decide (r4.1 > r5.1)))) || ((r6.2.1 == 0) && ((r7.2.1 != 0) || (decide (r6.1 > r7.1))))) then
      some false
    else
      (m18 a0 a1 a3).bind fun r8 =>
      bif (r8.2.1 != 0) then
        some (r1 && (r8.1 == 0))
      else
        (m18 a0 r8.1 a3).bind fun r9 =>
        some ((r1 && (r9.1 == r8.1)) && (r9.2.1 == 0))
noncomputable def e5 : PmE := entry 5 [G23, (.int .i64), (.int .i64), (.int .i64)] false .bool (fun x => m5 x.1 x.2.1 x.2.2.1 x.2.2.2.1)
theorem q5 (x : tyL [G23, (.int .i64), (.int .i64), (.int .i64)]) : execF E5 C5 Try.f5 (datL [G23, (.int .i64), (.int .i64), (.int .i64)] x) [] (retK false .bool) = m5 x.1 x.2.1 x.2.2.1 x.2.2.2.1 := by kernel_rfl
theorem p5 : PmOk Try.prog e5 := pm_ok (E := E5) ok5 ord lm5 Try.func5 ca5 q5

/-! 6: consol/consollaw08.CalBack -/
theorem ca6 : callable Try.prog 6 := ⟨Try.f6, Try.func6, by kernel_rfl, by kernel_rfl⟩
noncomputable def E6 : Env := mkEnv2 Try.prog [e8, e9, e14, e16, e20] []
theorem ok6 : EnvOk E6 := mkEnv2_ok (by simp only [List.mem_cons, List.not_mem_nil, or_false, forall_eq_or_imp, forall_eq]; exact ⟨p8, p9, p14, p16, p20⟩) (by simp)
/-- a round of a loop of consol/consollaw08.CalBack -/
noncomputable def s6_1 {R : Type} (t1 : Int) (o0 : T23) (kn : Int → Int → Option R) (k1 : Int → Option R) (t18 : Int) (t19 : Int) : Option R :=
  bif (decide (t19 < t1)) then
    cont (fun (k8 : Int → _) =>
      (m16 o0 t19).bind fun r7 =>
      bif r7 then
        k8 (IntKind.i64.wrap (t18 + 1))
      else
        k8 t18) fun y8 =>
    kn y8 (IntKind.i64.wrap (t19 + 1))
  else
    k1 t18
noncomputable def l6_1 {R : Type} (t1 : Int) (o0 : T23) (k1 : Int → Option R) : Nat → Int → Int → Option R
  | 0, _, _ => none
  | n + 1, t18, t19 => s6_1 t1 o0 (l6_1 t1 o0 k1 n) k1 t18 t19
noncomputable def L6_1 : LE := ⟨16, 0, ⟨[(1, (.dat (.int .i64))), (4, (.box 0 [] 0)), (9, (.dat .bool)), (10, (.dat (.int .i64))), (12, (.dat (.int .i64))), (18, (.dat (.int .i64))), (19, (.dat (.int .i64)))], [(.box (.dat G23))]⟩, fun R n x k => l6_1 x.1.1 x.2.1 (fun y0 => k (.exit 0) ⟨[(1, (.dat (.int .i64) x.1.1)), (4, (.box 0 [] 0)), (9, (.dat .bool x.1.2.2.1)), (10, (.dat (.int .i64) x.1.2.2.2.1)), (12, (.dat (.int .i64) x.1.2.2.2.2.1)), (18, (.dat (.int .i64) y0))], [(.box (.dat G23 x.2.1))]⟩) n x.1.2.2.2.2.2.1 x.1.2.2.2.2.2.2.1⟩
noncomputable def C6 : Cfg := mkCfg [(16, ⟨[1, 4, 9, 10, 12, 18, 19], []⟩), (17, ⟨[1, 4, 9, 10, 12, 18, 19], []⟩)] [(16, (⟨[1, 4, 9, 10, 12, 18], []⟩, ⟨[8], []⟩))] (([(0, L6_1)] : List (Nat × LE)).map (·.2))
theorem ek6_1 : EOk E6 C6 Try.f6.ntmps (bodyL Try.f6 0) L6_1 := eok_of (e := L6_1) (fun R x Kn k => s6_1 x.1.1 x.2.1 (fun v0 v1 => Kn ((x.1.1, (), x.1.2.2.1, x.1.2.2.2.1, x.1.2.2.2.2.1, v0, v1, ()), (x.2.1, ()))) (fun y0 => k (.exit 0) ⟨[(1, (.dat (.int .i64) x.1.1)), (4, (.box 0 [] 0)), (9, (.dat .bool x.1.2.2.1)), (10, (.dat (.int .i64) x.1.2.2.2.1)), (12, (.dat (.int .i64) x.1.2.2.2.2.1)), (18, (.dat (.int .i64) y0))], [(.box (.dat G23 x.2.1))]⟩) x.1.2.2.2.2.2.1 x.1.2.2.2.2.2.2.1) (fun _ _ _ => rfl) (fun _ _ _ _ => rfl) (fun R x Kn k => by kernel_rfl)
theorem lm6 : ∀ c, Try.f6.body = some c → LmOk E6 C6 Try.f6.ntmps c := lmOk_of (ps := [(0, L6_1)]) (by kernel_rfl) (by kernel_rfl) ⟨ek6_1, trivial⟩
noncomputable def m6 (a0 : T23) (a1 : Int) (a2 : Int) (a3 : Int) : Option (Bool) :=
  (m8).bind fun r1 =>
  (m9 a0).bind fun r2 =>
  (bif ((!r2) == false) then (m14 a0) else some false).bind fun r3 =>
  bif ((((!r2) || (!r3)) || (decide (a1 < 0))) || (decide (a1 > 200000))) then
    some r1
  else
    (m20 a0 a1 (IntKind.i64.wrap (Int.tmod a2 40))).bind fun r4 =>
    (m20 a0 a1 (IntKind.i64.wrap ((IntKind.i64.wrap (Int.tmod a2 40)) + (IntKind.i64.wrap (Int.tmod a3 40))))).bind fun r5 =>
    bif (r4.2.1 != 0) then
      some ((r1 && (r4.2.1 == 3)) && (r5.2.1 == 3))
    else
      (m20 a0 r4.1 (IntKind.i64.wrap (Int.tmod a3 40))).bind fun r6 =>
      bif ((r5.2.1 != r6.2.1) || ((r5.2.1 == 0) && (r5.1 != r6.1))) then
        some false
      else
        l6_1 a1 a0 (fun y9 =>
            (bif (((y9 != (IntKind.i64.wrap (Int.tmod a2 40))) == false) && ((decide ((IntKind.i64.wrap (Int.tmod a2 40)) > 0)) == true)) then (m16 a0 r4.1) else some false).bind fun r10 =>
            bif (((y9 != (IntKind.i64.wrap (Int.tmod a2 40))) || ((decide ((IntKind.i64.wrap (Int.tmod a2 40)) > 0)) && (!r10))) || (((IntKind.i64.wrap (Int.tmod a2 40)) == 0) && (r4.1 != a1))) then
              some false
            else
              bif (a1 == 200000) then
                some r1
              else
                (m20 a0 (IntKind.i64.wrap (a1 + 1)) (IntKind.i64.wrap (Int.tmod a2 40))).bind fun r11 =>
                some ((r1 && (r11.2.1 == 0)) && (decide (r11.1 ≥ r4.1)))) FUEL 0 r4.1
noncomputable def e6 : PmE := entry 6 [G23, (.int .i64), (.int .u8), (.int .u8)] false .bool (fun x => m6 x.1 x.2.1 x.2.2.1 x.2.2.2.1)
theorem q6 (x : tyL [G23, (.int .i64), (.int .u8), (.int .u8)]) : execF E6 C6 Try.f6 (datL [G23, (.int .i64), (.int .u8), (.int .u8)] x) [] (retK false .bool) = m6 x.1 x.2.1 x.2.2.1 x.2.2.2.1 := by kernel_rfl
theorem p6 : PmOk Try.prog e6 := pm_ok (E := E6) ok6 ord lm6 Try.func6 ca6 q6

/-! 7: consol/consollaw08.CalRest -/
theorem ca7 : callable Try.prog 7 := ⟨Try.f7, Try.func7, by kernel_rfl, by kernel_rfl⟩
noncomputable def E7 : Env := mkEnv2 Try.prog [e8, e9, e10, e14, e16, e20] []
theorem ok7 : EnvOk E7 := mkEnv2_ok (by simp only [List.mem_cons, List.not_mem_nil, or_false, forall_eq_or_imp, forall_eq]; exact ⟨p8, p9, p10, p14, p16, p20⟩) (by simp)
/-- a round of a loop of consol/consollaw08.CalRest -/
noncomputable def s7_1 {R : Type} (t1 : Int) (o0 : T23) (kn : Bool → Int → (List Int) → Option R) (k1 : Bool → (List Int) → Option R) (t11 : Bool) (t12 : Int) (o2 : (List Int)) : Option R :=
  bif (decide (t12 < (List.length o0.2.1 : Int))) then
    cont (fun (k8 : (Bool × (List Int)) → _) =>
      cont (fun (k5 : (Bool × (List Int)) → _) =>
        (idx o0.2.1 t12).bind fun x4 =>
        bif ((decide (x4 ≥ t1)) && (!t11)) then
          asrt true (decide (List.length (α := Int) o2 + List.length (α := Int) [t1] ≤ LIM)) (
            k5 (true, (o2 ++ [t1])))
        else
          k5 (t11, o2)) fun y5 =>
      (idx o0.2.1 t12).bind fun x6 =>
      bif (x6 != t1) then
        (idx o0.2.1 t12).bind fun x7 =>
        asrt true (decide (List.length (α := Int) y5.2 + List.length (α := Int) [x7] ≤ LIM)) (
          k8 (y5.1, (y5.2 ++ [x7])))
      else
        k8 (y5.1, y5.2)) fun y8 =>
    kn y8.1 (IntKind.i64.wrap (t12 + 1)) y8.2
  else
    k1 t11 o2
noncomputable def l7_1 {R : Type} (t1 : Int) (o0 : T23) (k1 : Bool → (List Int) → Option R) : Nat → Bool → Int → (List Int) → Option R
  | 0, _, _, _ => none
  | n + 1, t11, t12, o2 => s7_1 t1 o0 (l7_1 t1 o0 k1 n) k1 t11 t12 o2
noncomputable def L7_1 : LE := ⟨8, 0, ⟨[(1, (.dat (.int .i64))), (2, (.dat (.int .i64))), (3, (.dat (.int .u8))), (4, (.box 0 [] 0)), (9, (.dat .bool)), (10, (.box 1 [] 0)), (11, (.dat .bool)), (12, (.dat (.int .i64)))], [(.box (.dat G23)), (.box (.agg (.scons (.dat (.sl (.int .i64))) (.scons (.own 2) .snil)))), (.arr (.int .i64))]⟩, fun R n x k => l7_1 x.1.1 x.2.1 (fun y0 y1 => k (.exit 0) ⟨[(1, (.dat (.int .i64) x.1.1)), (2, (.dat (.int .i64) x.1.2.1)), (3, (.dat (.int .u8) x.1.2.2.1)), (4, (.box 0 [] 0)), (9, (.dat .bool x.1.2.2.2.2.1)), (10, (.box 1 [] 0)), (11, (.dat .bool y0))], [(.box (.dat G23 x.2.1)), (.box (.agg (.scons (.dat (.sl (.int .i64)) x.2.2.1.1) (.scons (.own 2) .snil)))), (.arr (.int .i64) y1)]⟩) n x.1.2.2.2.2.2.2.1 x.1.2.2.2.2.2.2.2.1 x.2.2.2.1⟩
noncomputable def C7 : Cfg := mkCfg [(8, ⟨[1, 2, 3, 4, 9, 10, 11, 12], [(10, [1], (.int .i64))]⟩), (9, ⟨[1, 2, 3, 4, 9, 10, 11, 12], []⟩), (13, ⟨[1, 2, 3, 4, 9, 10, 11, 12], [(10, [1], (.int .i64))]⟩), (17, ⟨[1, 2, 3, 4, 9, 10], []⟩)] [(8, (⟨[1, 2, 3, 4, 9, 10, 11], []⟩, ⟨[8], []⟩))] (([(0, L7_1)] : List (Nat × LE)).map (·.2))
theorem ek7_1 : EOk E7 C7 Try.f7.ntmps (bodyL Try.f7 0) L7_1 := eok_of (e := L7_1) (fun R x Kn k => s7_1 x.1.1 x.2.1 (fun v0 v1 v2 => Kn ((x.1.1, x.1.2.1, x.1.2.2.1, (), x.1.2.2.2.2.1, (), v0, v1, ()), (x.2.1, (x.2.2.1.1, (), ()), v2, ()))) (fun y0 y1 => k (.exit 0) ⟨[(1, (.dat (.int .i64) x.1.1)), (2, (.dat (.int .i64) x.1.2.1)), (3, (.dat (.int .u8) x.1.2.2.1)), (4, (.box 0 [] 0)), (9, (.dat .bool x.1.2.2.2.2.1)), (10, (.box 1 [] 0)), (11, (.dat .bool y0))], [(.box (.dat G23 x.2.1)), (.box (.agg (.scons (.dat (.sl (.int .i64)) x.2.2.1.1) (.scons (.own 2) .snil)))), (.arr (.int .i64) y1)]⟩) x.1.2.2.2.2.2.2.1 x.1.2.2.2.2.2.2.2.1 x.2.2.2.1) (fun _ _ _ => rfl) (fun _ _ _ _ => rfl) (fun R x Kn k => by kernel_rfl)
theorem lm7 : ∀ c, Try.f7.body = some c → LmOk E7 C7 Try.f7.ntmps c := lmOk_of (ps := [(0, L7_1)]) (by kernel_rfl) (by kernel_rfl) ⟨ek7_1, trivial⟩
noncomputable def m7 (a0 : T23) (a1 : Int) (a2 : Int) (a3 : Int) : Option (Bool) :=
  (m8).bind fun r1 =>
  (m9 a0).bind fun r2 =>
  (bif (((!r2) || (decide ((List.length a0.2.1 : Int) > 19))) == false) then (m14 a0) else some false).bind fun r3 =>
  bif (((((((!r2) || (decide ((List.length a0.2.1 : Int) > 19))) || (!r3)) || (decide (a2 < 0))) || (decide (a2 > 200000))) || (decide (a1 < 0))) || (decide (a1 > 200000))) then
    some r1
  else
    l7_1 a1 a0 (fun y9 y10 =>
        cont (fun (k11 : (List Int) → _) =>
          bif (!y9) then
            asrt true (decide (List.length (α := Int) y10 + List.length (α := Int) [a1] ≤ LIM)) (
              k11 (y10 ++ [a1]))
          else
            k11 y10) fun y11 =>
        (m10 a0 a2).bind fun r12 =>
        (m10 (a0.1, y11, ()) a2).bind fun r13 =>
        (m20 a0 a2 (IntKind.i64.wrap (Int.tmod a3 40))).bind fun r14 =>
        (m20 (a0.1, y11, ()) a2 (IntKind.i64.wrap (Int.tmod a3 40))).bind fun r15 =>
        (m14 (a0.1, y11, ())).bind fun r16 =>
        (bif ((!r16) == false) then (m16 (a0.1, y11, ()) a1) else some false).bind fun r17 =>
        bif ((((!r16) || r17) || ((r13.2.1 == 0) && ((r12.2.1 != 0) || (decide (r13.1 < r12.1))))) || ((r15.2.1 == 0) && ((r14.2.1 != 0) || (decide (r15.1 > r14.1))))) then
          some false
        else
          (bif ((r1 == true) && ((a2 == a1) == false)) then (m16 a0 a2) else some false).bind fun r18 =>
          (bif ((r1 == true) && ((a2 == a1) == false)) then (m16 (a0.1, y11, ()) a2) else some false).bind fun r19 =>
          some (r1 && ((a2 == a1) || (r18 == r19)))) FUEL false 0 []
noncomputable def e7 : PmE := entry 7 [G23, (.int .i64), (.int .i64), (.int .u8)] false .bool (fun x => m7 x.1 x.2.1 x.2.2.1 x.2.2.2.1)
theorem q7 (x : tyL [G23, (.int .i64), (.int .i64), (.int .u8)]) : execF E7 C7 Try.f7 (datL [G23, (.int .i64), (.int .i64), (.int .u8)] x) [] (retK false .bool) = m7 x.1 x.2.1 x.2.2.1 x.2.2.2.1 := by kernel_rfl
theorem p7 : PmOk Try.prog e7 := pm_ok (E := E7) ok7 ord lm7 Try.func7 ca7 q7

end Go.Proofs.Ytdobcidinpjkoaa
