/- Models of the functions that the statements reach. -/
import Derived.Test.YtadinocaadlgmaaE39
import Derived.Test.YtadinocaadlgmaaChecked
import Derived.KernelRfl
namespace Go.Proofs.Ytadinocaadlgmaa
open Go Go.Eng
set_option linter.unusedVariables false
set_option linter.unusedSimpArgs false

/-- x, y, signed, code -/
abbrev G7 : GT := .cons (.int .i64) (.cons (.int .i64) (.cons .bool (.cons (.int .u8) (.nil))))
abbrev T7 : Type := Int × Int × Bool × Int × Unit
/-- msg, addr -/
abbrev G13 : GT := .cons .str (.cons (.int .u64) (.nil))
abbrev T13 : Type := (List UInt8) × Int × Unit
/-- Options, Caps -/
abbrev G24 : GT := .cons (.sl (.sl (.cons (.sl (.int .i64)) (.cons (.int .i64) (.cons (.int .i64) .nil))))) (.cons (.sl (.int .i64)) (.nil))
abbrev T24 : Type := (List (List ((List Int) × (Int × (Int × Unit))))) × (List Int) × Unit
/-- Costs, Year, Due -/
abbrev G37 : GT := .cons (.sl (.int .i64)) (.cons (.int .i64) (.cons (.int .i64) (.nil)))
abbrev T37 : Type := (List Int) × Int × Int × Unit
/-- issue, option, scenario -/
abbrev G47 : GT := .cons (.int .i64) (.cons (.int .i64) (.cons (.int .i64) (.nil)))
abbrev T47 : Type := Int × Int × Int × Unit
/-- rest, base, has -/
abbrev G50 : GT := .cons (.int .i64) (.cons (.int .i64) (.cons .bool (.nil)))
abbrev T50 : Type := Int × Int × Bool × Unit
/-- t, looked, found, cost -/
abbrev G77 : GT := .cons G24 (.cons (.int .i64) (.cons (.sl (.int .i64)) (.cons (.int .i64) (.nil))))
abbrev T77 : Type := T24 × Int × (List Int) × Int × Unit
/-- task, least, costs, due -/
abbrev G87 : GT := .cons G24 (.cons (.sl (.sl (.int .i64))) (.cons (.sl (.int .i64)) (.cons (.sl (.int .i64)) (.nil))))
abbrev T87 : Type := T24 × (List (List Int)) × (List Int) × (List Int) × Unit

theorem ord : Try.prog.follows .mixedOrders = true := by kernel_rfl

/-! 29: consol/plan.scenarios -/
theorem ca29 : callable Try.prog 29 := ⟨Try.f29, Try.func29, by kernel_rfl, by kernel_rfl⟩
noncomputable def E29 : Env := mkEnv2 Try.prog [] []
theorem ok29 : EnvOk (E29) := mkEnv2_ok (by simp) (by simp)
noncomputable def C29 : Cfg := noCfg
theorem lm29 : ∀ c, Try.f29.body = some c → LmOk (E29) (C29) Try.f29.ntmps c := fun _ _ => noCfg_lm
noncomputable def m29 (a0 : T24) : Option (Int) :=
  (idxG (((List.length a0.1 : Int) == 0) == false) ([] : (List T37)) a0.1 0).bind fun x1 =>
  bif (((List.length a0.1 : Int) == 0) || ((List.length x1 : Int) == 0)) then
    some 0
  else
    (idx a0.1 0).bind fun x2 =>
    (idx x2 0).bind fun x3 =>
    some (List.length x3.1 : Int)
noncomputable def e29 : PmE := entry 29 [G24] false (.int .i64) (fun x => m29 x.1)
theorem q29 (x : tyL [G24]) : execF E29 C29 Try.f29 (datL [G24] x) [] (retK false (.int .i64)) = m29 x.1 := by kernel_rfl
theorem p29 : PmOk Try.prog e29 := pm_ok (E := E29) ok29 ord lm29 Try.func29 ca29 q29

/-! 30: consol/plan.in -/
theorem ca55 : callable Try.prog 55 := ⟨Try.f55, Try.func55, by kernel_rfl, by kernel_rfl⟩
noncomputable def E30i55 : Env := mkEnv2 Try.prog [] []
theorem ok30i55 : EnvOk (E30i55) := mkEnv2_ok (by simp) (by simp)
noncomputable def C30i55 : Cfg := noCfg
theorem lm30i55 : ∀ c, Try.f55.body = some c → LmOk (E30i55) (C30i55) Try.f55.ntmps c := fun _ _ => noCfg_lm
noncomputable def c30i55 : CmE := inl E30i55 C30i55 55 Try.f55
theorem d30i55 : CmOk Try.prog c30i55 := inl_ok (E := E30i55) ok30i55 ord lm30i55 Try.func55 ca55

theorem ca61 : callable Try.prog 61 := ⟨Try.f61, Try.func61, by kernel_rfl, by kernel_rfl⟩
noncomputable def E30i61 : Env := mkEnv2 Try.prog [] [c30i55]
theorem ok30i61 : EnvOk (E30i61) := mkEnv2_ok (by simp) (by simp only [List.mem_cons, List.not_mem_nil, or_false, forall_eq]; exact d30i55)
/-- a round of a loop of slices.IndexFunc[[]int,int] -/
noncomputable def s30_1 {R : Type} (t0 : (List Int)) (t7 : Int) (o0 : Int) (o1 : Int) (kn : Int → Option R) (k1 : Option R) (k2 : Int → Option R) (t8 : Int) : Option R :=
  bif (decide (t8 < t7)) then
    (idx t0 t8).bind fun x1 =>
    bif ((decide (x1 < o0)) || (decide (x1 > o1))) then
      k2 t8
    else
      kn (IntKind.i64.wrap (t8 + 1))
  else
    k1
noncomputable def l30_1 {R : Type} (t0 : (List Int)) (t7 : Int) (o0 : Int) (o1 : Int) (k1 : Option R) (k2 : Int → Option R) : Nat → Int → Option R
  | 0, _ => none
  | n + 1, t8 => s30_1 t0 t7 o0 o1 (l30_1 t0 t7 o0 o1 k1 k2 n) k1 k2 t8
noncomputable def L30_1 : LE := ⟨3, 2, ⟨[(0, (.dat (.sl (.int .i64)))), (1, (.fn 55 (.scons (.box 0 [] 0) (.scons (.box 1 [] 0) .snil)))), (7, (.dat (.int .i64))), (8, (.dat (.int .i64)))], [(.box (.dat (.int .i64))), (.box (.dat (.int .i64)))]⟩, fun R n x k => l30_1 x.1.1 x.1.2.2.1 x.2.1 x.2.2.1 (k (.exit 0) ⟨[], [(.box (.dat (.int .i64) x.2.1)), (.box (.dat (.int .i64) x.2.2.1))]⟩) (fun y0 => k .ret ⟨[(4, (.dat (.int .i64) y0))], [(.box (.dat (.int .i64) x.2.1)), (.box (.dat (.int .i64) x.2.2.1))]⟩) n x.1.2.2.2.1⟩
noncomputable def C30i61 : Cfg := mkCfg [(3, ⟨[0, 1, 7, 8], [], []⟩)] [(3, (⟨[], [], []⟩, ⟨[4], [], []⟩))] (([(0, L30_1)] : List (Nat × LE)).map (·.2))
theorem ek30_1 : EOk (E30i61) (C30i61) Try.f61.ntmps (bodyL Try.f61 0) (L30_1) := eok_of (e := L30_1) (fun R x Kn k => s30_1 x.1.1 x.1.2.2.1 x.2.1 x.2.2.1 (fun v0 => Kn ((x.1.1, ((), (), ()), x.1.2.2.1, v0, ()), (x.2.1, x.2.2.1, ()))) (k (.exit 0) ⟨[], [(.box (.dat (.int .i64) x.2.1)), (.box (.dat (.int .i64) x.2.2.1))]⟩) (fun y0 => k .ret ⟨[(4, (.dat (.int .i64) y0))], [(.box (.dat (.int .i64) x.2.1)), (.box (.dat (.int .i64) x.2.2.1))]⟩) x.1.2.2.2.1) (fun _ _ _ => rfl) (fun _ _ _ _ => rfl) (fun R x Kn k => by kernel_rfl)
theorem lm30i61 : ∀ c, Try.f61.body = some c → LmOk (E30i61) (C30i61) Try.f61.ntmps c := lmOk_of (ps := [(0, L30_1)]) (by kernel_rfl) (by kernel_rfl) ⟨ek30_1, trivial⟩
noncomputable def c30i61 : CmE := inl E30i61 C30i61 61 Try.f61
theorem d30i61 : CmOk Try.prog c30i61 := inl_ok (E := E30i61) ok30i61 ord lm30i61 Try.func61 ca61

theorem ca54 : callable Try.prog 54 := ⟨Try.f54, Try.func54, by kernel_rfl, by kernel_rfl⟩
noncomputable def E30i54 : Env := mkEnv2 Try.prog [] [c30i61]
theorem ok30i54 : EnvOk (E30i54) := mkEnv2_ok (by simp) (by simp only [List.mem_cons, List.not_mem_nil, or_false, forall_eq]; exact d30i61)
noncomputable def C30i54 : Cfg := noCfg
theorem lm30i54 : ∀ c, Try.f54.body = some c → LmOk (E30i54) (C30i54) Try.f54.ntmps c := fun _ _ => noCfg_lm
noncomputable def c30i54 : CmE := inl E30i54 C30i54 54 Try.f54
theorem d30i54 : CmOk Try.prog c30i54 := inl_ok (E := E30i54) ok30i54 ord lm30i54 Try.func54 ca54

theorem ca30 : callable Try.prog 30 := ⟨Try.f30, Try.func30, by kernel_rfl, by kernel_rfl⟩
noncomputable def E30 : Env := mkEnv2 Try.prog [] [c30i54]
theorem ok30 : EnvOk (E30) := mkEnv2_ok (by simp) (by simp only [List.mem_cons, List.not_mem_nil, or_false, forall_eq]; exact d30i54)
noncomputable def C30 : Cfg := noCfg
theorem lm30 : ∀ c, Try.f30.body = some c → LmOk (E30) (C30) Try.f30.ntmps c := fun _ _ => noCfg_lm
noncomputable def m30 (a0 : Int) (a1 : Int) (a2 : (List Int)) : Option (Bool) :=
  l30_1 a2 (List.length a2 : Int) a0 a1 (
      some true) (fun y2 =>
      some (!(decide (y2 ≥ 0)))) FUEL 0
noncomputable def e30 : PmE := entry 30 [(.int .i64), (.int .i64), (.sl (.int .i64))] false .bool (fun x => m30 x.1 x.2.1 x.2.2.1)
theorem q30 (x : tyL [(.int .i64), (.int .i64), (.sl (.int .i64))]) : execF E30 C30 Try.f30 (datL [(.int .i64), (.int .i64), (.sl (.int .i64))] x) [] (retK false .bool) = m30 x.1 x.2.1 x.2.2.1 := by kernel_rfl
theorem p30 : PmOk Try.prog e30 := pm_ok (E := E30) ok30 ord lm30 Try.func30 ca30 q30

/-! 13: consol/plan.Right -/
theorem ca31 : callable Try.prog 31 := ⟨Try.f31, Try.func31, by kernel_rfl, by kernel_rfl⟩
noncomputable def E13i31 : Env := mkEnv2 Try.prog [e30] []
theorem ok13i31 : EnvOk (E13i31) := mkEnv2_ok (by simp only [List.mem_cons, List.not_mem_nil, or_false, forall_eq]; exact p30) (by simp)
noncomputable def C13i31 : Cfg := noCfg
theorem lm13i31 : ∀ c, Try.f31.body = some c → LmOk (E13i31) (C13i31) Try.f31.ntmps c := fun _ _ => noCfg_lm
noncomputable def c13i31 : CmE := inl E13i31 C13i31 31 Try.f31
theorem d13i31 : CmOk Try.prog c13i31 := inl_ok (E := E13i31) ok13i31 ord lm13i31 Try.func31 ca31

theorem ca57 : callable Try.prog 57 := ⟨Try.f57, Try.func57, by kernel_rfl, by kernel_rfl⟩
noncomputable def E13i57 : Env := mkEnv2 Try.prog [] [c13i31]
theorem ok13i57 : EnvOk (E13i57) := mkEnv2_ok (by simp) (by simp only [List.mem_cons, List.not_mem_nil, or_false, forall_eq]; exact d13i31)
/-- a round of a loop of slices.IndexFunc[[]consol/api.Option,consol/api.Option] -/
noncomputable def s13_1 {R : Type} (t0 : (List T37)) (t7 : Int) (o0 : T24) (o1 : Int) (kn : Int → Option R) (k1 : Option R) (k2 : Int → Option R) (t8 : Int) : Option R :=
  bif (decide (t8 < t7)) then
    (idx t0 t8).bind fun x9 =>
    (bif (((List.length x9.1 : Int) != o1) == false) then (m30 0 1000000000000000 x9.1) else some false).bind fun r10 =>
    bif ((((List.length x9.1 : Int) != o1) || (!r10)) == false) then
      (bif ((((List.length x9.1 : Int) != o1) || (!r10)) == false) then (m30 (-1) (IntKind.i64.wrap ((List.length o0.2.1 : Int) - 1)) [x9.2.1]) else some false).bind fun r11 =>
      bif (((((List.length x9.1 : Int) != o1) || (!r10)) || (!r11)) == false) then
        (bif (((((List.length x9.1 : Int) != o1) || (!r10)) || (!r11)) == false) then (m30 0 1000000000000000 [x9.2.2.1]) else some false).bind fun r12 =>
        bif (((((List.length x9.1 : Int) != o1) || (!r10)) || (!r11)) || (!r12)) then
          k2 t8
        else
          kn (IntKind.i64.wrap (t8 + 1))
      else
        (bif (((((List.length x9.1 : Int) != o1) || (!r10)) || (!r11)) == false) then (m30 0 1000000000000000 []) else some false).bind fun r13 =>
        bif (((((List.length x9.1 : Int) != o1) || (!r10)) || (!r11)) || (!r13)) then
          k2 t8
        else
          kn (IntKind.i64.wrap (t8 + 1))
    else
      (bif ((((List.length x9.1 : Int) != o1) || (!r10)) == false) then (m30 (-1) (IntKind.i64.wrap ((List.length o0.2.1 : Int) - 1)) []) else some false).bind fun r14 =>
      bif (((((List.length x9.1 : Int) != o1) || (!r10)) || (!r14)) == false) then
        (bif (((((List.length x9.1 : Int) != o1) || (!r10)) || (!r14)) == false) then (m30 0 1000000000000000 [x9.2.2.1]) else some false).bind fun r15 =>
        bif (((((List.length x9.1 : Int) != o1) || (!r10)) || (!r14)) || (!r15)) then
          k2 t8
        else
          kn (IntKind.i64.wrap (t8 + 1))
      else
        (bif (((((List.length x9.1 : Int) != o1) || (!r10)) || (!r14)) == false) then (m30 0 1000000000000000 []) else some false).bind fun r16 =>
        bif (((((List.length x9.1 : Int) != o1) || (!r10)) || (!r14)) || (!r16)) then
          k2 t8
        else
          kn (IntKind.i64.wrap (t8 + 1))
  else
    k1
noncomputable def l13_1 {R : Type} (t0 : (List T37)) (t7 : Int) (o0 : T24) (o1 : Int) (k1 : Option R) (k2 : Int → Option R) : Nat → Int → Option R
  | 0, _ => none
  | n + 1, t8 => s13_1 t0 t7 o0 o1 (l13_1 t0 t7 o0 o1 k1 k2 n) k1 k2 t8
noncomputable def L13_1 : LE := ⟨3, 6, ⟨[(0, (.dat (.sl G37))), (1, (.fn 31 (.scons (.box 1 [] 0) (.scons (.box 0 [] 0) .snil)))), (7, (.dat (.int .i64))), (8, (.dat (.int .i64)))], [(.box (.dat G24)), (.box (.dat (.int .i64))), .dead, .dead, .dead, .dead]⟩, fun R n x k => l13_1 x.1.1 x.1.2.2.1 x.2.1 x.2.2.1 (k (.exit 0) ⟨[], [(.box (.dat G24 x.2.1)), (.box (.dat (.int .i64) x.2.2.1)), .dead, .dead, .dead, .dead]⟩) (fun y0 => k .ret ⟨[(4, (.dat (.int .i64) y0))], [(.box (.dat G24 x.2.1)), (.box (.dat (.int .i64) x.2.2.1)), .dead, .dead, .dead, .dead]⟩) n x.1.2.2.2.1⟩
/-- a round of a loop of slices.IndexFunc[[]consol/api.Option,consol/api.Option] -/
noncomputable def s13_3 {R : Type} (t0 : (List T37)) (t7 : Int) (o0 : T24) (o1 : Int) (kn : Int → Option R) (k1 : Option R) (k2 : Int → Option R) (t8 : Int) : Option R :=
  bif (decide (t8 < t7)) then
    (idx t0 t8).bind fun x21 =>
    (bif (((List.length x21.1 : Int) != o1) == false) then (m30 0 1000000000000000 x21.1) else some false).bind fun r22 =>
    bif ((((List.length x21.1 : Int) != o1) || (!r22)) == false) then
      (bif ((((List.length x21.1 : Int) != o1) || (!r22)) == false) then (m30 (-1) (IntKind.i64.wrap ((List.length o0.2.1 : Int) - 1)) [x21.2.1]) else some false).bind fun r23 =>
      bif (((((List.length x21.1 : Int) != o1) || (!r22)) || (!r23)) == false) then
        (bif (((((List.length x21.1 : Int) != o1) || (!r22)) || (!r23)) == false) then (m30 0 1000000000000000 [x21.2.2.1]) else some false).bind fun r24 =>
        bif (((((List.length x21.1 : Int) != o1) || (!r22)) || (!r23)) || (!r24)) then
          k2 t8
        else
          kn (IntKind.i64.wrap (t8 + 1))
      else
        (bif (((((List.length x21.1 : Int) != o1) || (!r22)) || (!r23)) == false) then (m30 0 1000000000000000 []) else some false).bind fun r25 =>
        bif (((((List.length x21.1 : Int) != o1) || (!r22)) || (!r23)) || (!r25)) then
          k2 t8
        else
          kn (IntKind.i64.wrap (t8 + 1))
    else
      (bif ((((List.length x21.1 : Int) != o1) || (!r22)) == false) then (m30 (-1) (IntKind.i64.wrap ((List.length o0.2.1 : Int) - 1)) []) else some false).bind fun r26 =>
      bif (((((List.length x21.1 : Int) != o1) || (!r22)) || (!r26)) == false) then
        (bif (((((List.length x21.1 : Int) != o1) || (!r22)) || (!r26)) == false) then (m30 0 1000000000000000 [x21.2.2.1]) else some false).bind fun r27 =>
        bif (((((List.length x21.1 : Int) != o1) || (!r22)) || (!r26)) || (!r27)) then
          k2 t8
        else
          kn (IntKind.i64.wrap (t8 + 1))
      else
        (bif (((((List.length x21.1 : Int) != o1) || (!r22)) || (!r26)) == false) then (m30 0 1000000000000000 []) else some false).bind fun r28 =>
        bif (((((List.length x21.1 : Int) != o1) || (!r22)) || (!r26)) || (!r28)) then
          k2 t8
        else
          kn (IntKind.i64.wrap (t8 + 1))
  else
    k1
noncomputable def l13_3 {R : Type} (t0 : (List T37)) (t7 : Int) (o0 : T24) (o1 : Int) (k1 : Option R) (k2 : Int → Option R) : Nat → Int → Option R
  | 0, _ => none
  | n + 1, t8 => s13_3 t0 t7 o0 o1 (l13_3 t0 t7 o0 o1 k1 k2 n) k1 k2 t8
noncomputable def L13_3 : LE := ⟨3, 5, ⟨[(0, (.dat (.sl G37))), (1, (.fn 31 (.scons (.box 1 [] 0) (.scons (.box 0 [] 0) .snil)))), (7, (.dat (.int .i64))), (8, (.dat (.int .i64)))], [(.box (.dat G24)), (.box (.dat (.int .i64))), .dead, .dead, .dead]⟩, fun R n x k => l13_3 x.1.1 x.1.2.2.1 x.2.1 x.2.2.1 (k (.exit 0) ⟨[], [(.box (.dat G24 x.2.1)), (.box (.dat (.int .i64) x.2.2.1)), .dead, .dead, .dead]⟩) (fun y0 => k .ret ⟨[(4, (.dat (.int .i64) y0))], [(.box (.dat G24 x.2.1)), (.box (.dat (.int .i64) x.2.2.1)), .dead, .dead, .dead]⟩) n x.1.2.2.2.1⟩
noncomputable def C13i57 : Cfg := mkCfg [(3, ⟨[0, 1, 7, 8], [], []⟩)] [(3, (⟨[], [], []⟩, ⟨[4], [], []⟩))] (([(0, L13_1), (0, L13_3)] : List (Nat × LE)).map (·.2))
theorem ek13_1 : EOk (E13i57) (C13i57) Try.f57.ntmps (bodyL Try.f57 0) (L13_1) := eok_of (e := L13_1) (fun R x Kn k => s13_1 x.1.1 x.1.2.2.1 x.2.1 x.2.2.1 (fun v0 => Kn ((x.1.1, ((), (), ()), x.1.2.2.1, v0, ()), (x.2.1, x.2.2.1, (), (), (), (), ()))) (k (.exit 0) ⟨[], [(.box (.dat G24 x.2.1)), (.box (.dat (.int .i64) x.2.2.1)), .dead, .dead, .dead, .dead]⟩) (fun y0 => k .ret ⟨[(4, (.dat (.int .i64) y0))], [(.box (.dat G24 x.2.1)), (.box (.dat (.int .i64) x.2.2.1)), .dead, .dead, .dead, .dead]⟩) x.1.2.2.2.1) (fun _ _ _ => rfl) (fun _ _ _ _ => rfl) (fun R x Kn k => by kernel_rfl)
theorem ek13_3 : EOk (E13i57) (C13i57) Try.f57.ntmps (bodyL Try.f57 0) (L13_3) := eok_of (e := L13_3) (fun R x Kn k => s13_3 x.1.1 x.1.2.2.1 x.2.1 x.2.2.1 (fun v0 => Kn ((x.1.1, ((), (), ()), x.1.2.2.1, v0, ()), (x.2.1, x.2.2.1, (), (), (), ()))) (k (.exit 0) ⟨[], [(.box (.dat G24 x.2.1)), (.box (.dat (.int .i64) x.2.2.1)), .dead, .dead, .dead]⟩) (fun y0 => k .ret ⟨[(4, (.dat (.int .i64) y0))], [(.box (.dat G24 x.2.1)), (.box (.dat (.int .i64) x.2.2.1)), .dead, .dead, .dead]⟩) x.1.2.2.2.1) (fun _ _ _ => rfl) (fun _ _ _ _ => rfl) (fun R x Kn k => by kernel_rfl)
theorem lm13i57 : ∀ c, Try.f57.body = some c → LmOk (E13i57) (C13i57) Try.f57.ntmps c := lmOk_of (ps := [(0, L13_1), (0, L13_3)]) (by kernel_rfl) (by kernel_rfl) ⟨ek13_1, ek13_3, trivial⟩
noncomputable def c13i57 : CmE := inl E13i57 C13i57 57 Try.f57
theorem d13i57 : CmOk Try.prog c13i57 := inl_ok (E := E13i57) ok13i57 ord lm13i57 Try.func57 ca57

theorem ca34 : callable Try.prog 34 := ⟨Try.f34, Try.func34, by kernel_rfl, by kernel_rfl⟩
noncomputable def E13i34 : Env := mkEnv2 Try.prog [] [c13i57]
theorem ok13i34 : EnvOk (E13i34) := mkEnv2_ok (by simp) (by simp only [List.mem_cons, List.not_mem_nil, or_false, forall_eq]; exact d13i57)
noncomputable def C13i34 : Cfg := noCfg
theorem lm13i34 : ∀ c, Try.f34.body = some c → LmOk (E13i34) (C13i34) Try.f34.ntmps c := fun _ _ => noCfg_lm
noncomputable def c13i34 : CmE := inl E13i34 C13i34 34 Try.f34
theorem d13i34 : CmOk Try.prog c13i34 := inl_ok (E := E13i34) ok13i34 ord lm13i34 Try.func34 ca34

theorem ca33 : callable Try.prog 33 := ⟨Try.f33, Try.func33, by kernel_rfl, by kernel_rfl⟩
noncomputable def E13i33 : Env := mkEnv2 Try.prog [e30] [c13i34]
theorem ok13i33 : EnvOk (E13i33) := mkEnv2_ok (by simp only [List.mem_cons, List.not_mem_nil, or_false, forall_eq]; exact p30) (by simp only [List.mem_cons, List.not_mem_nil, or_false, forall_eq]; exact d13i34)
noncomputable def C13i33 : Cfg := noCfg
theorem lm13i33 : ∀ c, Try.f33.body = some c → LmOk (E13i33) (C13i33) Try.f33.ntmps c := fun _ _ => noCfg_lm
noncomputable def c13i33 : CmE := inl E13i33 C13i33 33 Try.f33
theorem d13i33 : CmOk Try.prog c13i33 := inl_ok (E := E13i33) ok13i33 ord lm13i33 Try.func33 ca33

theorem ca56 : callable Try.prog 56 := ⟨Try.f56, Try.func56, by kernel_rfl, by kernel_rfl⟩
noncomputable def E13i56 : Env := mkEnv2 Try.prog [] [c13i33]
theorem ok13i56 : EnvOk (E13i56) := mkEnv2_ok (by simp) (by simp only [List.mem_cons, List.not_mem_nil, or_false, forall_eq]; exact d13i33)
/-- a round of a loop of slices.IndexFunc[[][]consol/api.Option,[]consol/api.Option] -/
noncomputable def s13_2 {R : Type} (t0 : (List (List T37))) (t7 : Int) (o0 : T24) (o1 : Int) (kn : Int → Option R) (k1 : Option R) (k2 : Int → Option R) (t8 : Int) : Option R :=
  bif (decide (t8 < t7)) then
    (idx t0 t8).bind fun x7 =>
    (m30 1 6 [(List.length x7 : Int)]).bind fun r8 =>
    bif ((!r8) == false) then
      l13_1 x7 (List.length x7 : Int) o0 o1 (
          bif (bif (!r8) then true else false) then
            k2 t8
          else
            kn (IntKind.i64.wrap (t8 + 1))) (fun y17 =>
          bif ((!r8) || (decide (y17 ≥ 0))) then
            k2 t8
          else
            kn (IntKind.i64.wrap (t8 + 1))) FUEL 0
    else
      bif (bif (!r8) then true else false) then
        k2 t8
      else
        kn (IntKind.i64.wrap (t8 + 1))
  else
    k1
noncomputable def l13_2 {R : Type} (t0 : (List (List T37))) (t7 : Int) (o0 : T24) (o1 : Int) (k1 : Option R) (k2 : Int → Option R) : Nat → Int → Option R
  | 0, _ => none
  | n + 1, t8 => s13_2 t0 t7 o0 o1 (l13_2 t0 t7 o0 o1 k1 k2 n) k1 k2 t8
noncomputable def L13_2 : LE := ⟨3, 5, ⟨[(0, (.dat (.sl (.sl G37)))), (1, (.fn 33 (.scons (.box 4 [] 0) .snil))), (7, (.dat (.int .i64))), (8, (.dat (.int .i64)))], [(.box (.dat G24)), (.box (.dat (.int .i64))), .dead, .dead, (.box (.fn 31 (.scons (.box 1 [] 0) (.scons (.box 0 [] 0) .snil))))]⟩, fun R n x k => l13_2 x.1.1 x.1.2.2.1 x.2.1 x.2.2.1 (k (.exit 0) ⟨[], [(.box (.dat G24 x.2.1)), (.box (.dat (.int .i64) x.2.2.1)), .dead, .dead, (.box (.fn 31 (.scons (.box 1 [] 0) (.scons (.box 0 [] 0) .snil))))]⟩) (fun y0 => k .ret ⟨[(4, (.dat (.int .i64) y0))], [(.box (.dat G24 x.2.1)), (.box (.dat (.int .i64) x.2.2.1)), .dead, .dead, (.box (.fn 31 (.scons (.box 1 [] 0) (.scons (.box 0 [] 0) .snil))))]⟩) n x.1.2.2.2.1⟩
/-- a round of a loop of slices.IndexFunc[[][]consol/api.Option,[]consol/api.Option] -/
noncomputable def s13_4 {R : Type} (t0 : (List (List T37))) (t7 : Int) (o0 : T24) (o1 : Int) (kn : Int → Option R) (k1 : Option R) (k2 : Int → Option R) (t8 : Int) : Option R :=
  bif (decide (t8 < t7)) then
    (idx t0 t8).bind fun x19 =>
    (m30 1 6 [(List.length x19 : Int)]).bind fun r20 =>
    bif ((!r20) == false) then
      l13_3 x19 (List.length x19 : Int) o0 o1 (
          bif (bif (!r20) then true else false) then
            k2 t8
          else
            kn (IntKind.i64.wrap (t8 + 1))) (fun y29 =>
          bif ((!r20) || (decide (y29 ≥ 0))) then
            k2 t8
          else
            kn (IntKind.i64.wrap (t8 + 1))) FUEL 0
    else
      bif (bif (!r20) then true else false) then
        k2 t8
      else
        kn (IntKind.i64.wrap (t8 + 1))
  else
    k1
noncomputable def l13_4 {R : Type} (t0 : (List (List T37))) (t7 : Int) (o0 : T24) (o1 : Int) (k1 : Option R) (k2 : Int → Option R) : Nat → Int → Option R
  | 0, _ => none
  | n + 1, t8 => s13_4 t0 t7 o0 o1 (l13_4 t0 t7 o0 o1 k1 k2 n) k1 k2 t8
noncomputable def L13_4 : LE := ⟨3, 4, ⟨[(0, (.dat (.sl (.sl G37)))), (1, (.fn 33 (.scons (.box 3 [] 0) .snil))), (7, (.dat (.int .i64))), (8, (.dat (.int .i64)))], [(.box (.dat G24)), (.box (.dat (.int .i64))), .dead, (.box (.fn 31 (.scons (.box 1 [] 0) (.scons (.box 0 [] 0) .snil))))]⟩, fun R n x k => l13_4 x.1.1 x.1.2.2.1 x.2.1 x.2.2.1 (k (.exit 0) ⟨[], [(.box (.dat G24 x.2.1)), (.box (.dat (.int .i64) x.2.2.1)), .dead, (.box (.fn 31 (.scons (.box 1 [] 0) (.scons (.box 0 [] 0) .snil))))]⟩) (fun y0 => k .ret ⟨[(4, (.dat (.int .i64) y0))], [(.box (.dat G24 x.2.1)), (.box (.dat (.int .i64) x.2.2.1)), .dead, (.box (.fn 31 (.scons (.box 1 [] 0) (.scons (.box 0 [] 0) .snil))))]⟩) n x.1.2.2.2.1⟩
noncomputable def C13i56 : Cfg := mkCfg [(3, ⟨[0, 1, 7, 8], [], []⟩)] [(3, (⟨[], [], []⟩, ⟨[4], [], []⟩))] (([(0, L13_2), (0, L13_4)] : List (Nat × LE)).map (·.2))
theorem ek13_2 : EOk (E13i56) (C13i56) Try.f56.ntmps (bodyL Try.f56 0) (L13_2) := eok_of (e := L13_2) (fun R x Kn k => s13_2 x.1.1 x.1.2.2.1 x.2.1 x.2.2.1 (fun v0 => Kn ((x.1.1, ((), ()), x.1.2.2.1, v0, ()), (x.2.1, x.2.2.1, (), (), ((), (), ()), ()))) (k (.exit 0) ⟨[], [(.box (.dat G24 x.2.1)), (.box (.dat (.int .i64) x.2.2.1)), .dead, .dead, (.box (.fn 31 (.scons (.box 1 [] 0) (.scons (.box 0 [] 0) .snil))))]⟩) (fun y0 => k .ret ⟨[(4, (.dat (.int .i64) y0))], [(.box (.dat G24 x.2.1)), (.box (.dat (.int .i64) x.2.2.1)), .dead, .dead, (.box (.fn 31 (.scons (.box 1 [] 0) (.scons (.box 0 [] 0) .snil))))]⟩) x.1.2.2.2.1) (fun _ _ _ => rfl) (fun _ _ _ _ => rfl) (fun R x Kn k => by kernel_rfl)
theorem ek13_4 : EOk (E13i56) (C13i56) Try.f56.ntmps (bodyL Try.f56 0) (L13_4) := eok_of (e := L13_4) (fun R x Kn k => s13_4 x.1.1 x.1.2.2.1 x.2.1 x.2.2.1 (fun v0 => Kn ((x.1.1, ((), ()), x.1.2.2.1, v0, ()), (x.2.1, x.2.2.1, (), ((), (), ()), ()))) (k (.exit 0) ⟨[], [(.box (.dat G24 x.2.1)), (.box (.dat (.int .i64) x.2.2.1)), .dead, (.box (.fn 31 (.scons (.box 1 [] 0) (.scons (.box 0 [] 0) .snil))))]⟩) (fun y0 => k .ret ⟨[(4, (.dat (.int .i64) y0))], [(.box (.dat G24 x.2.1)), (.box (.dat (.int .i64) x.2.2.1)), .dead, (.box (.fn 31 (.scons (.box 1 [] 0) (.scons (.box 0 [] 0) .snil))))]⟩) x.1.2.2.2.1) (fun _ _ _ => rfl) (fun _ _ _ _ => rfl) (fun R x Kn k => by kernel_rfl)
theorem lm13i56 : ∀ c, Try.f56.body = some c → LmOk (E13i56) (C13i56) Try.f56.ntmps c := lmOk_of (ps := [(0, L13_2), (0, L13_4)]) (by kernel_rfl) (by kernel_rfl) ⟨ek13_2, ek13_4, trivial⟩
noncomputable def c13i56 : CmE := inl E13i56 C13i56 56 Try.f56
theorem d13i56 : CmOk Try.prog c13i56 := inl_ok (E := E13i56) ok13i56 ord lm13i56 Try.func56 ca56

theorem ca32 : callable Try.prog 32 := ⟨Try.f32, Try.func32, by kernel_rfl, by kernel_rfl⟩
noncomputable def E13i32 : Env := mkEnv2 Try.prog [] [c13i56]
theorem ok13i32 : EnvOk (E13i32) := mkEnv2_ok (by simp) (by simp only [List.mem_cons, List.not_mem_nil, or_false, forall_eq]; exact d13i56)
noncomputable def C13i32 : Cfg := noCfg
theorem lm13i32 : ∀ c, Try.f32.body = some c → LmOk (E13i32) (C13i32) Try.f32.ntmps c := fun _ _ => noCfg_lm
noncomputable def c13i32 : CmE := inl E13i32 C13i32 32 Try.f32
theorem d13i32 : CmOk Try.prog c13i32 := inl_ok (E := E13i32) ok13i32 ord lm13i32 Try.func32 ca32

theorem ca13 : callable Try.prog 13 := ⟨Try.f13, Try.func13, by kernel_rfl, by kernel_rfl⟩
noncomputable def E13 : Env := mkEnv2 Try.prog [e29, e30] [c13i32]
theorem ok13 : EnvOk (E13) := mkEnv2_ok (by simp only [List.mem_cons, List.not_mem_nil, or_false, forall_eq_or_imp, forall_eq]; exact ⟨p29, p30⟩) (by simp only [List.mem_cons, List.not_mem_nil, or_false, forall_eq]; exact d13i32)
noncomputable def C13 : Cfg := noCfg
theorem lm13 : ∀ c, Try.f13.body = some c → LmOk (E13) (C13) Try.f13.ntmps c := fun _ _ => noCfg_lm
noncomputable def m13 (a0 : T24) : Option (Bool) :=
  (m29 a0).bind fun r1 =>
  (m30 1 40 [(List.length a0.1 : Int)]).bind fun r2 =>
  bif ((!r2) == false) then
    (bif ((!r2) == false) then (m30 1 10 [r1]) else some false).bind fun r3 =>
    (bif ((((!r2) || (!r3)) || (decide ((List.length a0.2.1 : Int) > 60))) == false) then (m30 0 1000000000000000 a0.2.1) else some false).bind fun r4 =>
    bif ((((!r2) || (!r3)) || (decide ((List.length a0.2.1 : Int) > 60))) || (!r4)) then
      some false
    else
      l13_2 a0.1 (List.length a0.1 : Int) a0 r1 (
          some true) (fun y18 =>
          some (!(decide (y18 ≥ 0)))) FUEL 0
  else
    (bif ((!r2) == false) then (m30 1 10 []) else some false).bind fun r5 =>
    (bif ((((!r2) || (!r5)) || (decide ((List.length a0.2.1 : Int) > 60))) == false) then (m30 0 1000000000000000 a0.2.1) else some false).bind fun r6 =>
    bif ((((!r2) || (!r5)) || (decide ((List.length a0.2.1 : Int) > 60))) || (!r6)) then
      some false
    else
      l13_4 a0.1 (List.length a0.1 : Int) a0 r1 (
          some true) (fun y30 =>
          some (!(decide (y30 ≥ 0)))) FUEL 0
noncomputable def e13 : PmE := entry 13 [G24] false .bool (fun x => m13 x.1)
theorem q13 (x : tyL [G24]) : execF E13 C13 Try.f13 (datL [G24] x) [] (retK false .bool) = m13 x.1 := by kernel_rfl
theorem p13 : PmOk Try.prog e13 := pm_ok (E := E13) ok13 ord lm13 Try.func13 ca13 q13

/-! 20: (consol/margin.place).there -/
theorem ca20 : callable Try.prog 20 := ⟨Try.f20, Try.func20, by kernel_rfl, by kernel_rfl⟩
noncomputable def E20 : Env := mkEnv2 Try.prog [] []
theorem ok20 : EnvOk (E20) := mkEnv2_ok (by simp) (by simp)
noncomputable def C20 : Cfg := noCfg
theorem lm20 : ∀ c, Try.f20.body = some c → LmOk (E20) (C20) Try.f20.ntmps c := fun _ _ => noCfg_lm
noncomputable def m20 (a0 : T47) (a1 : T24) : Option (Bool) :=
  (idxG ((((decide (a0.1 < 0)) || (decide (a0.1 ≥ (List.length a1.1 : Int)))) || (decide (a0.2.1 < 0))) == false) ([] : (List T37)) a1.1 a0.1).bind fun x1 =>
  bif ((((decide (a0.1 < 0)) || (decide (a0.1 ≥ (List.length a1.1 : Int)))) || (decide (a0.2.1 < 0))) || (decide (a0.2.1 ≥ (List.length x1 : Int)))) then
    some false
  else
    (idxG ((decide (0 ≤ a0.2.2.1)) == true) ([] : (List T37)) a1.1 a0.1).bind fun x2 =>
    (idxG ((decide (0 ≤ a0.2.2.1)) == true) (([] : (List Int)), 0, 0, ()) x2 a0.2.1).bind fun x3 =>
    some ((decide (0 ≤ a0.2.2.1)) && (decide (a0.2.2.1 < (List.length x3.1 : Int))))
noncomputable def e20 : PmE := entry 20 [G47, G24] false .bool (fun x => m20 x.1 x.2.1)
theorem q20 (x : tyL [G47, G24]) : execF E20 C20 Try.f20 (datL [G47, G24] x) [] (retK false .bool) = m20 x.1 x.2.1 := by kernel_rfl
theorem p20 : PmOk Try.prog e20 := pm_ok (E := E20) ok20 ord lm20 Try.func20 ca20 q20

/-! 21: consol/margin.many -/
theorem ca21 : callable Try.prog 21 := ⟨Try.f21, Try.func21, by kernel_rfl, by kernel_rfl⟩
noncomputable def E21 : Env := mkEnv2 Try.prog [] []
theorem ok21 : EnvOk (E21) := mkEnv2_ok (by simp) (by simp)
/-- a round of a loop of consol/margin.many -/
noncomputable def s21_1 {R : Type} (t7 : (List (List T37))) (t8 : Int) (kn : Int → Int → Option R) (k1 : Int → Option R) (k2 : Int → Option R) (t3 : Int) (t9 : Int) : Option R :=
  bif (decide (t9 < t8)) then
    (idx t7 t9).bind fun x1 =>
    bif (decide ((IntKind.i64.wrap (t3 * (List.length x1 : Int))) > 100000)) then
      k2 (IntKind.i64.wrap (t3 * (List.length x1 : Int)))
    else
      kn (IntKind.i64.wrap (t3 * (List.length x1 : Int))) (IntKind.i64.wrap (t9 + 1))
  else
    k1 t3
noncomputable def l21_1 {R : Type} (t7 : (List (List T37))) (t8 : Int) (k1 : Int → Option R) (k2 : Int → Option R) : Nat → Int → Int → Option R
  | 0, _, _ => none
  | n + 1, t3, t9 => s21_1 t7 t8 (l21_1 t7 t8 k1 k2 n) k1 k2 t3 t9
noncomputable def L21_1 : LE := ⟨4, 0, ⟨[(3, (.dat (.int .i64))), (7, (.dat (.sl (.sl G37)))), (8, (.dat (.int .i64))), (9, (.dat (.int .i64)))], []⟩, fun R n x k => l21_1 x.1.2.1 x.1.2.2.1 (fun y0 => k (.exit 0) ⟨[(3, (.dat (.int .i64) y0))], []⟩) (fun y0 => k .ret ⟨[(2, (.dat (.int .i64) y0))], []⟩) n x.1.1 x.1.2.2.2.1⟩
noncomputable def C21 : Cfg := mkCfg [(4, ⟨[3, 7, 8, 9], [], []⟩)] [(4, (⟨[3], [], []⟩, ⟨[2], [], []⟩))] (([(0, L21_1)] : List (Nat × LE)).map (·.2))
theorem ek21_1 : EOk (E21) (C21) Try.f21.ntmps (bodyL Try.f21 0) (L21_1) := eok_of (e := L21_1) (fun R x Kn k => s21_1 x.1.2.1 x.1.2.2.1 (fun v0 v1 => Kn ((v0, x.1.2.1, x.1.2.2.1, v1, ()), (()))) (fun y0 => k (.exit 0) ⟨[(3, (.dat (.int .i64) y0))], []⟩) (fun y0 => k .ret ⟨[(2, (.dat (.int .i64) y0))], []⟩) x.1.1 x.1.2.2.2.1) (fun _ _ _ => rfl) (fun _ _ _ _ => rfl) (fun R x Kn k => by kernel_rfl)
theorem lm21 : ∀ c, Try.f21.body = some c → LmOk (E21) (C21) Try.f21.ntmps c := lmOk_of (ps := [(0, L21_1)]) (by kernel_rfl) (by kernel_rfl) ⟨ek21_1, trivial⟩
noncomputable def m21 (a0 : T24) : Option (Int) :=
  l21_1 a0.1 (List.length a0.1 : Int) (fun y2 =>
      some y2) (fun y3 =>
      some y3) FUEL 1 0
noncomputable def e21 : PmE := entry 21 [G24] false (.int .i64) (fun x => m21 x.1)
theorem q21 (x : tyL [G24]) : execF E21 C21 Try.f21 (datL [G24] x) [] (retK false (.int .i64)) = m21 x.1 := by kernel_rfl
theorem p21 : PmOk Try.prog e21 := pm_ok (E := E21) ok21 ord lm21 Try.func21 ca21 q21

theorem ca39 : callable Try.prog 39 := ⟨Try.f39, Try.func39, by kernel_rfl, by kernel_rfl⟩
/-! 39: slices.Clone[[]int,int] -/
noncomputable def c39 : CmE := ownE 39 [(.sl (.int .i64))] (.int .i64) (fun x => cloneM x.1)
theorem d39 : CmOk Try.prog c39 := own_ok ca39 (clone_run (g := (.int .i64)) ord Try.func39 Try.underlying23 rfl (by kernel_rfl) (fun _ => by kernel_rfl) (by kernel_rfl) (fun _ => by kernel_rfl))

/-! 37: (*consol/plan.state).over -/
theorem ca37 : callable Try.prog 37 := ⟨Try.f37, Try.func37, by kernel_rfl, by kernel_rfl⟩
noncomputable def E37 : Env := mkEnv2 Try.prog [] []
theorem ok37 : EnvOk (E37) := mkEnv2_ok (by simp) (by simp)
/-- a round of a loop of (*consol/plan.state).over -/
noncomputable def s37_1 {R : Type} (t0 : T87) (t8 : (List Int)) (t9 : Int) (kn : Int → Option R) (k1 : Option R) (k2 : Int → Option R) (t10 : Int) : Option R :=
  bif (decide (t10 < t9)) then
    (idx t8 t10).bind fun x1 =>
    (idx t0.1.2.1 t10).bind fun x2 =>
    bif (decide (x1 > x2)) then
      k2 t10
    else
      kn (IntKind.i64.wrap (t10 + 1))
  else
    k1
noncomputable def l37_1 {R : Type} (t0 : T87) (t8 : (List Int)) (t9 : Int) (k1 : Option R) (k2 : Int → Option R) : Nat → Int → Option R
  | 0, _ => none
  | n + 1, t10 => s37_1 t0 t8 t9 (l37_1 t0 t8 t9 k1 k2 n) k1 k2 t10
noncomputable def L37_1 : LE := ⟨3, 0, ⟨[(0, (.rd G87)), (8, (.dat (.sl (.int .i64)))), (9, (.dat (.int .i64))), (10, (.dat (.int .i64)))], []⟩, fun R n x k => l37_1 x.1.1 x.1.2.1 x.1.2.2.1 (k (.exit 0) ⟨[], []⟩) (fun y0 => k .ret ⟨[(2, (.dat (.int .i64) y0))], []⟩) n x.1.2.2.2.1⟩
noncomputable def C37 : Cfg := mkCfg [(3, ⟨[0, 8, 9, 10], [], []⟩)] [(3, (⟨[], [], []⟩, ⟨[2], [], []⟩))] (([(0, L37_1)] : List (Nat × LE)).map (·.2))
theorem ek37_1 : EOk (E37) (C37) Try.f37.ntmps (bodyL Try.f37 0) (L37_1) := eok_of (e := L37_1) (fun R x Kn k => s37_1 x.1.1 x.1.2.1 x.1.2.2.1 (fun v0 => Kn ((x.1.1, x.1.2.1, x.1.2.2.1, v0, ()), (()))) (k (.exit 0) ⟨[], []⟩) (fun y0 => k .ret ⟨[(2, (.dat (.int .i64) y0))], []⟩) x.1.2.2.2.1) (fun _ _ _ => rfl) (fun _ _ _ _ => rfl) (fun R x Kn k => by kernel_rfl)
theorem lm37 : ∀ c, Try.f37.body = some c → LmOk (E37) (C37) Try.f37.ntmps c := lmOk_of (ps := [(0, L37_1)]) (by kernel_rfl) (by kernel_rfl) ⟨ek37_1, trivial⟩
noncomputable def m37 (a0 : T87) : Option (Int) :=
  l37_1 a0 a0.2.2.2.1 (List.length a0.2.2.2.1 : Int) (
      some (-1)) (fun y3 =>
      some y3) FUEL 0
noncomputable def e37 : PmE := entryP 37 [true] [G87] false (.int .i64) (fun x => m37 x.1)
theorem q37 (x : tyL [G87]) : execF E37 C37 Try.f37 (datP [true] [G87] x) [] (retK false (.int .i64)) = m37 x.1 := by kernel_rfl
theorem p37 : PmOk Try.prog e37 := pmP_ok (E := E37) ok37 ord lm37 Try.func37 ca37 q37

/-! 58: slices.Max[[]int,int] -/
theorem ca58 : callable Try.prog 58 := ⟨Try.f58, Try.func58, by kernel_rfl, by kernel_rfl⟩
noncomputable def E58 : Env := mkEnv2 Try.prog [] []
theorem ok58 : EnvOk (E58) := mkEnv2_ok (by simp) (by simp)
/-- a round of a loop of slices.Max[[]int,int] -/
noncomputable def s58_1 {R : Type} (t0 : (List Int)) (kn : Int → Int → Option R) (k1 : Int → Option R) (t3 : Int) (t4 : Int) : Option R :=
  bif (decide (t4 < (List.length t0 : Int))) then
    (idx t0 t4).bind fun x2 =>
    kn (bif decide (x2 > t3) then x2 else t3) (IntKind.i64.wrap (t4 + 1))
  else
    k1 t3
noncomputable def l58_1 {R : Type} (t0 : (List Int)) (k1 : Int → Option R) : Nat → Int → Int → Option R
  | 0, _, _ => none
  | n + 1, t3, t4 => s58_1 t0 (l58_1 t0 k1 n) k1 t3 t4
noncomputable def L58_1 : LE := ⟨6, 0, ⟨[(0, (.dat (.sl (.int .i64)))), (3, (.dat (.int .i64))), (4, (.dat (.int .i64)))], []⟩, fun R n x k => l58_1 x.1.1 (fun y0 => k (.exit 0) ⟨[(3, (.dat (.int .i64) y0))], []⟩) n x.1.2.1 x.1.2.2.1⟩
noncomputable def C58 : Cfg := mkCfg [(4, ⟨[0], [], []⟩), (6, ⟨[0, 3, 4], [], []⟩)] [(6, (⟨[3], [], []⟩, ⟨[2], [], []⟩))] (([(0, L58_1)] : List (Nat × LE)).map (·.2))
theorem ek58_1 : EOk (E58) (C58) Try.f58.ntmps (bodyL Try.f58 0) (L58_1) := eok_of (e := L58_1) (fun R x Kn k => s58_1 x.1.1 (fun v0 v1 => Kn ((x.1.1, v0, v1, ()), (()))) (fun y0 => k (.exit 0) ⟨[(3, (.dat (.int .i64) y0))], []⟩) x.1.2.1 x.1.2.2.1) (fun _ _ _ => rfl) (fun _ _ _ _ => rfl) (fun R x Kn k => by kernel_rfl)
theorem lm58 : ∀ c, Try.f58.body = some c → LmOk (E58) (C58) Try.f58.ntmps c := lmOk_of (ps := [(0, L58_1)]) (by kernel_rfl) (by kernel_rfl) ⟨ek58_1, trivial⟩
noncomputable def m58 (a0 : (List Int)) : Option (Int) :=
  bif (decide ((List.length a0 : Int) < 1)) then
    none
  else
    (idx a0 0).bind fun x1 =>
    l58_1 a0 (fun y3 =>
        some y3) FUEL x1 1
noncomputable def e58 : PmE := entry 58 [(.sl (.int .i64))] false (.int .i64) (fun x => m58 x.1)
theorem q58 (x : tyL [(.sl (.int .i64))]) : execF E58 C58 Try.f58 (datL [(.sl (.int .i64))] x) [] (retK false (.int .i64)) = m58 x.1 := by kernel_rfl
theorem p58 : PmOk Try.prog e58 := pm_ok (E := E58) ok58 ord lm58 Try.func58 ca58 q58

/-! 38: (*consol/plan.state).floor -/
theorem ca38 : callable Try.prog 38 := ⟨Try.f38, Try.func38, by kernel_rfl, by kernel_rfl⟩
noncomputable def E38 : Env := mkEnv2 Try.prog [e58] []
theorem ok38 : EnvOk (E38) := mkEnv2_ok (by simp only [List.mem_cons, List.not_mem_nil, or_false, forall_eq]; exact p58) (by simp)
noncomputable def C38 : Cfg := noCfg
theorem lm38 : ∀ c, Try.f38.body = some c → LmOk (E38) (C38) Try.f38.ntmps c := fun _ _ => noCfg_lm
noncomputable def m38 (a0 : T87) : Option (Int) :=
  (m58 a0.2.2.1).bind fun r1 =>
  some r1
noncomputable def e38 : PmE := entryP 38 [true] [G87] false (.int .i64) (fun x => m38 x.1)
theorem q38 (x : tyL [G87]) : execF E38 C38 Try.f38 (datP [true] [G87] x) [] (retK false (.int .i64)) = m38 x.1 := by kernel_rfl
theorem p38 : PmOk Try.prog e38 := pmP_ok (E := E38) ok38 ord lm38 Try.func38 ca38 q38

/-! 36: consol/plan.Best$1 -/
theorem ca36 : callable Try.prog 36 := ⟨Try.f36, Try.func36, by kernel_rfl, by kernel_rfl⟩
def F36i : ShS := ⟨[(0, (.box 0 [] 0)), (1, (.box 1 [] 0)), (2, (.box 2 [] 0)), (3, (.box 3 [] 0)), (4, (.box 4 [] 0)), (5, (.box 5 [] 0)), (6, (.box 6 [] 0))], [(.box (.dat (.int .i64))), (.box (.box 7 [] 0)), (.box (.nsl (.int .i64))), (.box (.dat (.int .i64))), (.box (.own 8)), (.box (.dat G24)), (.box (.fn 36 (.scons (.box 0 [] 0) (.scons (.box 1 [] 0) (.scons (.box 2 [] 0) (.scons (.box 3 [] 0) (.scons (.box 4 [] 0) (.scons (.box 5 [] 0) (.scons (.box 6 [] 0) .snil))))))))), (.box (.agg (.scons (.dat G24) (.scons (.dat (.sl (.sl (.int .i64)))) (.scons (.own 9) (.scons (.own 10) .snil)))))), (.arr (.int .i64)), (.arr (.int .i64)), (.arr (.int .i64))]⟩
def F36o : ShS := ⟨[(0, (.tup .snil))], [(.box (.dat (.int .i64))), (.box (.box 7 [] 0)), (.box (.nsl (.int .i64))), (.box (.dat (.int .i64))), (.box (.own 11)), (.box (.dat G24)), (.box (.fn 36 (.scons (.box 0 [] 0) (.scons (.box 1 [] 0) (.scons (.box 2 [] 0) (.scons (.box 3 [] 0) (.scons (.box 4 [] 0) (.scons (.box 5 [] 0) (.scons (.box 6 [] 0) .snil))))))))), (.box (.agg (.scons (.dat G24) (.scons (.dat (.sl (.sl (.int .i64)))) (.scons (.own 9) (.scons (.own 10) .snil)))))), .dead, (.arr (.int .i64)), (.arr (.int .i64)), (.arr (.int .i64))]⟩
noncomputable def cS36 (mr : Int → (List Int) → Int → T24 → T24 → (List (List Int)) → (List Int) → (List Int) → (List Int) → Option F36o.ty) : CmE := stE 36 [(2, [], (.cons (.sl (.int .i64)) .opq))] [(4, [], (.int .i64))] F36i F36o (fun x => mr x.2.1 x.2.2.2.1 x.2.2.2.2.1 x.2.2.2.2.2.2.1 x.2.2.2.2.2.2.2.2.1.1 x.2.2.2.2.2.2.2.2.1.2.1 x.2.2.2.2.2.2.2.2.2.1 x.2.2.2.2.2.2.2.2.2.2.1 x.2.2.2.2.2.2.2.2.2.2.2.1)
theorem ca40 : callable Try.prog 40 := ⟨Try.f40, Try.func40, by kernel_rfl, by kernel_rfl⟩
noncomputable def E36i40 : Env := mkEnv2 Try.prog [] []
theorem ok36i40 : EnvOk (E36i40) := mkEnv2_ok (by simp) (by simp)
/-- a round of a loop of (*consol/plan.state).step -/
noncomputable def s36_1 {R : Type} (t1 : Int) (t3 : Int) (t23 : (List Int)) (t24 : Int) (o7_2 : (List (List Int))) (kn : Int → (List Int) → Option R) (k1 : (List Int) → Option R) (t25 : Int) (o9 : (List Int)) : Option R :=
  bif (decide (t25 < t24)) then
    (idx t23 t25).bind fun x8 =>
    asrt true (decide (0 ≤ t25) && decide (t25 < (List.length o9 : Int))) (
      ((o9)[(t25 : Int).toNat]?).bind fun x9 =>
      (idx o7_2 t1).bind fun x10 =>
      (idx x10 t25).bind fun x11 =>
      asrt true (decide (0 ≤ t25) && decide (t25 < (List.length o9 : Int))) (
        ((o9)[(t25 : Int).toNat]?).bind fun x12 =>
        kn (IntKind.i64.wrap (t25 + 1)) (List.set o9 (t25 : Int).toNat (IntKind.i64.wrap (x9 + (IntKind.i64.wrap (t3 * (IntKind.i64.wrap (x8 - x11)))))))))
  else
    k1 o9
noncomputable def l36_1 {R : Type} (t1 : Int) (t3 : Int) (t23 : (List Int)) (t24 : Int) (o7_2 : (List (List Int))) (k1 : (List Int) → Option R) : Nat → Int → (List Int) → Option R
  | 0, _, _ => none
  | n + 1, t25, o9 => s36_1 t1 t3 t23 t24 o7_2 (l36_1 t1 t3 t23 t24 o7_2 k1 n) k1 t25 o9
noncomputable def L36_1 : LE := ⟨3, 14, ⟨[(0, (.box 7 [] 0)), (1, (.dat (.int .i64))), (3, (.dat (.int .i64))), (8, (.box 14 [] 0)), (23, (.dat (.sl (.int .i64)))), (24, (.dat (.int .i64))), (25, (.dat (.int .i64)))], [.dead, .dead, .dead, .dead, .dead, .dead, .dead, (.box (.agg (.scons (.dat G24) (.scons (.dat (.sl (.sl (.int .i64)))) (.scons (.own 9) (.scons (.own 10) .snil)))))), .dead, (.arr (.int .i64)), (.arr (.int .i64)), .dead, .dead, .dead, (.box (.dat G37))]⟩, fun R n x k => l36_1 x.1.2.1 x.1.2.2.1 x.1.2.2.2.2.1 x.1.2.2.2.2.2.1 x.2.2.2.2.2.2.2.2.1.2.1 (fun y0 => k (.exit 0) ⟨[(0, (.box 7 [] 0)), (3, (.dat (.int .i64) x.1.2.2.1)), (8, (.box 14 [] 0))], [.dead, .dead, .dead, .dead, .dead, .dead, .dead, (.box (.agg (.scons (.dat G24 x.2.2.2.2.2.2.2.2.1.1) (.scons (.dat (.sl (.sl (.int .i64))) x.2.2.2.2.2.2.2.2.1.2.1) (.scons (.own 9) (.scons (.own 10) .snil)))))), .dead, (.arr (.int .i64) y0), (.arr (.int .i64) x.2.2.2.2.2.2.2.2.2.2.2.1), .dead, .dead, .dead, (.box (.dat G37 x.2.2.2.2.2.2.2.2.2.2.2.2.2.2.2.1))]⟩) n x.1.2.2.2.2.2.2.1 x.2.2.2.2.2.2.2.2.2.2.1⟩
/-- a round of a loop of (*consol/plan.state).step -/
noncomputable def s36_2 {R : Type} (t1 : Int) (t3 : Int) (t23 : (List Int)) (t24 : Int) (o7_2 : (List (List Int))) (kn : Int → (List Int) → Option R) (k1 : (List Int) → Option R) (t25 : Int) (o9 : (List Int)) : Option R :=
  bif (decide (t25 < t24)) then
    (idx t23 t25).bind fun x19 =>
    asrt true (decide (0 ≤ t25) && decide (t25 < (List.length o9 : Int))) (
      ((o9)[(t25 : Int).toNat]?).bind fun x20 =>
      (idx o7_2 t1).bind fun x21 =>
      (idx x21 t25).bind fun x22 =>
      asrt true (decide (0 ≤ t25) && decide (t25 < (List.length o9 : Int))) (
        ((o9)[(t25 : Int).toNat]?).bind fun x23 =>
        kn (IntKind.i64.wrap (t25 + 1)) (List.set o9 (t25 : Int).toNat (IntKind.i64.wrap (x20 + (IntKind.i64.wrap (t3 * (IntKind.i64.wrap (x19 - x22)))))))))
  else
    k1 o9
noncomputable def l36_2 {R : Type} (t1 : Int) (t3 : Int) (t23 : (List Int)) (t24 : Int) (o7_2 : (List (List Int))) (k1 : (List Int) → Option R) : Nat → Int → (List Int) → Option R
  | 0, _, _ => none
  | n + 1, t25, o9 => s36_2 t1 t3 t23 t24 o7_2 (l36_2 t1 t3 t23 t24 o7_2 k1 n) k1 t25 o9
noncomputable def L36_2 : LE := ⟨3, 16, ⟨[(0, (.box 7 [] 0)), (1, (.dat (.int .i64))), (3, (.dat (.int .i64))), (8, (.box 16 [] 0)), (23, (.dat (.sl (.int .i64)))), (24, (.dat (.int .i64))), (25, (.dat (.int .i64)))], [.dead, .dead, .dead, .dead, .dead, .dead, .dead, (.box (.agg (.scons (.dat G24) (.scons (.dat (.sl (.sl (.int .i64)))) (.scons (.own 9) (.scons (.own 10) .snil)))))), .dead, (.arr (.int .i64)), (.arr (.int .i64)), .dead, .dead, .dead, .dead, .dead, (.box (.dat G37))]⟩, fun R n x k => l36_2 x.1.2.1 x.1.2.2.1 x.1.2.2.2.2.1 x.1.2.2.2.2.2.1 x.2.2.2.2.2.2.2.2.1.2.1 (fun y0 => k (.exit 0) ⟨[(0, (.box 7 [] 0)), (3, (.dat (.int .i64) x.1.2.2.1)), (8, (.box 16 [] 0))], [.dead, .dead, .dead, .dead, .dead, .dead, .dead, (.box (.agg (.scons (.dat G24 x.2.2.2.2.2.2.2.2.1.1) (.scons (.dat (.sl (.sl (.int .i64))) x.2.2.2.2.2.2.2.2.1.2.1) (.scons (.own 9) (.scons (.own 10) .snil)))))), .dead, (.arr (.int .i64) y0), (.arr (.int .i64) x.2.2.2.2.2.2.2.2.2.2.2.1), .dead, .dead, .dead, .dead, .dead, (.box (.dat G37 x.2.2.2.2.2.2.2.2.2.2.2.2.2.2.2.2.2.1))]⟩) n x.1.2.2.2.2.2.2.1 x.2.2.2.2.2.2.2.2.2.2.1⟩
noncomputable def C36i40 : Cfg := mkCfg [(3, ⟨[0, 1, 3, 8, 23, 24, 25], [], []⟩)] [(3, (⟨[0, 3, 8], [], []⟩, ⟨[], [], []⟩))] (([(0, L36_1), (0, L36_2)] : List (Nat × LE)).map (·.2))
theorem ek36_1 : EOk (E36i40) (C36i40) Try.f40.ntmps (bodyL Try.f40 0) (L36_1) := eok_of (e := L36_1) (fun R x Kn k => s36_1 x.1.2.1 x.1.2.2.1 x.1.2.2.2.2.1 x.1.2.2.2.2.2.1 x.2.2.2.2.2.2.2.2.1.2.1 (fun v0 v1 => Kn (((), x.1.2.1, x.1.2.2.1, (), x.1.2.2.2.2.1, x.1.2.2.2.2.2.1, v0, ()), ((), (), (), (), (), (), (), (x.2.2.2.2.2.2.2.2.1.1, x.2.2.2.2.2.2.2.2.1.2.1, (), (), ()), (), v1, x.2.2.2.2.2.2.2.2.2.2.2.1, (), (), (), x.2.2.2.2.2.2.2.2.2.2.2.2.2.2.2.1, ()))) (fun y0 => k (.exit 0) ⟨[(0, (.box 7 [] 0)), (3, (.dat (.int .i64) x.1.2.2.1)), (8, (.box 14 [] 0))], [.dead, .dead, .dead, .dead, .dead, .dead, .dead, (.box (.agg (.scons (.dat G24 x.2.2.2.2.2.2.2.2.1.1) (.scons (.dat (.sl (.sl (.int .i64))) x.2.2.2.2.2.2.2.2.1.2.1) (.scons (.own 9) (.scons (.own 10) .snil)))))), .dead, (.arr (.int .i64) y0), (.arr (.int .i64) x.2.2.2.2.2.2.2.2.2.2.2.1), .dead, .dead, .dead, (.box (.dat G37 x.2.2.2.2.2.2.2.2.2.2.2.2.2.2.2.1))]⟩) x.1.2.2.2.2.2.2.1 x.2.2.2.2.2.2.2.2.2.2.1) (fun _ _ _ => rfl) (fun _ _ _ _ => rfl) (fun R x Kn k => by kernel_rfl)
theorem ek36_2 : EOk (E36i40) (C36i40) Try.f40.ntmps (bodyL Try.f40 0) (L36_2) := eok_of (e := L36_2) (fun R x Kn k => s36_2 x.1.2.1 x.1.2.2.1 x.1.2.2.2.2.1 x.1.2.2.2.2.2.1 x.2.2.2.2.2.2.2.2.1.2.1 (fun v0 v1 => Kn (((), x.1.2.1, x.1.2.2.1, (), x.1.2.2.2.2.1, x.1.2.2.2.2.2.1, v0, ()), ((), (), (), (), (), (), (), (x.2.2.2.2.2.2.2.2.1.1, x.2.2.2.2.2.2.2.2.1.2.1, (), (), ()), (), v1, x.2.2.2.2.2.2.2.2.2.2.2.1, (), (), (), (), (), x.2.2.2.2.2.2.2.2.2.2.2.2.2.2.2.2.2.1, ()))) (fun y0 => k (.exit 0) ⟨[(0, (.box 7 [] 0)), (3, (.dat (.int .i64) x.1.2.2.1)), (8, (.box 16 [] 0))], [.dead, .dead, .dead, .dead, .dead, .dead, .dead, (.box (.agg (.scons (.dat G24 x.2.2.2.2.2.2.2.2.1.1) (.scons (.dat (.sl (.sl (.int .i64))) x.2.2.2.2.2.2.2.2.1.2.1) (.scons (.own 9) (.scons (.own 10) .snil)))))), .dead, (.arr (.int .i64) y0), (.arr (.int .i64) x.2.2.2.2.2.2.2.2.2.2.2.1), .dead, .dead, .dead, .dead, .dead, (.box (.dat G37 x.2.2.2.2.2.2.2.2.2.2.2.2.2.2.2.2.2.1))]⟩) x.1.2.2.2.2.2.2.1 x.2.2.2.2.2.2.2.2.2.2.1) (fun _ _ _ => rfl) (fun _ _ _ _ => rfl) (fun R x Kn k => by kernel_rfl)
theorem lm36i40 : ∀ c, Try.f40.body = some c → LmOk (E36i40) (C36i40) Try.f40.ntmps c := lmOk_of (ps := [(0, L36_1), (0, L36_2)]) (by kernel_rfl) (by kernel_rfl) ⟨ek36_1, ek36_2, trivial⟩
noncomputable def c36i40 : CmE := inl E36i40 C36i40 40 Try.f40
theorem d36i40 : CmOk Try.prog c36i40 := inl_ok (E := E36i40) ok36i40 ord lm36i40 Try.func40 ca40

noncomputable def E36 (mr : Int → (List Int) → Int → T24 → T24 → (List (List Int)) → (List Int) → (List Int) → (List Int) → Option F36o.ty) : Env := mkEnv2 Try.prog [e37, e38] [cS36 mr, c39, c36i40]
theorem ok36 (mr : Int → (List Int) → Int → T24 → T24 → (List (List Int)) → (List Int) → (List Int) → (List Int) → Option F36o.ty) (hmr : CmOk Try.prog (cS36 mr)) : EnvOk (E36 mr) := mkEnv2_ok (by simp only [List.mem_cons, List.not_mem_nil, or_false, forall_eq_or_imp, forall_eq]; exact ⟨p37, p38⟩) (by simp only [List.mem_cons, List.not_mem_nil, or_false, forall_eq_or_imp, forall_eq]; exact ⟨hmr, d39, d36i40⟩)
/-- a round of a loop of consol/plan.Best$1 -/
noncomputable def s36_3 {R : Type} (mr : Int → (List Int) → Int → T24 → T24 → (List (List Int)) → (List Int) → (List Int) → (List Int) → Option F36o.ty) (t7 : Int) (t44 : Int) (kn : Int → Int → (List Int) → Int → T24 → T24 → (List (List Int)) → (List Int) → (List Int) → (List Int) → Option R) (k1 : Int → (List Int) → Int → T24 → T24 → (List (List Int)) → (List Int) → (List Int) → (List Int) → Option R) (t45 : Int) (o0 : Int) (o2 : (List Int)) (o3 : Int) (o5 : T24) (o7 : T24) (o7_2 : (List (List Int))) (o9 : (List Int)) (o10 : (List Int)) (o11 : (List Int)) : Option R :=
  bif (decide (t45 < t44)) then
    asrt true (decide (List.length (α := Int) o11 + List.length (α := Int) [t45] ≤ LIM)) (
      (idx o7.1 t7).bind fun x6 =>
      (idx x6 t45).bind fun x7 =>
      l36_1 t7 1 x7.1 (List.length x7.1 : Int) o7_2 (fun y13 =>
          bif (decide (x7.2.1 ≥ 0)) then
            asrt true (decide (0 ≤ x7.2.1) && decide (x7.2.1 < (List.length o10 : Int))) (
              ((o10)[(x7.2.1 : Int).toNat]?).bind fun x14 =>
              asrt true (decide (0 ≤ x7.2.1) && decide (x7.2.1 < (List.length o10 : Int))) (
                ((o10)[(x7.2.1 : Int).toNat]?).bind fun x15 =>
                (mr o0 o2 o3 o5 o7 o7_2 (o11 ++ [t45]) y13 (List.set o10 (x7.2.1 : Int).toNat (IntKind.i64.wrap (x14 + (IntKind.i64.wrap (1 * x7.2.2.1)))))).bind fun r16 =>
                (idx r16.2.2.2.2.2.2.2.2.1.1.1 t7).bind fun x17 =>
                (idx x17 t45).bind fun x18 =>
                l36_2 t7 (-1) x18.1 (List.length x18.1 : Int) r16.2.2.2.2.2.2.2.2.1.2.1 (fun y24 =>
                    bif (decide (x18.2.1 ≥ 0)) then
                      asrt true (decide (0 ≤ x18.2.1) && decide (x18.2.1 < (List.length r16.2.2.2.2.2.2.2.2.2.2.2.1 : Int))) (
                        ((r16.2.2.2.2.2.2.2.2.2.2.2.1)[(x18.2.1 : Int).toNat]?).bind fun x25 =>
                        asrt true (decide (0 ≤ x18.2.1) && decide (x18.2.1 < (List.length r16.2.2.2.2.2.2.2.2.2.2.2.1 : Int))) (
                          ((r16.2.2.2.2.2.2.2.2.2.2.2.1)[(x18.2.1 : Int).toNat]?).bind fun x26 =>
                          asrt true (bounds true (List.length r16.2.2.2.2.2.2.2.2.2.2.2.2.1) 0 t7) (
                            kn (IntKind.i64.wrap (t45 + 1)) r16.2.1 r16.2.2.2.1 r16.2.2.2.2.1 r16.2.2.2.2.2.2.1 r16.2.2.2.2.2.2.2.2.1.1 r16.2.2.2.2.2.2.2.2.1.2.1 y24 (List.set r16.2.2.2.2.2.2.2.2.2.2.2.1 (x18.2.1 : Int).toNat (IntKind.i64.wrap (x25 + (IntKind.i64.wrap ((-1) * x18.2.2.1))))) (subl r16.2.2.2.2.2.2.2.2.2.2.2.2.1 0 t7))))
                    else
                      asrt true (bounds true (List.length r16.2.2.2.2.2.2.2.2.2.2.2.2.1) 0 t7) (
                        kn (IntKind.i64.wrap (t45 + 1)) r16.2.1 r16.2.2.2.1 r16.2.2.2.2.1 r16.2.2.2.2.2.2.1 r16.2.2.2.2.2.2.2.2.1.1 r16.2.2.2.2.2.2.2.2.1.2.1 y24 r16.2.2.2.2.2.2.2.2.2.2.2.1 (subl r16.2.2.2.2.2.2.2.2.2.2.2.2.1 0 t7))) FUEL 0 r16.2.2.2.2.2.2.2.2.2.2.1))
          else
            (mr o0 o2 o3 o5 o7 o7_2 (o11 ++ [t45]) y13 o10).bind fun r27 =>
            (idx r27.2.2.2.2.2.2.2.2.1.1.1 t7).bind fun x28 =>
            (idx x28 t45).bind fun x29 =>
            l36_2 t7 (-1) x29.1 (List.length x29.1 : Int) r27.2.2.2.2.2.2.2.2.1.2.1 (fun y30 =>
                bif (decide (x29.2.1 ≥ 0)) then
                  asrt true (decide (0 ≤ x29.2.1) && decide (x29.2.1 < (List.length r27.2.2.2.2.2.2.2.2.2.2.2.1 : Int))) (
                    ((r27.2.2.2.2.2.2.2.2.2.2.2.1)[(x29.2.1 : Int).toNat]?).bind fun x31 =>
                    asrt true (decide (0 ≤ x29.2.1) && decide (x29.2.1 < (List.length r27.2.2.2.2.2.2.2.2.2.2.2.1 : Int))) (
                      ((r27.2.2.2.2.2.2.2.2.2.2.2.1)[(x29.2.1 : Int).toNat]?).bind fun x32 =>
                      asrt true (bounds true (List.length r27.2.2.2.2.2.2.2.2.2.2.2.2.1) 0 t7) (
                        kn (IntKind.i64.wrap (t45 + 1)) r27.2.1 r27.2.2.2.1 r27.2.2.2.2.1 r27.2.2.2.2.2.2.1 r27.2.2.2.2.2.2.2.2.1.1 r27.2.2.2.2.2.2.2.2.1.2.1 y30 (List.set r27.2.2.2.2.2.2.2.2.2.2.2.1 (x29.2.1 : Int).toNat (IntKind.i64.wrap (x31 + (IntKind.i64.wrap ((-1) * x29.2.2.1))))) (subl r27.2.2.2.2.2.2.2.2.2.2.2.2.1 0 t7))))
                else
                  asrt true (bounds true (List.length r27.2.2.2.2.2.2.2.2.2.2.2.2.1) 0 t7) (
                    kn (IntKind.i64.wrap (t45 + 1)) r27.2.1 r27.2.2.2.1 r27.2.2.2.2.1 r27.2.2.2.2.2.2.1 r27.2.2.2.2.2.2.2.2.1.1 r27.2.2.2.2.2.2.2.2.1.2.1 y30 r27.2.2.2.2.2.2.2.2.2.2.2.1 (subl r27.2.2.2.2.2.2.2.2.2.2.2.2.1 0 t7))) FUEL 0 r27.2.2.2.2.2.2.2.2.2.2.1) FUEL 0 o9)
  else
    k1 o0 o2 o3 o5 o7 o7_2 o9 o10 o11
noncomputable def l36_3 {R : Type} (mr : Int → (List Int) → Int → T24 → T24 → (List (List Int)) → (List Int) → (List Int) → (List Int) → Option F36o.ty) (t7 : Int) (t44 : Int) (k1 : Int → (List Int) → Int → T24 → T24 → (List (List Int)) → (List Int) → (List Int) → (List Int) → Option R) : Nat → Int → Int → (List Int) → Int → T24 → T24 → (List (List Int)) → (List Int) → (List Int) → (List Int) → Option R
  | 0, _, _, _, _, _, _, _, _, _, _ => none
  | n + 1, t45, o0, o2, o3, o5, o7, o7_2, o9, o10, o11 => s36_3 mr t7 t44 (l36_3 mr t7 t44 k1 n) k1 t45 o0 o2 o3 o5 o7 o7_2 o9 o10 o11
noncomputable def L36_3 (mr : Int → (List Int) → Int → T24 → T24 → (List (List Int)) → (List Int) → (List Int) → (List Int) → Option F36o.ty) : LE := ⟨7, 11, ⟨[(1, (.box 1 [] 0)), (4, (.box 4 [] 0)), (6, (.box 6 [] 0)), (7, (.dat (.int .i64))), (44, (.dat (.int .i64))), (45, (.dat (.int .i64)))], [(.box (.dat (.int .i64))), (.box (.box 7 [] 0)), (.box (.nsl (.int .i64))), (.box (.dat (.int .i64))), (.box (.own 11)), (.box (.dat G24)), (.box (.fn 36 (.scons (.box 0 [] 0) (.scons (.box 1 [] 0) (.scons (.box 2 [] 0) (.scons (.box 3 [] 0) (.scons (.box 4 [] 0) (.scons (.box 5 [] 0) (.scons (.box 6 [] 0) .snil))))))))), (.box (.agg (.scons (.dat G24) (.scons (.dat (.sl (.sl (.int .i64)))) (.scons (.own 9) (.scons (.own 10) .snil)))))), .dead, (.arr (.int .i64)), (.arr (.int .i64)), (.arr (.int .i64))]⟩, fun R n x k => l36_3 mr x.1.2.2.2.1 x.1.2.2.2.2.1 (fun y0 y1 y2 y3 y4 y5 y6 y7 y8 => k (.exit 0) ⟨[], [(.box (.dat (.int .i64) y0)), (.box (.box 7 [] 0)), (.box (.nsl (.int .i64) y1)), (.box (.dat (.int .i64) y2)), (.box (.own 11)), (.box (.dat G24 y3)), (.box (.fn 36 (.scons (.box 0 [] 0) (.scons (.box 1 [] 0) (.scons (.box 2 [] 0) (.scons (.box 3 [] 0) (.scons (.box 4 [] 0) (.scons (.box 5 [] 0) (.scons (.box 6 [] 0) .snil))))))))), (.box (.agg (.scons (.dat G24 y4) (.scons (.dat (.sl (.sl (.int .i64))) y5) (.scons (.own 9) (.scons (.own 10) .snil)))))), .dead, (.arr (.int .i64) y6), (.arr (.int .i64) y7), (.arr (.int .i64) y8)]⟩) n x.1.2.2.2.2.2.1 x.2.1 x.2.2.2.1 x.2.2.2.2.1 x.2.2.2.2.2.2.1 x.2.2.2.2.2.2.2.2.1.1 x.2.2.2.2.2.2.2.2.1.2.1 x.2.2.2.2.2.2.2.2.2.2.1 x.2.2.2.2.2.2.2.2.2.2.2.1 x.2.2.2.2.2.2.2.2.2.2.2.2.1⟩
noncomputable def C36 (mr : Int → (List Int) → Int → T24 → T24 → (List (List Int)) → (List Int) → (List Int) → (List Int) → Option F36o.ty) : Cfg := mkCfg [(7, ⟨[1, 4, 6, 7, 44, 45], [], []⟩)] [(7, (⟨[], [], []⟩, ⟨[], [], []⟩))] (([(0, L36_3 mr)] : List (Nat × LE)).map (·.2)) [] [(0, [(4, [], (.cons .nil .opq))])]
theorem ek36_3 (mr : Int → (List Int) → Int → T24 → T24 → (List (List Int)) → (List Int) → (List Int) → (List Int) → Option F36o.ty) : EOk (E36 mr) (C36 mr) Try.f36.ntmps (bodyL Try.f36 0) (L36_3 mr) := eok_of (e := L36_3 mr) (fun R x Kn k => s36_3 mr x.1.2.2.2.1 x.1.2.2.2.2.1 (fun v0 v1 v2 v3 v4 v5 v6 v7 v8 v9 => Kn (((), (), (), x.1.2.2.2.1, x.1.2.2.2.2.1, v0, ()), (v1, (), v2, v3, (), v4, ((), (), (), (), (), (), (), ()), (v5, v6, (), (), ()), (), v7, v8, v9, ()))) (fun y0 y1 y2 y3 y4 y5 y6 y7 y8 => k (.exit 0) ⟨[], [(.box (.dat (.int .i64) y0)), (.box (.box 7 [] 0)), (.box (.nsl (.int .i64) y1)), (.box (.dat (.int .i64) y2)), (.box (.own 11)), (.box (.dat G24 y3)), (.box (.fn 36 (.scons (.box 0 [] 0) (.scons (.box 1 [] 0) (.scons (.box 2 [] 0) (.scons (.box 3 [] 0) (.scons (.box 4 [] 0) (.scons (.box 5 [] 0) (.scons (.box 6 [] 0) .snil))))))))), (.box (.agg (.scons (.dat G24 y4) (.scons (.dat (.sl (.sl (.int .i64))) y5) (.scons (.own 9) (.scons (.own 10) .snil)))))), .dead, (.arr (.int .i64) y6), (.arr (.int .i64) y7), (.arr (.int .i64) y8)]⟩) x.1.2.2.2.2.2.1 x.2.1 x.2.2.2.1 x.2.2.2.2.1 x.2.2.2.2.2.2.1 x.2.2.2.2.2.2.2.2.1.1 x.2.2.2.2.2.2.2.2.1.2.1 x.2.2.2.2.2.2.2.2.2.2.1 x.2.2.2.2.2.2.2.2.2.2.2.1 x.2.2.2.2.2.2.2.2.2.2.2.2.1) (fun _ _ _ => rfl) (fun _ _ _ _ => rfl) (fun R x Kn k => by kernel_rfl)
theorem lm36 (mr : Int → (List Int) → Int → T24 → T24 → (List (List Int)) → (List Int) → (List Int) → (List Int) → Option F36o.ty) : ∀ c, Try.f36.body = some c → LmOk (E36 mr) (C36 mr) Try.f36.ntmps c := lmOk_of (ps := [(0, L36_3 mr)]) (by kernel_rfl) (by kernel_rfl) ⟨ek36_3 mr, trivial⟩
noncomputable def M36 (mr : Int → (List Int) → Int → T24 → T24 → (List (List Int)) → (List Int) → (List Int) → (List Int) → Option F36o.ty) (a0 : Int) (a1 : (List Int)) (a2 : Int) (a3 : T24) (a4 : T24) (a5 : (List (List Int))) (a6 : (List Int)) (a7 : (List Int)) (a8 : (List Int)) : Option F36o.ty :=
  (bif ((decide ((IntKind.i64.wrap (a0 + 1)) > 100000)) == false) then (m37 (a4, a5, a7, a8, ())) else some 0).bind fun r1 =>
  (bif ((((decide ((IntKind.i64.wrap (a0 + 1)) > 100000)) || (decide (r1 ≥ 0))) == false) && ((!(List.isEmpty (α := Int) a1)) == true)) then (m38 (a4, a5, a7, a8, ())) else some 0).bind fun r2 =>
  bif (((decide ((IntKind.i64.wrap (a0 + 1)) > 100000)) || (decide (r1 ≥ 0))) || ((!(List.isEmpty (α := Int) a1)) && (decide (r2 ≥ a2)))) then
    some (((()), ()), ((IntKind.i64.wrap (a0 + 1)), (), a1, a2, (), a3, ((), (), (), (), (), (), (), ()), (a4, a5, (), (), ()), (), a7, a8, a6, ()))
  else
    bif ((List.length a6 : Int) == (List.length a3.1 : Int)) then
      (cloneM a6).bind fun r3 =>
      (m38 (a4, a5, a7, a8, ())).bind fun r4 =>
      asrt true (!(List.isEmpty (α := Int) r3)) (
        some (((()), ()), ((IntKind.i64.wrap (a0 + 1)), (), r3, r4, (), a3, ((), (), (), (), (), (), (), ()), (a4, a5, (), (), ()), (), a7, a8, a6, ())))
    else
      (idx a3.1 (List.length a6 : Int)).bind fun x5 =>
      l36_3 mr (List.length a6 : Int) (List.length x5 : Int) (fun y33 y34 y35 y36 y37 y38 y39 y40 y41 =>
          some (((()), ()), (y33, (), y34, y35, (), y36, ((), (), (), (), (), (), (), ()), (y37, y38, (), (), ()), (), y39, y40, y41, ()))) FUEL 0 (IntKind.i64.wrap (a0 + 1)) a1 a2 a3 a4 a5 a7 a8 a6
theorem q36 (mr : Int → (List Int) → Int → T24 → T24 → (List (List Int)) → (List Int) → (List Int) → (List Int) → Option F36o.ty) (x : F36i.ty) : execF (E36 mr) (C36 mr) Try.f36 ((F36i.enc x).regs.map (·.2)) (F36i.enc x).heap (retS [] [] 11 F36o) = M36 mr x.2.1 x.2.2.2.1 x.2.2.2.2.1 x.2.2.2.2.2.2.1 x.2.2.2.2.2.2.2.2.1.1 x.2.2.2.2.2.2.2.2.1.2.1 x.2.2.2.2.2.2.2.2.2.1 x.2.2.2.2.2.2.2.2.2.2.1 x.2.2.2.2.2.2.2.2.2.2.2.1 := by kernel_rfl
theorem R36 (mr : Int → (List Int) → Int → T24 → T24 → (List (List Int)) → (List Int) → (List Int) → (List Int) → Option F36o.ty) (hmr : CmOk Try.prog (cS36 mr)) : CRun Try.prog 36 F36i F36o (fun x => M36 mr x.2.1 x.2.2.2.1 x.2.2.2.2.1 x.2.2.2.2.2.2.1 x.2.2.2.2.2.2.2.2.1.1 x.2.2.2.2.2.2.2.2.1.2.1 x.2.2.2.2.2.2.2.2.2.1 x.2.2.2.2.2.2.2.2.2.2.1 x.2.2.2.2.2.2.2.2.2.2.2.1) := st_run (E := E36 mr) (ok36 mr hmr) ord (lm36 mr) Try.func36 (q36 mr)
noncomputable def m36N : Nat → Int → (List Int) → Int → T24 → T24 → (List (List Int)) → (List Int) → (List Int) → (List Int) → Option F36o.ty
  | 0, _, _, _, _, _, _, _, _, _ => none
  | n + 1, a0, a1, a2, a3, a4, a5, a6, a7, a8 => M36 (m36N n) a0 a1 a2 a3 a4 a5 a6 a7 a8
theorem dS36 : ∀ n, CmOk Try.prog (cS36 (m36N n))
  | 0 => st_ok ca36 (fun _ _ h => by cases h)
  | n + 1 => st_ok ca36 (R36 (m36N n) (dS36 n))
noncomputable def m36 (a0 : Int) (a1 : (List Int)) (a2 : Int) (a3 : T24) (a4 : T24) (a5 : (List (List Int))) (a6 : (List Int)) (a7 : (List Int)) (a8 : (List Int)) : Option F36o.ty := m36N FUEL a0 a1 a2 a3 a4 a5 a6 a7 a8
noncomputable def c36 : CmE := cS36 (fun a0 a1 a2 a3 a4 a5 a6 a7 a8 => m36 a0 a1 a2 a3 a4 a5 a6 a7 a8)
theorem d36 : CmOk Try.prog c36 := dS36 FUEL

/-! 41: consol/plan.prove -/
theorem ca41 : callable Try.prog 41 := ⟨Try.f41, Try.func41, by kernel_rfl, by kernel_rfl⟩
def F41i : ShS := ⟨[(0, (.box 0 [] 0)), (1, (.own 1)), (2, (.dat (.int .i64))), (3, (.own 2))], [(.box (.agg (.scons (.dat G24) (.scons (.dat (.sl (.sl (.int .i64)))) (.scons (.own 3) (.scons (.own 4) .snil)))))), (.arr (.int .i64)), (.arr G37), (.arr (.int .i64)), (.arr (.int .i64))]⟩
def F41o : ShS := ⟨[(0, (.own 5))], [(.box (.agg (.scons (.dat G24) (.scons (.dat (.sl (.sl (.int .i64)))) (.scons (.own 3) (.scons (.own 4) .snil)))))), (.arr (.int .i64)), .dead, (.arr (.int .i64)), (.arr (.int .i64)), (.arr G37)]⟩
noncomputable def cS41 (mr : Int → T24 → (List (List Int)) → (List Int) → (List T37) → (List Int) → (List Int) → Option F41o.ty) : CmE := stE 41 [] [(1, [], (.int .i64)), (3, [], G37)] F41i F41o (fun x => mr x.1.2.2.1 x.2.1.1 x.2.1.2.1 x.2.2.1 x.2.2.2.1 x.2.2.2.2.1 x.2.2.2.2.2.1)
noncomputable def E41i40 : Env := mkEnv2 Try.prog [] []
theorem ok41i40 : EnvOk (E41i40) := mkEnv2_ok (by simp) (by simp)
/-- a round of a loop of (*consol/plan.state).step -/
noncomputable def s41_1 {R : Type} (t1 : Int) (t3 : Int) (t23 : (List Int)) (t24 : Int) (o0_2 : (List (List Int))) (kn : Int → (List Int) → Option R) (k1 : (List Int) → Option R) (t25 : Int) (o3 : (List Int)) : Option R :=
  bif (decide (t25 < t24)) then
    (idx t23 t25).bind fun x8 =>
    asrt true (decide (0 ≤ t25) && decide (t25 < (List.length o3 : Int))) (
      ((o3)[(t25 : Int).toNat]?).bind fun x9 =>
      (idx o0_2 t1).bind fun x10 =>
      (idx x10 t25).bind fun x11 =>
      asrt true (decide (0 ≤ t25) && decide (t25 < (List.length o3 : Int))) (
        ((o3)[(t25 : Int).toNat]?).bind fun x12 =>
        kn (IntKind.i64.wrap (t25 + 1)) (List.set o3 (t25 : Int).toNat (IntKind.i64.wrap (x9 + (IntKind.i64.wrap (t3 * (IntKind.i64.wrap (x8 - x11)))))))))
  else
    k1 o3
noncomputable def l41_1 {R : Type} (t1 : Int) (t3 : Int) (t23 : (List Int)) (t24 : Int) (o0_2 : (List (List Int))) (k1 : (List Int) → Option R) : Nat → Int → (List Int) → Option R
  | 0, _, _ => none
  | n + 1, t25, o3 => s41_1 t1 t3 t23 t24 o0_2 (l41_1 t1 t3 t23 t24 o0_2 k1 n) k1 t25 o3
noncomputable def L41_1 : LE := ⟨3, 6, ⟨[(0, (.box 0 [] 0)), (1, (.dat (.int .i64))), (3, (.dat (.int .i64))), (8, (.box 6 [] 0)), (23, (.dat (.sl (.int .i64)))), (24, (.dat (.int .i64))), (25, (.dat (.int .i64)))], [(.box (.agg (.scons (.dat G24) (.scons (.dat (.sl (.sl (.int .i64)))) (.scons (.own 3) (.scons (.own 4) .snil)))))), .dead, .dead, (.arr (.int .i64)), (.arr (.int .i64)), .dead, (.box (.dat G37))]⟩, fun R n x k => l41_1 x.1.2.1 x.1.2.2.1 x.1.2.2.2.2.1 x.1.2.2.2.2.2.1 x.2.1.2.1 (fun y0 => k (.exit 0) ⟨[(0, (.box 0 [] 0)), (3, (.dat (.int .i64) x.1.2.2.1)), (8, (.box 6 [] 0))], [(.box (.agg (.scons (.dat G24 x.2.1.1) (.scons (.dat (.sl (.sl (.int .i64))) x.2.1.2.1) (.scons (.own 3) (.scons (.own 4) .snil)))))), .dead, .dead, (.arr (.int .i64) y0), (.arr (.int .i64) x.2.2.2.2.2.1), .dead, (.box (.dat G37 x.2.2.2.2.2.2.2.1))]⟩) n x.1.2.2.2.2.2.2.1 x.2.2.2.2.1⟩
/-- a round of a loop of (*consol/plan.state).step -/
noncomputable def s41_2 {R : Type} (t1 : Int) (t3 : Int) (t23 : (List Int)) (t24 : Int) (o0_2 : (List (List Int))) (kn : Int → (List Int) → Option R) (k1 : (List Int) → Option R) (t25 : Int) (o3 : (List Int)) : Option R :=
  bif (decide (t25 < t24)) then
    (idx t23 t25).bind fun x19 =>
    asrt true (decide (0 ≤ t25) && decide (t25 < (List.length o3 : Int))) (
      ((o3)[(t25 : Int).toNat]?).bind fun x20 =>
      (idx o0_2 t1).bind fun x21 =>
      (idx x21 t25).bind fun x22 =>
      asrt true (decide (0 ≤ t25) && decide (t25 < (List.length o3 : Int))) (
        ((o3)[(t25 : Int).toNat]?).bind fun x23 =>
        kn (IntKind.i64.wrap (t25 + 1)) (List.set o3 (t25 : Int).toNat (IntKind.i64.wrap (x20 + (IntKind.i64.wrap (t3 * (IntKind.i64.wrap (x19 - x22)))))))))
  else
    k1 o3
noncomputable def l41_2 {R : Type} (t1 : Int) (t3 : Int) (t23 : (List Int)) (t24 : Int) (o0_2 : (List (List Int))) (k1 : (List Int) → Option R) : Nat → Int → (List Int) → Option R
  | 0, _, _ => none
  | n + 1, t25, o3 => s41_2 t1 t3 t23 t24 o0_2 (l41_2 t1 t3 t23 t24 o0_2 k1 n) k1 t25 o3
noncomputable def L41_2 : LE := ⟨3, 10, ⟨[(0, (.box 0 [] 0)), (1, (.dat (.int .i64))), (3, (.dat (.int .i64))), (8, (.box 10 [] 0)), (23, (.dat (.sl (.int .i64)))), (24, (.dat (.int .i64))), (25, (.dat (.int .i64)))], [(.box (.agg (.scons (.dat G24) (.scons (.dat (.sl (.sl (.int .i64)))) (.scons (.own 3) (.scons (.own 4) .snil)))))), .dead, .dead, (.arr (.int .i64)), (.arr (.int .i64)), .dead, .dead, .dead, .dead, .dead, (.box (.dat G37))]⟩, fun R n x k => l41_2 x.1.2.1 x.1.2.2.1 x.1.2.2.2.2.1 x.1.2.2.2.2.2.1 x.2.1.2.1 (fun y0 => k (.exit 0) ⟨[(0, (.box 0 [] 0)), (3, (.dat (.int .i64) x.1.2.2.1)), (8, (.box 10 [] 0))], [(.box (.agg (.scons (.dat G24 x.2.1.1) (.scons (.dat (.sl (.sl (.int .i64))) x.2.1.2.1) (.scons (.own 3) (.scons (.own 4) .snil)))))), .dead, .dead, (.arr (.int .i64) y0), (.arr (.int .i64) x.2.2.2.2.2.1), .dead, .dead, .dead, .dead, .dead, (.box (.dat G37 x.2.2.2.2.2.2.2.2.2.2.2.1))]⟩) n x.1.2.2.2.2.2.2.1 x.2.2.2.2.1⟩
noncomputable def C41i40 : Cfg := mkCfg [(3, ⟨[0, 1, 3, 8, 23, 24, 25], [], []⟩)] [(3, (⟨[0, 3, 8], [], []⟩, ⟨[], [], []⟩))] (([(0, L41_1), (0, L41_2)] : List (Nat × LE)).map (·.2))
theorem ek41_1 : EOk (E41i40) (C41i40) Try.f40.ntmps (bodyL Try.f40 0) (L41_1) := eok_of (e := L41_1) (fun R x Kn k => s41_1 x.1.2.1 x.1.2.2.1 x.1.2.2.2.2.1 x.1.2.2.2.2.2.1 x.2.1.2.1 (fun v0 v1 => Kn (((), x.1.2.1, x.1.2.2.1, (), x.1.2.2.2.2.1, x.1.2.2.2.2.2.1, v0, ()), ((x.2.1.1, x.2.1.2.1, (), (), ()), (), (), v1, x.2.2.2.2.2.1, (), x.2.2.2.2.2.2.2.1, ()))) (fun y0 => k (.exit 0) ⟨[(0, (.box 0 [] 0)), (3, (.dat (.int .i64) x.1.2.2.1)), (8, (.box 6 [] 0))], [(.box (.agg (.scons (.dat G24 x.2.1.1) (.scons (.dat (.sl (.sl (.int .i64))) x.2.1.2.1) (.scons (.own 3) (.scons (.own 4) .snil)))))), .dead, .dead, (.arr (.int .i64) y0), (.arr (.int .i64) x.2.2.2.2.2.1), .dead, (.box (.dat G37 x.2.2.2.2.2.2.2.1))]⟩) x.1.2.2.2.2.2.2.1 x.2.2.2.2.1) (fun _ _ _ => rfl) (fun _ _ _ _ => rfl) (fun R x Kn k => by kernel_rfl)
theorem ek41_2 : EOk (E41i40) (C41i40) Try.f40.ntmps (bodyL Try.f40 0) (L41_2) := eok_of (e := L41_2) (fun R x Kn k => s41_2 x.1.2.1 x.1.2.2.1 x.1.2.2.2.2.1 x.1.2.2.2.2.2.1 x.2.1.2.1 (fun v0 v1 => Kn (((), x.1.2.1, x.1.2.2.1, (), x.1.2.2.2.2.1, x.1.2.2.2.2.2.1, v0, ()), ((x.2.1.1, x.2.1.2.1, (), (), ()), (), (), v1, x.2.2.2.2.2.1, (), (), (), (), (), x.2.2.2.2.2.2.2.2.2.2.2.1, ()))) (fun y0 => k (.exit 0) ⟨[(0, (.box 0 [] 0)), (3, (.dat (.int .i64) x.1.2.2.1)), (8, (.box 10 [] 0))], [(.box (.agg (.scons (.dat G24 x.2.1.1) (.scons (.dat (.sl (.sl (.int .i64))) x.2.1.2.1) (.scons (.own 3) (.scons (.own 4) .snil)))))), .dead, .dead, (.arr (.int .i64) y0), (.arr (.int .i64) x.2.2.2.2.2.1), .dead, .dead, .dead, .dead, .dead, (.box (.dat G37 x.2.2.2.2.2.2.2.2.2.2.2.1))]⟩) x.1.2.2.2.2.2.2.1 x.2.2.2.2.1) (fun _ _ _ => rfl) (fun _ _ _ _ => rfl) (fun R x Kn k => by kernel_rfl)
theorem lm41i40 : ∀ c, Try.f40.body = some c → LmOk (E41i40) (C41i40) Try.f40.ntmps c := lmOk_of (ps := [(0, L41_1), (0, L41_2)]) (by kernel_rfl) (by kernel_rfl) ⟨ek41_1, ek41_2, trivial⟩
noncomputable def c41i40 : CmE := inl E41i40 C41i40 40 Try.f40
theorem d41i40 : CmOk Try.prog c41i40 := inl_ok (E := E41i40) ok41i40 ord lm41i40 Try.func40 ca40

noncomputable def E41 (mr : Int → T24 → (List (List Int)) → (List Int) → (List T37) → (List Int) → (List Int) → Option F41o.ty) : Env := mkEnv2 Try.prog [e37, e38] [c39, c41i40, cS41 mr]
theorem ok41 (mr : Int → T24 → (List (List Int)) → (List Int) → (List T37) → (List Int) → (List Int) → Option F41o.ty) (hmr : CmOk Try.prog (cS41 mr)) : EnvOk (E41 mr) := mkEnv2_ok (by simp only [List.mem_cons, List.not_mem_nil, or_false, forall_eq_or_imp, forall_eq]; exact ⟨p37, p38⟩) (by simp only [List.mem_cons, List.not_mem_nil, or_false, forall_eq_or_imp, forall_eq]; exact ⟨d39, d41i40, hmr⟩)
/-- a round of a loop of consol/plan.prove -/
noncomputable def s41_3 {R : Type} (mr : Int → T24 → (List (List Int)) → (List Int) → (List T37) → (List Int) → (List Int) → Option F41o.ty) (t2 : Int) (t11 : Int) (t46 : Int) (o1 : (List Int)) (kn : Int → T24 → (List (List Int)) → (List Int) → (List Int) → (List T37) → Option R) (k1 : T24 → (List (List Int)) → (List Int) → (List Int) → (List T37) → Option R) (t47 : Int) (o0 : T24) (o0_2 : (List (List Int))) (o3 : (List Int)) (o4 : (List Int)) (o5 : (List T37)) : Option R :=
  bif (decide (t47 < t46)) then
    bif (decide ((List.length o5 : Int) > 100000)) then
      k1 o0 o0_2 o3 o4 o5
    else
      (idx o0.1 t11).bind fun x6 =>
      (idx x6 t47).bind fun x7 =>
      l41_1 t11 1 x7.1 (List.length x7.1 : Int) o0_2 (fun y13 =>
          bif (decide (x7.2.1 ≥ 0)) then
            asrt true (decide (0 ≤ x7.2.1) && decide (x7.2.1 < (List.length o4 : Int))) (
              ((o4)[(x7.2.1 : Int).toNat]?).bind fun x14 =>
              asrt true (decide (0 ≤ x7.2.1) && decide (x7.2.1 < (List.length o4 : Int))) (
                ((o4)[(x7.2.1 : Int).toNat]?).bind fun x15 =>
                asrt true (decide (List.length (α := Int) o1 + 1 ≤ LIM)) (
                  (mr t2 o0 o0_2 (o1 ++ [t47]) o5 y13 (List.set o4 (x7.2.1 : Int).toNat (IntKind.i64.wrap (x14 + (IntKind.i64.wrap (1 * x7.2.2.1)))))).bind fun r16 =>
                  asrt true (decide (r16.2.2.1 = (o1 ++ [t47]))) (
                    (idx r16.2.1.1.1 t11).bind fun x17 =>
                    (idx x17 t47).bind fun x18 =>
                    l41_2 t11 (-1) x18.1 (List.length x18.1 : Int) r16.2.1.2.1 (fun y24 =>
                        bif (decide (x18.2.1 ≥ 0)) then
                          asrt true (decide (0 ≤ x18.2.1) && decide (x18.2.1 < (List.length r16.2.2.2.2.2.1 : Int))) (
                            ((r16.2.2.2.2.2.1)[(x18.2.1 : Int).toNat]?).bind fun x25 =>
                            asrt true (decide (0 ≤ x18.2.1) && decide (x18.2.1 < (List.length r16.2.2.2.2.2.1 : Int))) (
                              ((r16.2.2.2.2.2.1)[(x18.2.1 : Int).toNat]?).bind fun x26 =>
                              kn (IntKind.i64.wrap (t47 + 1)) r16.2.1.1 r16.2.1.2.1 y24 (List.set r16.2.2.2.2.2.1 (x18.2.1 : Int).toNat (IntKind.i64.wrap (x25 + (IntKind.i64.wrap ((-1) * x18.2.2.1))))) r16.2.2.2.2.2.2.1))
                        else
                          kn (IntKind.i64.wrap (t47 + 1)) r16.2.1.1 r16.2.1.2.1 y24 r16.2.2.2.2.2.1 r16.2.2.2.2.2.2.1) FUEL 0 r16.2.2.2.2.1))))
          else
            asrt true (decide (List.length (α := Int) o1 + 1 ≤ LIM)) (
              (mr t2 o0 o0_2 (o1 ++ [t47]) o5 y13 o4).bind fun r27 =>
              asrt true (decide (r27.2.2.1 = (o1 ++ [t47]))) (
                (idx r27.2.1.1.1 t11).bind fun x28 =>
                (idx x28 t47).bind fun x29 =>
                l41_2 t11 (-1) x29.1 (List.length x29.1 : Int) r27.2.1.2.1 (fun y30 =>
                    bif (decide (x29.2.1 ≥ 0)) then
                      asrt true (decide (0 ≤ x29.2.1) && decide (x29.2.1 < (List.length r27.2.2.2.2.2.1 : Int))) (
                        ((r27.2.2.2.2.2.1)[(x29.2.1 : Int).toNat]?).bind fun x31 =>
                        asrt true (decide (0 ≤ x29.2.1) && decide (x29.2.1 < (List.length r27.2.2.2.2.2.1 : Int))) (
                          ((r27.2.2.2.2.2.1)[(x29.2.1 : Int).toNat]?).bind fun x32 =>
                          kn (IntKind.i64.wrap (t47 + 1)) r27.2.1.1 r27.2.1.2.1 y30 (List.set r27.2.2.2.2.2.1 (x29.2.1 : Int).toNat (IntKind.i64.wrap (x31 + (IntKind.i64.wrap ((-1) * x29.2.2.1))))) r27.2.2.2.2.2.2.1))
                    else
                      kn (IntKind.i64.wrap (t47 + 1)) r27.2.1.1 r27.2.1.2.1 y30 r27.2.2.2.2.2.1 r27.2.2.2.2.2.2.1) FUEL 0 r27.2.2.2.2.1))) FUEL 0 o3
  else
    k1 o0 o0_2 o3 o4 o5
noncomputable def l41_3 {R : Type} (mr : Int → T24 → (List (List Int)) → (List Int) → (List T37) → (List Int) → (List Int) → Option F41o.ty) (t2 : Int) (t11 : Int) (t46 : Int) (o1 : (List Int)) (k1 : T24 → (List (List Int)) → (List Int) → (List Int) → (List T37) → Option R) : Nat → Int → T24 → (List (List Int)) → (List Int) → (List Int) → (List T37) → Option R
  | 0, _, _, _, _, _, _ => none
  | n + 1, t47, o0, o0_2, o3, o4, o5 => s41_3 mr t2 t11 t46 o1 (l41_3 mr t2 t11 t46 o1 k1 n) k1 t47 o0 o0_2 o3 o4 o5
noncomputable def L41_3 (mr : Int → T24 → (List (List Int)) → (List Int) → (List T37) → (List Int) → (List Int) → Option F41o.ty) : LE := ⟨10, 5, ⟨[(0, (.box 0 [] 0)), (1, (.own 1)), (2, (.dat (.int .i64))), (3, (.own 5)), (11, (.dat (.int .i64))), (46, (.dat (.int .i64))), (47, (.dat (.int .i64)))], [(.box (.agg (.scons (.dat G24) (.scons (.dat (.sl (.sl (.int .i64)))) (.scons (.own 3) (.scons (.own 4) .snil)))))), (.arr (.int .i64)), .dead, (.arr (.int .i64)), (.arr (.int .i64)), (.arr G37)]⟩, fun R n x k => l41_3 mr x.1.2.2.1 x.1.2.2.2.2.1 x.1.2.2.2.2.2.1 x.2.2.1 (fun y0 y1 y2 y3 y4 => k (.exit 0) ⟨[(3, (.own 5))], [(.box (.agg (.scons (.dat G24 y0) (.scons (.dat (.sl (.sl (.int .i64))) y1) (.scons (.own 3) (.scons (.own 4) .snil)))))), (.arr (.int .i64) x.2.2.1), .dead, (.arr (.int .i64) y2), (.arr (.int .i64) y3), (.arr G37 y4)]⟩) n x.1.2.2.2.2.2.2.1 x.2.1.1 x.2.1.2.1 x.2.2.2.2.1 x.2.2.2.2.2.1 x.2.2.2.2.2.2.1⟩
noncomputable def C41 (mr : Int → T24 → (List (List Int)) → (List Int) → (List T37) → (List Int) → (List Int) → Option F41o.ty) : Cfg := mkCfg [(10, ⟨[0, 1, 2, 3, 11, 46, 47], [], []⟩)] [(10, (⟨[3], [], []⟩, ⟨[8], [], []⟩))] (([(0, L41_3 mr)] : List (Nat × LE)).map (·.2)) [] [(0, [(3, [], (.cons .nil .opq))])]
def H13 : List OG := [(.box (.agg (.scons (.dat G24) (.scons (.dat (.sl (.sl (.int .i64)))) (.scons (.own 3) (.scons (.own 4) .snil)))))), .arr (.int .i64), .dead, .arr (.int .i64), .arr (.int .i64), .arr G37, .box (.dat G37)]
def st13 (y : tyO H13) (kk : Int) (r : F41o.ty) : List SO := [(.box (.agg (.scons (.dat G24 r.2.1.1) (.scons (.dat (.sl (.sl (.int .i64))) r.2.1.2.1) (.scons (.own 3) (.scons (.own 4) .snil)))))), .arr (.int .i64) y.2.1, .dead, .arr (.int .i64) r.2.2.2.2.1, .arr (.int .i64) r.2.2.2.2.2.1, .dead, .box (.dat G37 y.2.2.2.2.2.2.1), .arr (.int .i64) [kk], .dead, .arr G37 r.2.2.2.2.2.2.1]
noncomputable def spF41 (mr : Int → T24 → (List (List Int)) → (List Int) → (List T37) → (List Int) → (List Int) → Option F41o.ty) (R : Type) (s : St) (k : St → Option R) : Option R :=
  match lk s.regs 0, lk s.regs 1, lk s.regs 12, lk s.regs 2, lk s.regs 3 with
  | some (.box 0 [] 0), some (.own 1), some (.dat (.int .i64) kk), some (.dat (.int .i64) t2), some (.own 5) => bif noSlots [57, 58, 59, 60, 61, 62, 63, 64] s.regs then (match decO H13 s.heap with
    | some y => asrt true (decide (List.length (α := Int) y.2.1 + 1 ≤ LIM)) ((mr t2 y.1.1 y.1.2.1 (y.2.1 ++ [kk]) y.2.2.2.2.2.1 y.2.2.2.1 y.2.2.2.2.1).bind fun r => asrt true (decide (r.2.2.1 = (y.2.1 ++ [kk]))) (k ⟨(3, .own 9) :: s.regs, st13 y kk r⟩))
    | none => none) else none
  | _, _, _, _, _ => none
noncomputable def sp41 (mr : Int → T24 → (List (List Int)) → (List Int) → (List T37) → (List Int) → (List Int) → Option F41o.ty) : SP := fun id => bif Nat.beq id 13 then some (spF41 mr) else none
noncomputable def op13 : List Oper := ((findR 13 (regionsOf (bodyL Try.f41 0))).getD (#[], false)).1.toList
theorem find13 : findR 13 (regionsOf (bodyL Try.f41 0)) = some (op13.toArray, false) := by kernel_rfl
theorem nodup13 : nodupB (idsR (regionsOf (bodyL Try.f41 0))) = true := by kernel_rfl
noncomputable def rb13 (kk t2 : Int) (rg : List (Nat × SV)) : List (Nat × SV) := (0, .box 0 [] 0) :: (1, .own 1) :: (12, .dat (.int .i64) kk) :: (2, .dat (.int .i64) t2) :: (3, .own 5) :: rg
noncomputable def h1_13 (y : tyO H13) (kk : Int) : List SO := encO H13 y ++ [.arr (.int .i64) [kk]]
noncomputable def res1 (mr : Int → T24 → (List (List Int)) → (List Int) → (List T37) → (List Int) → (List Int) → Option F41o.ty) (y : tyO H13) (kk t2 : Int) (rg : List (Nat × SV)) : Option (List Rc × List SO) := runOps (E41 mr) op13 (rb13 kk t2 rg) (op13.take 4) [] (encO H13 y) (fun rs h => some (rs, h))
noncomputable def rs13 (mr : Int → T24 → (List (List Int)) → (List Int) → (List T37) → (List Int) → (List Int) → Option F41o.ty) (y : tyO H13) (kk t2 : Int) (rg : List (Nat × SV)) : List Rc := ((res1 mr y kk t2 rg).getD ([], [])).1
theorem res1_eq (mr : Int → T24 → (List (List Int)) → (List Int) → (List T37) → (List Int) → (List Int) → Option F41o.ty) (y : tyO H13) (kk t2 : Int) (rg : List (Nat × SV)) : res1 mr y kk t2 rg = some (rs13 mr y kk t2 rg, h1_13 y kk) := by kernel_rfl
theorem q1_13 (mr : Int → T24 → (List (List Int)) → (List Int) → (List T37) → (List Int) → (List Int) → Option F41o.ty) (y : tyO H13) (kk t2 : Int) (rg : List (Nat × SV)) : lk (after (rs13 mr y kk t2 rg) (rb13 kk t2 rg)) 58 = some (.own 1) := by kernel_rfl
theorem q2_13 (mr : Int → T24 → (List (List Int)) → (List Int) → (List T37) → (List Int) → (List Int) → Option F41o.ty) (y : tyO H13) (kk t2 : Int) (rg : List (Nat × SV)) : lk (after (rs13 mr y kk t2 rg) (rb13 kk t2 rg)) 60 = some (.own 7) := by kernel_rfl
theorem q3_13 (y : tyO H13) (kk : Int) : nth (h1_13 y kk) 1 = some (.arr (.int .i64) y.2.1) := by kernel_rfl
theorem q4_13 (y : tyO H13) (kk : Int) : listV (h1_13 y kk) (.own 7) (.int .i64) = some [kk] := by kernel_rfl
theorem len13 (y : tyO H13) (kk : Int) : (h1_13 y kk).length = 8 := by kernel_rfl
noncomputable def ra13 (mr : Int → T24 → (List (List Int)) → (List Int) → (List T37) → (List Int) → (List Int) → Option F41o.ty) (y : tyO H13) (kk t2 : Int) (rg : List (Nat × SV)) : List (Nat × SV) := (61, .own 8) :: after (rs13 mr y kk t2 rg) (rb13 kk t2 rg)
theorem ra13_eq (mr : Int → T24 → (List (List Int)) → (List Int) → (List T37) → (List Int) → (List Int) → Option F41o.ty) (y : tyO H13) (kk t2 : Int) (rg : List (Nat × SV)) : ra13 mr y kk t2 rg = (61, .own 8) :: after (rs13 mr y kk t2 rg) (rb13 kk t2 rg) := rfl
noncomputable def h13 (y : tyO H13) (kk : Int) (q : Bool) : List SO := (bif q then setN (h1_13 y kk) 1 .dead else h1_13 y kk) ++ [.arr (.int .i64) (y.2.1 ++ [kk])]
theorem h13_eq (y : tyO H13) (kk : Int) (q : Bool) : h13 y kk q = (bif q then setN (h1_13 y kk) 1 .dead else h1_13 y kk) ++ [.arr (.int .i64) (y.2.1 ++ [kk])] := rfl
noncomputable def res2 (mr : Int → T24 → (List (List Int)) → (List Int) → (List T37) → (List Int) → (List Int) → Option F41o.ty) (y : tyO H13) (kk t2 : Int) (rg : List (Nat × SV)) (q : Bool) (r : F41o.ty) : Option (List Rc × List SO) := runOps (E41 (fun _ _ _ _ _ _ _ => some r)) op13 (ra13 mr y kk t2 rg) (op13.drop 5) [] (h13 y kk q) (fun rs h => some (rs, h))
theorem res2_eq (mr : Int → T24 → (List (List Int)) → (List Int) → (List T37) → (List Int) → (List Int) → Option F41o.ty) (y : tyO H13) (kk t2 : Int) (rg : List (Nat × SV)) (q : Bool) : runOps (E41 mr) op13 (ra13 mr y kk t2 rg) (op13.drop 5) [] (h13 y kk q) (fun rs h => some (rs, h)) = (mr t2 y.1.1 y.1.2.1 (y.2.1 ++ [kk]) y.2.2.2.2.2.1 y.2.2.2.1 y.2.2.2.2.1).bind fun r => res2 mr y kk t2 rg q r := by
  cases q
  · kernel_rfl
  · kernel_rfl
noncomputable def rs2 (mr : Int → T24 → (List (List Int)) → (List Int) → (List T37) → (List Int) → (List Int) → Option F41o.ty) (y : tyO H13) (kk t2 : Int) (rg : List (Nat × SV)) (r : F41o.ty) (q : Bool) : List Rc := ((res2 mr y kk t2 rg q r).getD ([], [])).1
noncomputable def hp2 (mr : Int → T24 → (List (List Int)) → (List Int) → (List T37) → (List Int) → (List Int) → Option F41o.ty) (y : tyO H13) (kk t2 : Int) (rg : List (Nat × SV)) (r : F41o.ty) (q : Bool) : List SO := ((res2 mr y kk t2 rg q r).getD ([], [])).2
theorem res2_some (mr : Int → T24 → (List (List Int)) → (List Int) → (List T37) → (List Int) → (List Int) → Option F41o.ty) (y : tyO H13) (kk t2 : Int) (rg : List (Nat × SV)) (r : F41o.ty) (q : Bool) : res2 mr y kk t2 rg q r = some (rs2 mr y kk t2 rg r q, hp2 mr y kk t2 rg r q) := by
  cases q
  · kernel_rfl
  · kernel_rfl
theorem hp2_8 (mr : Int → T24 → (List (List Int)) → (List Int) → (List T37) → (List Int) → (List Int) → Option F41o.ty) (y : tyO H13) (kk t2 : Int) (rg : List (Nat × SV)) (r : F41o.ty) (q : Bool) : nth (hp2 mr y kk t2 rg r q) 8 = some (.arr (.int .i64) r.2.2.1) := by
  cases q
  · kernel_rfl
  · kernel_rfl
theorem hp2_1 (mr : Int → T24 → (List (List Int)) → (List Int) → (List T37) → (List Int) → (List Int) → Option F41o.ty) (y : tyO H13) (kk t2 : Int) (rg : List (Nat × SV)) (r : F41o.ty) (q : Bool) : nth (hp2 mr y kk t2 rg r q) 1 = some (bif q then .dead else .arr (.int .i64) y.2.1) := by
  cases q
  · kernel_rfl
  · kernel_rfl
theorem hp2_st (mr : Int → T24 → (List (List Int)) → (List Int) → (List T37) → (List Int) → (List Int) → Option F41o.ty) (y : tyO H13) (kk t2 : Int) (rg : List (Nat × SV)) (r : F41o.ty) (q : Bool) : setN (setN (hp2 mr y kk t2 rg r q) 8 .dead) 1 (.arr (.int .i64) y.2.1) = st13 y kk r := by
  cases q
  · kernel_rfl
  · kernel_rfl
noncomputable def F13 (mr : Int → T24 → (List (List Int)) → (List Int) → (List T37) → (List Int) → (List Int) → Option F41o.ty) (y : tyO H13) (kk t2 : Int) (rg : List (Nat × SV)) (r : F41o.ty) (q : Bool) : List (Nat × SV) := ents (rs2 mr y kk t2 rg r q) ++ (61, .own 8) :: ents (rs13 mr y kk t2 rg)
theorem F13_eq (mr : Int → T24 → (List (List Int)) → (List Int) → (List T37) → (List Int) → (List Int) → Option F41o.ty) (y : tyO H13) (kk t2 : Int) (rg : List (Nat × SV)) (r : F41o.ty) (q : Bool) : after (rs2 mr y kk t2 rg r q) (ra13 mr y kk t2 rg) = F13 mr y kk t2 rg r q ++ rb13 kk t2 rg := by
  cases q
  · kernel_rfl
  · kernel_rfl
theorem F13_keys (mr : Int → T24 → (List (List Int)) → (List Int) → (List T37) → (List Int) → (List Int) → Option F41o.ty) (y : tyO H13) (kk t2 : Int) (rg : List (Nat × SV)) (r : F41o.ty) (q : Bool) : (F13 mr y kk t2 rg r q).map (·.1) = [3, 64, 63, 62, 61, 60, 59, 58, 57] := by
  cases q
  · kernel_rfl
  · kernel_rfl
theorem F13_3 (mr : Int → T24 → (List (List Int)) → (List Int) → (List T37) → (List Int) → (List Int) → Option F41o.ty) (y : tyO H13) (kk t2 : Int) (rg : List (Nat × SV)) (r : F41o.ty) (q : Bool) : lk (F13 mr y kk t2 rg r q) 3 = some (.own 9) := by
  cases q
  · kernel_rfl
  · kernel_rfl
attribute [local irreducible] op13 rs13 ra13 h1_13 h13 rs2 hp2 F13 st13
theorem sok41 (mr : Int → T24 → (List (List Int)) → (List Int) → (List T37) → (List Int) → (List Int) → Option F41o.ty) (hmr : CmOk Try.prog (cS41 mr)) : SpOk (E41 mr) Try.f41.ntmps 5 (sp41 mr) (bodyL Try.f41 0) where
  nat := by
    intro id f hf R S g s k
    unfold sp41 at hf
    cases hb : Nat.beq id 13 with
    | false => rw [hb] at hf; cases hf
    | true =>
    rw [hb] at hf
    cases hf
    unfold spF41
    split
    · rw [cond_bind_both]
      congr 1
      split
      · rw [asrt_bind]
        congr 1
        rw [Option.bind_assoc]
        congr 1
        funext r
        rw [asrt_bind]
      · rfl
    · rfl
  sound := by
    intro id ops draw f hm hf R B s k r a X Q hs hk hq
    unfold sp41 at hf
    cases hb : Nat.beq id 13 with
    | false => rw [hb] at hf; cases hf
    | true =>
    rw [hb] at hf
    have hid := Nat.eq_of_beq_eq_true hb
    subst hid
    cases hf
    have hfind := findR_mem nodup13 hm
    rw [find13] at hfind
    obtain ⟨rfl, rfl⟩ := Prod.mk.inj (Option.some.inj hfind)
    unfold spF41 at hk
    split at hk
    · rename_i kk t2 e0 e1 e12 e2 e3
      obtain ⟨hns, hk⟩ := bif_some hk
      split at hk
      · rename_i y hy
        obtain ⟨hlim, hk⟩ := asrt_true hk
        obtain ⟨z, hz, hk⟩ := Option.bind_eq_some_iff.1 hk
        obtain ⟨heq, hk⟩ := asrt_true hk
        have heq : z.2.2.1 = y.2.1 ++ [kk] := of_decide_eq_true heq
        have hheap := decO_enc _ _ _ hy
        have hs' : StOk B Try.f41.ntmps X ⟨rb13 kk t2 s.regs, encO H13 y⟩ a := by
          refine ⟨?_, by rw [← hheap]; exact hs.heap, hs.size, hs.defers⟩
          intro t v hl
          refine hs.regs t v ?_
          simp only [rb13, lk] at hl
          by_cases c0 : t = 0
          · subst c0; rw [e0]; exact hl
          · by_cases c1 : t = 1
            · subst c1; rw [e1]; exact hl
            · by_cases c12 : t = 12
              · subst c12; rw [e12]; exact hl
              · by_cases c2 : t = 2
                · subst c2; rw [e2]; exact hl
                · by_cases c3 : t = 3
                  · subst c3; rw [e3]; exact hl
                  · have n0 : Nat.beq 0 t = false := by rw [Bool.eq_false_iff]; intro h; exact c0 (Nat.eq_of_beq_eq_true h).symm
                    have n1 : Nat.beq 1 t = false := by rw [Bool.eq_false_iff]; intro h; exact c1 (Nat.eq_of_beq_eq_true h).symm
                    have n12 : Nat.beq 12 t = false := by rw [Bool.eq_false_iff]; intro h; exact c12 (Nat.eq_of_beq_eq_true h).symm
                    have n2 : Nat.beq 2 t = false := by rw [Bool.eq_false_iff]; intro h; exact c2 (Nat.eq_of_beq_eq_true h).symm
                    have n3 : Nat.beq 3 t = false := by rw [Bool.eq_false_iff]; intro h; exact c3 (Nat.eq_of_beq_eq_true h).symm
                    simpa only [n0, n1, n12, n2, n3, cond_false] using hl
        refine app_region (ok41 mr hmr) (N := Try.f41.ntmps) (ops := op13) (l1 := op13.take 4) (l2 := op13.drop 5) (d := 61) (sl := 58) (xl := 60) (t := 23) (u := 23) (e := 3) (e' := 3) (g := .int .i64)
          (ty := ((op13[4]?).map (·.type)).getD 0) (pos := ((op13[4]?).map (·.pos)).getD "") (aft := ((op13[4]?).map (·.after)).getD #[])
          (by kernel_rfl) (by kernel_rfl) (by kernel_rfl) (by kernel_rfl) (by kernel_rfl) (by kernel_rfl) (by kernel_rfl) (by kernel_rfl) (by kernel_rfl) (rb := rb13 kk t2 s.regs) (hp := encO H13 y) hs'
          (n := 1) (m := 7) (c := 8) (xs := y.2.1) (ys := [kk]) (h1 := h1_13 y kk) (h3 := st13 y kk z) (rs1 := rs13 mr y kk t2 s.regs) (rs2 := rs2 mr y kk t2 s.regs z) (h2 := hp2 mr y kk t2 s.regs z) (RA := ra13 mr y kk t2 s.regs) (Hq := h13 y kk)
          (res1_eq mr y kk t2 s.regs) (q1_13 mr y kk t2 s.regs) (q2_13 mr y kk t2 s.regs) (q3_13 y kk) (q4_13 y kk) (of_decide_eq_true hlim) (len13 y kk) (ra13_eq mr y kk t2 s.regs) (h13_eq y kk) ?_ ?_ (hp2_1 mr y kk t2 s.regs z) (hp2_st mr y kk t2 s.regs z) ?_
        · intro q
          refine (res2_eq mr y kk t2 s.regs q).trans ?_
          rw [hz, Option.bind_some]
          exact res2_some mr y kk t2 s.regs z q
        · intro q
          rw [← heq]
          exact hp2_8 mr y kk t2 s.regs z q
        · intro q a' X' S' E'
          have S2 : StOk B Try.f41.ntmps X' ⟨(3, .own 9) :: s.regs, st13 y kk z⟩ a' := by
            refine ⟨?_, S'.heap, S'.size, S'.defers⟩
            intro t v hl
            have hf := F13_eq mr y kk t2 s.regs z q
            have hall : ∀ v, lk (F13 mr y kk t2 s.regs z q ++ rb13 kk t2 s.regs) t = some v → Rep X' v .val [a'.tmps.getD t undef] := fun v h => S'.regs t v (by
              show lk (after (rs2 mr y kk t2 s.regs z q) (ra13 mr y kk t2 s.regs)) t = some v
              rw [hf]; exact h)
            simp only [lk] at hl
            by_cases c3 : t = 3
            · subst c3
              refine hall v ?_
              rw [lk_app, F13_3]
              exact hl
            · have n3 : Nat.beq 3 t = false := by rw [Bool.eq_false_iff]; intro h; exact c3 (Nat.eq_of_beq_eq_true h).symm
              rw [n3, cond_false] at hl
              have hk57 : ∀ j, j ∈ [57, 58, 59, 60, 61, 62, 63, 64] → j ≠ t := by
                intro j hj e
                subst e
                simp only [noSlots, List.all_eq_true] at hns
                have := hns j hj
                rw [hl] at this
                cases this
              refine hall v ?_
              rw [lk_app, lk_none (by
                rw [F13_keys]
                intro j hj
                simp only [List.mem_cons, List.not_mem_nil, or_false] at hj
                rcases hj with rfl | rfl | rfl | rfl | rfl | rfl | rfl | rfl | rfl
                · exact fun e => c3 e.symm
                all_goals exact hk57 _ (by simp))]
              simp only [rb13, lk]
              by_cases c0 : t = 0
              · subst c0; rw [e0] at hl; exact hl
              · by_cases c1 : t = 1
                · subst c1; rw [e1] at hl; exact hl
                · by_cases c12 : t = 12
                  · subst c12; rw [e12] at hl; exact hl
                  · by_cases c2 : t = 2
                    · subst c2; rw [e2] at hl; exact hl
                    · have n0 : Nat.beq 0 t = false := by rw [Bool.eq_false_iff]; intro h; exact c0 (Nat.eq_of_beq_eq_true h).symm
                      have n1 : Nat.beq 1 t = false := by rw [Bool.eq_false_iff]; intro h; exact c1 (Nat.eq_of_beq_eq_true h).symm
                      have n12 : Nat.beq 12 t = false := by rw [Bool.eq_false_iff]; intro h; exact c12 (Nat.eq_of_beq_eq_true h).symm
                      have n2 : Nat.beq 2 t = false := by rw [Bool.eq_false_iff]; intro h; exact c2 (Nat.eq_of_beq_eq_true h).symm
                      simp only [n0, n1, n12, n2, n3, cond_false]
                      exact hl
          exact hq _ a' X' S2 (.of E') hk
      · cases hk
    · cases hk

theorem ek41_3 (mr : Int → T24 → (List (List Int)) → (List Int) → (List T37) → (List Int) → (List Int) → Option F41o.ty) : EOkS (E41 mr) (C41 mr) Try.f41.ntmps (sp41 mr) (bodyL Try.f41 0) (L41_3 mr) := eokS_of (e := L41_3 mr) (fun R x Kn k => s41_3 mr x.1.2.2.1 x.1.2.2.2.2.1 x.1.2.2.2.2.2.1 x.2.2.1 (fun v0 v1 v2 v3 v4 v5 => Kn (((), (), x.1.2.2.1, (), x.1.2.2.2.2.1, x.1.2.2.2.2.2.1, v0, ()), ((v1, v2, (), (), ()), x.2.2.1, (), v3, v4, v5, ()))) (fun y0 y1 y2 y3 y4 => k (.exit 0) ⟨[(3, (.own 5))], [(.box (.agg (.scons (.dat G24 y0) (.scons (.dat (.sl (.sl (.int .i64))) y1) (.scons (.own 3) (.scons (.own 4) .snil)))))), (.arr (.int .i64) x.2.2.1), .dead, (.arr (.int .i64) y2), (.arr (.int .i64) y3), (.arr G37 y4)]⟩) x.1.2.2.2.2.2.2.1 x.2.1.1 x.2.1.2.1 x.2.2.2.2.1 x.2.2.2.2.2.1 x.2.2.2.2.2.2.1) (fun _ _ _ => rfl) (fun _ _ _ _ => rfl) (fun R x Kn k => by kernel_rfl)
theorem lm41 (mr : Int → T24 → (List (List Int)) → (List Int) → (List T37) → (List Int) → (List Int) → Option F41o.ty) (hmr : CmOk Try.prog (cS41 mr)) : ∀ c, Try.f41.body = some c → LmOk (E41 mr) (C41 mr) Try.f41.ntmps c := lmOk_one (ok41 mr hmr) ord (sp := sp41 mr) (a := bodyL Try.f41 0) (by
  intro c hc b hb
  have h1 : (match Try.f41.body with | some c => loops c | none => []) = [bodyL Try.f41 0] := by kernel_rfl
  rw [hc] at h1
  simp only at h1
  rw [h1] at hb
  simpa using hb) (sok41 mr hmr) (ek41_3 mr)
noncomputable def M41 (mr : Int → T24 → (List (List Int)) → (List Int) → (List T37) → (List Int) → (List Int) → Option F41o.ty) (a0 : Int) (a1 : T24) (a2 : (List (List Int))) (a3 : (List Int)) (a4 : (List T37)) (a5 : (List Int)) (a6 : (List Int)) : Option F41o.ty :=
  (m37 (a1, a2, a5, a6, ())).bind fun r1 =>
  bif (decide (r1 ≥ 0)) then
    (cloneM a3).bind fun r2 =>
    asrt true (decide (List.length (α := T37) a4 + List.length (α := T37) [(r2, 0, r1, ())] ≤ LIM)) (
      some (((), ()), ((a1, a2, (), (), ()), a3, (), a5, a6, (a4 ++ [(r2, 0, r1, ())]), ())))
  else
    (m38 (a1, a2, a5, a6, ())).bind fun r3 =>
    bif (decide (r3 ≥ a0)) then
      (cloneM a3).bind fun r4 =>
      asrt true (decide (List.length (α := T37) a4 + List.length (α := T37) [(r4, r3, (-1), ())] ≤ LIM)) (
        some (((), ()), ((a1, a2, (), (), ()), a3, (), a5, a6, (a4 ++ [(r4, r3, (-1), ())]), ())))
    else
      (idx a1.1 (List.length a3 : Int)).bind fun x5 =>
      l41_3 mr a0 (List.length a3 : Int) (List.length x5 : Int) a3 (fun y33 y34 y35 y36 y37 =>
          some (((), ()), ((y33, y34, (), (), ()), a3, (), y35, y36, y37, ()))) FUEL 0 a1 a2 a5 a6 a4
theorem q41 (mr : Int → T24 → (List (List Int)) → (List Int) → (List T37) → (List Int) → (List Int) → Option F41o.ty) (x : F41i.ty) : execF (E41 mr) (C41 mr) Try.f41 ((F41i.enc x).regs.map (·.2)) (F41i.enc x).heap (retS [] [] 5 F41o) = M41 mr x.1.2.2.1 x.2.1.1 x.2.1.2.1 x.2.2.1 x.2.2.2.1 x.2.2.2.2.1 x.2.2.2.2.2.1 := by kernel_rfl
theorem R41 (mr : Int → T24 → (List (List Int)) → (List Int) → (List T37) → (List Int) → (List Int) → Option F41o.ty) (hmr : CmOk Try.prog (cS41 mr)) : CRun Try.prog 41 F41i F41o (fun x => M41 mr x.1.2.2.1 x.2.1.1 x.2.1.2.1 x.2.2.1 x.2.2.2.1 x.2.2.2.2.1 x.2.2.2.2.2.1) := st_run (E := E41 mr) (ok41 mr hmr) ord (lm41 mr hmr) Try.func41 (q41 mr)
noncomputable def m41N : Nat → Int → T24 → (List (List Int)) → (List Int) → (List T37) → (List Int) → (List Int) → Option F41o.ty
  | 0, _, _, _, _, _, _, _ => none
  | n + 1, a0, a1, a2, a3, a4, a5, a6 => M41 (m41N n) a0 a1 a2 a3 a4 a5 a6
theorem dS41 : ∀ n, CmOk Try.prog (cS41 (m41N n))
  | 0 => st_ok ca41 (fun _ _ h => by cases h)
  | n + 1 => st_ok ca41 (R41 (m41N n) (dS41 n))
noncomputable def m41 (a0 : Int) (a1 : T24) (a2 : (List (List Int))) (a3 : (List Int)) (a4 : (List T37)) (a5 : (List Int)) (a6 : (List Int)) : Option F41o.ty := m41N FUEL a0 a1 a2 a3 a4 a5 a6
noncomputable def c41 : CmE := cS41 (fun a0 a1 a2 a3 a4 a5 a6 => m41 a0 a1 a2 a3 a4 a5 a6)
theorem d41 : CmOk Try.prog c41 := dS41 FUEL

/-! 15: consol/plan.Best -/
theorem ca35 : callable Try.prog 35 := ⟨Try.f35, Try.func35, by kernel_rfl, by kernel_rfl⟩
noncomputable def E15i35 : Env := mkEnv2 Try.prog [e29] [c39]
theorem ok15i35 : EnvOk (E15i35) := mkEnv2_ok (by simp only [List.mem_cons, List.not_mem_nil, or_false, forall_eq]; exact p29) (by simp only [List.mem_cons, List.not_mem_nil, or_false, forall_eq]; exact d39)
/-- a round of a loop of consol/plan.open -/
noncomputable def s15_1 {R : Type} (t42 : (List Int)) (t43 : Int) (kn : Int → (List Int) → Option R) (k1 : (List Int) → Option R) (t44 : Int) (o2 : (List Int)) : Option R :=
  bif (decide (t44 < t43)) then
    (idx t42 t44).bind fun x7 =>
    asrt true (decide (0 ≤ t44) && decide (t44 < (List.length o2 : Int))) (
      ((o2)[(t44 : Int).toNat]?).bind fun x8 =>
      asrt true (decide (0 ≤ t44) && decide (t44 < (List.length o2 : Int))) (
        ((o2)[(t44 : Int).toNat]?).bind fun x9 =>
        kn (IntKind.i64.wrap (t44 + 1)) (List.set o2 (t44 : Int).toNat (bif decide (x7 < x8) then x7 else x8))))
  else
    k1 o2
noncomputable def l15_1 {R : Type} (t42 : (List Int)) (t43 : Int) (k1 : (List Int) → Option R) : Nat → Int → (List Int) → Option R
  | 0, _, _ => none
  | n + 1, t44, o2 => s15_1 t42 t43 (l15_1 t42 t43 k1 n) k1 t44 o2
noncomputable def L15_1 : LE := ⟨11, 1, ⟨[(3, (.box 1 [] 0)), (6, (.own 2)), (24, (.dat (.sl (.sl G37)))), (25, (.dat (.int .i64))), (26, (.dat (.int .i64))), (35, (.dat (.sl G37))), (36, (.dat (.int .i64))), (37, (.dat (.int .i64))), (42, (.dat (.sl (.int .i64)))), (43, (.dat (.int .i64))), (44, (.dat (.int .i64)))], [.dead, (.box (.agg (.scons (.dat G24) (.scons (.own 3) (.scons (.own 4) (.scons (.own 5) .snil)))))), (.arr (.int .i64)), (.arr (.sl (.int .i64))), (.arr (.int .i64)), (.arr (.int .i64))]⟩, fun R n x k => l15_1 x.1.2.2.2.2.2.2.2.2.1 x.1.2.2.2.2.2.2.2.2.2.1 (fun y0 => k (.exit 4) ⟨[(3, (.box 1 [] 0)), (6, (.own 2)), (24, (.dat (.sl (.sl G37)) x.1.2.2.1)), (25, (.dat (.int .i64) x.1.2.2.2.1)), (26, (.dat (.int .i64) x.1.2.2.2.2.1)), (35, (.dat (.sl G37) x.1.2.2.2.2.2.1)), (36, (.dat (.int .i64) x.1.2.2.2.2.2.2.1)), (37, (.dat (.int .i64) x.1.2.2.2.2.2.2.2.1))], [.dead, (.box (.agg (.scons (.dat G24 x.2.2.1.1) (.scons (.own 3) (.scons (.own 4) (.scons (.own 5) .snil)))))), (.arr (.int .i64) y0), (.arr (.sl (.int .i64)) x.2.2.2.2.1), (.arr (.int .i64) x.2.2.2.2.2.1), (.arr (.int .i64) x.2.2.2.2.2.2.1)]⟩) n x.1.2.2.2.2.2.2.2.2.2.2.1 x.2.2.2.1⟩
/-- a round of a loop of consol/plan.open -/
noncomputable def s15_2 {R : Type} (t35 : (List T37)) (t36 : Int) (kn : Int → (List Int) → Option R) (k1 : (List Int) → Option R) (t37 : Int) (o2 : (List Int)) : Option R :=
  bif (decide (t37 < t36)) then
    (idx t35 t37).bind fun x6 =>
    l15_1 x6.1 (List.length x6.1 : Int) (fun y10 =>
        kn (IntKind.i64.wrap (t37 + 1)) y10) FUEL 0 o2
  else
    k1 o2
noncomputable def l15_2 {R : Type} (t35 : (List T37)) (t36 : Int) (k1 : (List Int) → Option R) : Nat → Int → (List Int) → Option R
  | 0, _, _ => none
  | n + 1, t37, o2 => s15_2 t35 t36 (l15_2 t35 t36 k1 n) k1 t37 o2
noncomputable def L15_2 : LE := ⟨8, 1, ⟨[(3, (.box 1 [] 0)), (6, (.own 2)), (24, (.dat (.sl (.sl G37)))), (25, (.dat (.int .i64))), (26, (.dat (.int .i64))), (35, (.dat (.sl G37))), (36, (.dat (.int .i64))), (37, (.dat (.int .i64)))], [.dead, (.box (.agg (.scons (.dat G24) (.scons (.own 3) (.scons (.own 4) (.scons (.own 5) .snil)))))), (.arr (.int .i64)), (.arr (.sl (.int .i64))), (.arr (.int .i64)), (.arr (.int .i64))]⟩, fun R n x k => l15_2 x.1.2.2.2.2.2.1 x.1.2.2.2.2.2.2.1 (fun y0 => k (.exit 2) ⟨[(3, (.box 1 [] 0)), (6, (.own 2)), (24, (.dat (.sl (.sl G37)) x.1.2.2.1)), (25, (.dat (.int .i64) x.1.2.2.2.1)), (26, (.dat (.int .i64) x.1.2.2.2.2.1))], [.dead, (.box (.agg (.scons (.dat G24 x.2.2.1.1) (.scons (.own 3) (.scons (.own 4) (.scons (.own 5) .snil)))))), (.arr (.int .i64) y0), (.arr (.sl (.int .i64)) x.2.2.2.2.1), (.arr (.int .i64) x.2.2.2.2.2.1), (.arr (.int .i64) x.2.2.2.2.2.2.1)]⟩) n x.1.2.2.2.2.2.2.2.1 x.2.2.2.1⟩
/-- a round of a loop of consol/plan.open -/
noncomputable def s15_3 {R : Type} (t70 : (List Int)) (t71 : Int) (kn : Int → (List Int) → Option R) (k1 : (List Int) → Option R) (t72 : Int) (o3 : (List Int)) : Option R :=
  bif (decide (t72 < t71)) then
    (idx t70 t72).bind fun x12 =>
    asrt true (decide (0 ≤ t72) && decide (t72 < (List.length o3 : Int))) (
      ((o3)[(t72 : Int).toNat]?).bind fun x13 =>
      asrt true (decide (0 ≤ t72) && decide (t72 < (List.length o3 : Int))) (
        ((o3)[(t72 : Int).toNat]?).bind fun x14 =>
        kn (IntKind.i64.wrap (t72 + 1)) (List.set o3 (t72 : Int).toNat (IntKind.i64.wrap (x13 + x12)))))
  else
    k1 o3
noncomputable def l15_3 {R : Type} (t70 : (List Int)) (t71 : Int) (k1 : (List Int) → Option R) : Nat → Int → (List Int) → Option R
  | 0, _, _ => none
  | n + 1, t72, o3 => s15_3 t70 t71 (l15_3 t70 t71 k1 n) k1 t72 o3
noncomputable def L15_3 : LE := ⟨18, 1, ⟨[(3, (.box 1 [] 0)), (24, (.dat (.sl (.sl G37)))), (25, (.dat (.int .i64))), (26, (.dat (.int .i64))), (70, (.dat (.sl (.int .i64)))), (71, (.dat (.int .i64))), (72, (.dat (.int .i64)))], [.dead, (.box (.agg (.scons (.dat G24) (.scons (.own 2) (.scons (.own 3) (.scons (.own 4) .snil)))))), (.arr (.sl (.int .i64))), (.arr (.int .i64)), (.arr (.int .i64))]⟩, fun R n x k => l15_3 x.1.2.2.2.2.1 x.1.2.2.2.2.2.1 (fun y0 => k (.exit 6) ⟨[(3, (.box 1 [] 0)), (24, (.dat (.sl (.sl G37)) x.1.2.1)), (25, (.dat (.int .i64) x.1.2.2.1)), (26, (.dat (.int .i64) x.1.2.2.2.1))], [.dead, (.box (.agg (.scons (.dat G24 x.2.2.1.1) (.scons (.own 2) (.scons (.own 3) (.scons (.own 4) .snil)))))), (.arr (.sl (.int .i64)) x.2.2.2.1), (.arr (.int .i64) y0), (.arr (.int .i64) x.2.2.2.2.2.1)]⟩) n x.1.2.2.2.2.2.2.1 x.2.2.2.2.1⟩
/-- a round of a loop of consol/plan.open -/
noncomputable def s15_4 {R : Type} (t24 : (List (List T37))) (t25 : Int) (kn : Int → (List (List Int)) → (List Int) → Option R) (k1 : (List (List Int)) → (List Int) → Option R) (t26 : Int) (o2 : (List (List Int))) (o3 : (List Int)) : Option R :=
  bif (decide (t26 < t25)) then
    (idx t24 t26).bind fun x3 =>
    (idx x3 0).bind fun x4 =>
    (cloneM x4.1).bind fun r5 =>
    l15_2 x3 (List.length x3 : Int) (fun y11 =>
        asrt true (decide (List.length (α := (List Int)) o2 + List.length (α := (List Int)) [y11] ≤ LIM)) (
          l15_3 y11 (List.length y11 : Int) (fun y15 =>
              kn (IntKind.i64.wrap (t26 + 1)) (o2 ++ [y11]) y15) FUEL 0 o3)) FUEL 0 r5
  else
    k1 o2 o3
noncomputable def l15_4 {R : Type} (t24 : (List (List T37))) (t25 : Int) (k1 : (List (List Int)) → (List Int) → Option R) : Nat → Int → (List (List Int)) → (List Int) → Option R
  | 0, _, _, _ => none
  | n + 1, t26, o2, o3 => s15_4 t24 t25 (l15_4 t24 t25 k1 n) k1 t26 o2 o3
noncomputable def L15_4 : LE := ⟨4, 1, ⟨[(3, (.box 1 [] 0)), (24, (.dat (.sl (.sl G37)))), (25, (.dat (.int .i64))), (26, (.dat (.int .i64)))], [.dead, (.box (.agg (.scons (.dat G24) (.scons (.own 2) (.scons (.own 3) (.scons (.own 4) .snil)))))), (.arr (.sl (.int .i64))), (.arr (.int .i64)), (.arr (.int .i64))]⟩, fun R n x k => l15_4 x.1.2.1 x.1.2.2.1 (fun y0 y1 => k (.exit 0) ⟨[(3, (.box 1 [] 0))], [.dead, (.box (.agg (.scons (.dat G24 x.2.2.1.1) (.scons (.own 2) (.scons (.own 3) (.scons (.own 4) .snil)))))), (.arr (.sl (.int .i64)) y0), (.arr (.int .i64) y1), (.arr (.int .i64) x.2.2.2.2.2.1)]⟩) n x.1.2.2.2.1 x.2.2.2.1 x.2.2.2.2.1⟩
noncomputable def C15i35 : Cfg := mkCfg [(4, ⟨[3, 24, 25, 26], [(3, [1], (.sl (.int .i64)))], []⟩), (8, ⟨[3, 6, 24, 25, 26, 35, 36, 37], [], []⟩), (11, ⟨[3, 6, 24, 25, 26, 35, 36, 37, 42, 43, 44], [], []⟩), (18, ⟨[3, 24, 25, 26, 70, 71, 72], [], []⟩)] [(4, (⟨[3], [], []⟩, ⟨[2], [], []⟩)), (8, (⟨[3, 6, 24, 25, 26], [], []⟩, ⟨[2], [], []⟩)), (11, (⟨[3, 6, 24, 25, 26, 35, 36, 37], [], []⟩, ⟨[2], [], []⟩)), (18, (⟨[3, 24, 25, 26], [], []⟩, ⟨[2], [], []⟩))] (([(2, L15_1), (1, L15_2), (3, L15_3), (0, L15_4)] : List (Nat × LE)).map (·.2)) [] [(15, [(6, [], (.sl (.int .i64)))]), (22, [(3, [1], (.sl (.sl (.int .i64))))])]
theorem ek15_1 : EOk (E15i35) (C15i35) Try.f35.ntmps (bodyL Try.f35 2) (L15_1) := eok_of (e := L15_1) (fun R x Kn k => s15_1 x.1.2.2.2.2.2.2.2.2.1 x.1.2.2.2.2.2.2.2.2.2.1 (fun v0 v1 => Kn (((), (), x.1.2.2.1, x.1.2.2.2.1, x.1.2.2.2.2.1, x.1.2.2.2.2.2.1, x.1.2.2.2.2.2.2.1, x.1.2.2.2.2.2.2.2.1, x.1.2.2.2.2.2.2.2.2.1, x.1.2.2.2.2.2.2.2.2.2.1, v0, ()), ((), (x.2.2.1.1, (), (), (), ()), v1, x.2.2.2.2.1, x.2.2.2.2.2.1, x.2.2.2.2.2.2.1, ()))) (fun y0 => k (.exit 4) ⟨[(3, (.box 1 [] 0)), (6, (.own 2)), (24, (.dat (.sl (.sl G37)) x.1.2.2.1)), (25, (.dat (.int .i64) x.1.2.2.2.1)), (26, (.dat (.int .i64) x.1.2.2.2.2.1)), (35, (.dat (.sl G37) x.1.2.2.2.2.2.1)), (36, (.dat (.int .i64) x.1.2.2.2.2.2.2.1)), (37, (.dat (.int .i64) x.1.2.2.2.2.2.2.2.1))], [.dead, (.box (.agg (.scons (.dat G24 x.2.2.1.1) (.scons (.own 3) (.scons (.own 4) (.scons (.own 5) .snil)))))), (.arr (.int .i64) y0), (.arr (.sl (.int .i64)) x.2.2.2.2.1), (.arr (.int .i64) x.2.2.2.2.2.1), (.arr (.int .i64) x.2.2.2.2.2.2.1)]⟩) x.1.2.2.2.2.2.2.2.2.2.2.1 x.2.2.2.1) (fun _ _ _ => rfl) (fun _ _ _ _ => rfl) (fun R x Kn k => by kernel_rfl)
theorem ek15_2 : EOk (E15i35) (C15i35) Try.f35.ntmps (bodyL Try.f35 1) (L15_2) := eok_of (e := L15_2) (fun R x Kn k => s15_2 x.1.2.2.2.2.2.1 x.1.2.2.2.2.2.2.1 (fun v0 v1 => Kn (((), (), x.1.2.2.1, x.1.2.2.2.1, x.1.2.2.2.2.1, x.1.2.2.2.2.2.1, x.1.2.2.2.2.2.2.1, v0, ()), ((), (x.2.2.1.1, (), (), (), ()), v1, x.2.2.2.2.1, x.2.2.2.2.2.1, x.2.2.2.2.2.2.1, ()))) (fun y0 => k (.exit 2) ⟨[(3, (.box 1 [] 0)), (6, (.own 2)), (24, (.dat (.sl (.sl G37)) x.1.2.2.1)), (25, (.dat (.int .i64) x.1.2.2.2.1)), (26, (.dat (.int .i64) x.1.2.2.2.2.1))], [.dead, (.box (.agg (.scons (.dat G24 x.2.2.1.1) (.scons (.own 3) (.scons (.own 4) (.scons (.own 5) .snil)))))), (.arr (.int .i64) y0), (.arr (.sl (.int .i64)) x.2.2.2.2.1), (.arr (.int .i64) x.2.2.2.2.2.1), (.arr (.int .i64) x.2.2.2.2.2.2.1)]⟩) x.1.2.2.2.2.2.2.2.1 x.2.2.2.1) (fun _ _ _ => rfl) (fun _ _ _ _ => rfl) (fun R x Kn k => by kernel_rfl)
theorem ek15_3 : EOk (E15i35) (C15i35) Try.f35.ntmps (bodyL Try.f35 3) (L15_3) := eok_of (e := L15_3) (fun R x Kn k => s15_3 x.1.2.2.2.2.1 x.1.2.2.2.2.2.1 (fun v0 v1 => Kn (((), x.1.2.1, x.1.2.2.1, x.1.2.2.2.1, x.1.2.2.2.2.1, x.1.2.2.2.2.2.1, v0, ()), ((), (x.2.2.1.1, (), (), (), ()), x.2.2.2.1, v1, x.2.2.2.2.2.1, ()))) (fun y0 => k (.exit 6) ⟨[(3, (.box 1 [] 0)), (24, (.dat (.sl (.sl G37)) x.1.2.1)), (25, (.dat (.int .i64) x.1.2.2.1)), (26, (.dat (.int .i64) x.1.2.2.2.1))], [.dead, (.box (.agg (.scons (.dat G24 x.2.2.1.1) (.scons (.own 2) (.scons (.own 3) (.scons (.own 4) .snil)))))), (.arr (.sl (.int .i64)) x.2.2.2.1), (.arr (.int .i64) y0), (.arr (.int .i64) x.2.2.2.2.2.1)]⟩) x.1.2.2.2.2.2.2.1 x.2.2.2.2.1) (fun _ _ _ => rfl) (fun _ _ _ _ => rfl) (fun R x Kn k => by kernel_rfl)
theorem ek15_4 : EOk (E15i35) (C15i35) Try.f35.ntmps (bodyL Try.f35 0) (L15_4) := eok_of (e := L15_4) (fun R x Kn k => s15_4 x.1.2.1 x.1.2.2.1 (fun v0 v1 v2 => Kn (((), x.1.2.1, x.1.2.2.1, v0, ()), ((), (x.2.2.1.1, (), (), (), ()), v1, v2, x.2.2.2.2.2.1, ()))) (fun y0 y1 => k (.exit 0) ⟨[(3, (.box 1 [] 0))], [.dead, (.box (.agg (.scons (.dat G24 x.2.2.1.1) (.scons (.own 2) (.scons (.own 3) (.scons (.own 4) .snil)))))), (.arr (.sl (.int .i64)) y0), (.arr (.int .i64) y1), (.arr (.int .i64) x.2.2.2.2.2.1)]⟩) x.1.2.2.2.1 x.2.2.2.1 x.2.2.2.2.1) (fun _ _ _ => rfl) (fun _ _ _ _ => rfl) (fun R x Kn k => by kernel_rfl)
theorem lm15i35 : ∀ c, Try.f35.body = some c → LmOk (E15i35) (C15i35) Try.f35.ntmps c := lmOk_of (ps := [(2, L15_1), (1, L15_2), (3, L15_3), (0, L15_4)]) (by kernel_rfl) (by kernel_rfl) ⟨ek15_1, ek15_2, ek15_3, ek15_4, trivial⟩
noncomputable def c15i35 : CmE := inl E15i35 C15i35 35 Try.f35
theorem d15i35 : CmOk Try.prog c15i35 := inl_ok (E := E15i35) ok15i35 ord lm15i35 Try.func35 ca35

theorem ca15 : callable Try.prog 15 := ⟨Try.f15, Try.func15, by kernel_rfl, by kernel_rfl⟩
noncomputable def E15 : Env := mkEnv2 Try.prog [e13] [c15i35, c36, c41]
theorem ok15 : EnvOk (E15) := mkEnv2_ok (by simp only [List.mem_cons, List.not_mem_nil, or_false, forall_eq]; exact p13) (by simp only [List.mem_cons, List.not_mem_nil, or_false, forall_eq_or_imp, forall_eq]; exact ⟨d15i35, d36, d41⟩)
noncomputable def C15 : Cfg := noCfg
theorem lm15 : ∀ c, Try.f15.body = some c → LmOk (E15) (C15) Try.f15.ntmps c := fun _ _ => noCfg_lm
noncomputable def m15 (a0 : T24) : Option (((List Int) × (Int × ((List T37) × (Int × Unit))))) :=
  (m13 a0).bind fun r1 =>
  bif (!r1) then
    some ([], 0, [], 1, ())
  else
    (m29 a0).bind fun r2 =>
    asrt true (decide (0 ≤ r2) && decide (r2 ≤ r2) && decide (r2 ≤ (LIM : Int))) (
      asrt true (decide (0 ≤ (List.length a0.2.1 : Int)) && decide ((List.length a0.2.1 : Int) ≤ (List.length a0.2.1 : Int)) && decide ((List.length a0.2.1 : Int) ≤ (LIM : Int))) (
        l15_4 a0.1 (List.length a0.1 : Int) (fun y16 y17 =>
            (m36 0 [] 0 a0 a0 y16 [] y17 (List.replicate ((List.length a0.2.1 : Int) : Int).toNat 0)).bind fun r18 =>
            bif (decide (r18.2.1 > 100000)) then
              some ([], 0, [], 6, ())
            else
              bif (List.isEmpty (α := Int) r18.2.2.2.1) then
                some ([], 0, [], 4, ())
              else
                (m41 r18.2.2.2.2.1 r18.2.2.2.2.2.2.2.2.1.1 r18.2.2.2.2.2.2.2.2.1.2.1 [] [] r18.2.2.2.2.2.2.2.2.2.2.1 r18.2.2.2.2.2.2.2.2.2.2.2.1).bind fun r19 =>
                bif (decide ((List.length r19.2.2.2.2.2.2.1 : Int) > 100000)) then
                  some ([], 0, [], 6, ())
                else
                  some (r18.2.2.2.1, r18.2.2.2.2.1, r19.2.2.2.2.2.2.1, 0, ())) FUEL 0 [] (List.replicate (r2 : Int).toNat 0)))
noncomputable def e15 : PmE := entry 15 [G24] true (.cons (.sl (.int .i64)) (.cons (.int .i64) (.cons (.sl G37) (.cons (.int .i64) .nil)))) (fun x => m15 x.1)
theorem q15 (x : tyL [G24]) : execF E15 C15 Try.f15 (datL [G24] x) [] (retK true (.cons (.sl (.int .i64)) (.cons (.int .i64) (.cons (.sl G37) (.cons (.int .i64) .nil))))) = m15 x.1 := by kernel_rfl
theorem p15 : PmOk Try.prog e15 := pm_ok (E := E15) ok15 ord lm15 Try.func15 ca15 q15

noncomputable def cK15 : CmE := konE 15 [G24] true (.cons (.sl (.int .i64)) (.cons (.int .i64) (.cons (.sl G37) (.cons (.int .i64) .nil)))) (fun x => m15 x.1)
theorem dK15 : CmOk Try.prog cK15 := kon_ok p15

/-! 22: (consol/margin.place).lined -/
theorem ca22 : callable Try.prog 22 := ⟨Try.f22, Try.func22, by kernel_rfl, by kernel_rfl⟩
noncomputable def E22 : Env := mkEnv2 Try.prog [] []
theorem ok22 : EnvOk (E22) := mkEnv2_ok (by simp) (by simp)
/-- a round of a loop of (consol/margin.place).lined -/
noncomputable def s22_1 {R : Type} (t8 : Int) (t36 : (List Int)) (t37 : Int) (o0 : T47) (o1 : T24) (o3 : T50) (kn : Int → Int → Option R) (k1 : Int → Option R) (t9 : Int) (t38 : Int) : Option R :=
  bif (decide (t38 < t37)) then
    cont (fun (k8 : Int → _) =>
      (idx t36 t38).bind fun x4 =>
      bif (((!o3.2.2.1) || (t38 != o0.1)) || (t8 != o0.2.2.1)) then
        (idx o1.1 t38).bind fun x5 =>
        (idx x5 x4).bind fun x6 =>
        (idx x6.1 t8).bind fun x7 =>
        k8 (IntKind.i64.wrap (t9 + x7))
      else
        k8 t9) fun y8 =>
    kn y8 (IntKind.i64.wrap (t38 + 1))
  else
    k1 t9
noncomputable def l22_1 {R : Type} (t8 : Int) (t36 : (List Int)) (t37 : Int) (o0 : T47) (o1 : T24) (o3 : T50) (k1 : Int → Option R) : Nat → Int → Int → Option R
  | 0, _, _ => none
  | n + 1, t9, t38 => s22_1 t8 t36 t37 o0 o1 o3 (l22_1 t8 t36 t37 o0 o1 o3 k1 n) k1 t9 t38
noncomputable def L22_1 : LE := ⟨8, 0, ⟨[(2, (.dat (.sl (.int .i64)))), (3, (.box 0 [] 0)), (4, (.box 1 [] 0)), (6, (.box 2 [] 0)), (7, (.box 3 [] 0)), (8, (.dat (.int .i64))), (9, (.dat (.int .i64))), (32, (.dat (.int .i64))), (33, (.dat (.int .i64))), (36, (.dat (.sl (.int .i64)))), (37, (.dat (.int .i64))), (38, (.dat (.int .i64)))], [(.box (.dat G47)), (.box (.dat G24)), (.box (.dat G50)), (.box (.dat G50))]⟩, fun R n x k => l22_1 x.1.2.2.2.2.2.1 x.1.2.2.2.2.2.2.2.2.2.1 x.1.2.2.2.2.2.2.2.2.2.2.1 x.2.1 x.2.2.1 x.2.2.2.2.1 (fun y0 => k (.exit 2) ⟨[(2, (.dat (.sl (.int .i64)) x.1.1)), (3, (.box 0 [] 0)), (4, (.box 1 [] 0)), (6, (.box 2 [] 0)), (7, (.box 3 [] 0)), (8, (.dat (.int .i64) x.1.2.2.2.2.2.1)), (9, (.dat (.int .i64) y0)), (32, (.dat (.int .i64) x.1.2.2.2.2.2.2.2.1)), (33, (.dat (.int .i64) x.1.2.2.2.2.2.2.2.2.1))], [(.box (.dat G47 x.2.1)), (.box (.dat G24 x.2.2.1)), (.box (.dat G50 x.2.2.2.1)), (.box (.dat G50 x.2.2.2.2.1))]⟩) n x.1.2.2.2.2.2.2.1 x.1.2.2.2.2.2.2.2.2.2.2.2.1⟩
/-- a round of a loop of (consol/margin.place).lined -/
noncomputable def s22_2 {R : Type} (t2 : (List Int)) (t32 : Int) (o0 : T47) (o1 : T24) (kn : Int → T50 → Option R) (k1 : T50 → Option R) (t33 : Int) (o3 : T50) : Option R :=
  bif (decide (t33 < t32)) then
    cont (fun (k10 : T50 → _) =>
      l22_1 t33 t2 (List.length t2 : Int) o0 o1 o3 (fun y9 =>
          bif (o3.2.2.1 && (t33 == o0.2.2.1)) then
            k10 (o3.1, y9, o3.2.2.1, ())
          else
            k10 ((bif decide (y9 > o3.1) then y9 else o3.1), o3.2.1, o3.2.2.1, ())) FUEL 0 0) fun y10 =>
    kn (IntKind.i64.wrap (t33 + 1)) y10
  else
    k1 o3
noncomputable def l22_2 {R : Type} (t2 : (List Int)) (t32 : Int) (o0 : T47) (o1 : T24) (k1 : T50 → Option R) : Nat → Int → T50 → Option R
  | 0, _, _ => none
  | n + 1, t33, o3 => s22_2 t2 t32 o0 o1 (l22_2 t2 t32 o0 o1 k1 n) k1 t33 o3
noncomputable def L22_2 : LE := ⟨4, 0, ⟨[(2, (.dat (.sl (.int .i64)))), (3, (.box 0 [] 0)), (4, (.box 1 [] 0)), (6, (.box 2 [] 0)), (7, (.box 3 [] 0)), (32, (.dat (.int .i64))), (33, (.dat (.int .i64)))], [(.box (.dat G47)), (.box (.dat G24)), (.box (.dat G50)), (.box (.dat G50))]⟩, fun R n x k => l22_2 x.1.1 x.1.2.2.2.2.2.1 x.2.1 x.2.2.1 (fun y0 => k (.exit 0) ⟨[(6, (.box 0 [] 0)), (7, (.box 1 [] 0))], [(.box (.dat G50 x.2.2.2.1)), (.box (.dat G50 y0))]⟩) n x.1.2.2.2.2.2.2.1 x.2.2.2.2.1⟩
noncomputable def C22 : Cfg := mkCfg [(4, ⟨[2, 3, 4, 6, 7, 32, 33], [], []⟩), (8, ⟨[2, 3, 4, 6, 7, 8, 9, 32, 33, 36, 37, 38], [], []⟩), (12, ⟨[2, 3, 4, 6, 7, 8, 9, 32, 33, 36, 37, 38], [], []⟩), (16, ⟨[2, 3, 4, 6, 7, 32, 33], [], []⟩)] [(4, (⟨[6, 7], [], []⟩, ⟨[6], [], []⟩)), (8, (⟨[2, 3, 4, 6, 7, 8, 9, 32, 33], [], []⟩, ⟨[6], [], []⟩))] (([(1, L22_1), (0, L22_2)] : List (Nat × LE)).map (·.2))
theorem ek22_1 : EOk (E22) (C22) Try.f22.ntmps (bodyL Try.f22 1) (L22_1) := eok_of (e := L22_1) (fun R x Kn k => s22_1 x.1.2.2.2.2.2.1 x.1.2.2.2.2.2.2.2.2.2.1 x.1.2.2.2.2.2.2.2.2.2.2.1 x.2.1 x.2.2.1 x.2.2.2.2.1 (fun v0 v1 => Kn ((x.1.1, (), (), (), (), x.1.2.2.2.2.2.1, v0, x.1.2.2.2.2.2.2.2.1, x.1.2.2.2.2.2.2.2.2.1, x.1.2.2.2.2.2.2.2.2.2.1, x.1.2.2.2.2.2.2.2.2.2.2.1, v1, ()), (x.2.1, x.2.2.1, x.2.2.2.1, x.2.2.2.2.1, ()))) (fun y0 => k (.exit 2) ⟨[(2, (.dat (.sl (.int .i64)) x.1.1)), (3, (.box 0 [] 0)), (4, (.box 1 [] 0)), (6, (.box 2 [] 0)), (7, (.box 3 [] 0)), (8, (.dat (.int .i64) x.1.2.2.2.2.2.1)), (9, (.dat (.int .i64) y0)), (32, (.dat (.int .i64) x.1.2.2.2.2.2.2.2.1)), (33, (.dat (.int .i64) x.1.2.2.2.2.2.2.2.2.1))], [(.box (.dat G47 x.2.1)), (.box (.dat G24 x.2.2.1)), (.box (.dat G50 x.2.2.2.1)), (.box (.dat G50 x.2.2.2.2.1))]⟩) x.1.2.2.2.2.2.2.1 x.1.2.2.2.2.2.2.2.2.2.2.2.1) (fun _ _ _ => rfl) (fun _ _ _ _ => rfl) (fun R x Kn k => by kernel_rfl)
theorem ek22_2 : EOk (E22) (C22) Try.f22.ntmps (bodyL Try.f22 0) (L22_2) := eok_of (e := L22_2) (fun R x Kn k => s22_2 x.1.1 x.1.2.2.2.2.2.1 x.2.1 x.2.2.1 (fun v0 v1 => Kn ((x.1.1, (), (), (), (), x.1.2.2.2.2.2.1, v0, ()), (x.2.1, x.2.2.1, x.2.2.2.1, v1, ()))) (fun y0 => k (.exit 0) ⟨[(6, (.box 0 [] 0)), (7, (.box 1 [] 0))], [(.box (.dat G50 x.2.2.2.1)), (.box (.dat G50 y0))]⟩) x.1.2.2.2.2.2.2.1 x.2.2.2.2.1) (fun _ _ _ => rfl) (fun _ _ _ _ => rfl) (fun R x Kn k => by kernel_rfl)
theorem lm22 : ∀ c, Try.f22.body = some c → LmOk (E22) (C22) Try.f22.ntmps c := lmOk_of (ps := [(1, L22_1), (0, L22_2)]) (by kernel_rfl) (by kernel_rfl) ⟨ek22_1, ek22_2, trivial⟩
noncomputable def m22 (a0 : T47) (a1 : T24) (a2 : (List Int)) : Option (T50) :=
  (idx a2 a0.1).bind fun x1 =>
  (idx a1.1 a0.1).bind fun x2 =>
  (idx x2 a0.2.1).bind fun x3 =>
  l22_2 a2 (List.length x3.1 : Int) a0 a1 (fun y11 =>
      some y11) FUEL 0 (0, 0, (x1 == a0.2.1), ())
noncomputable def e22 : PmE := entry 22 [G47, G24, (.sl (.int .i64))] false G50 (fun x => m22 x.1 x.2.1 x.2.2.1)
theorem q22 (x : tyL [G47, G24, (.sl (.int .i64))]) : execF E22 C22 Try.f22 (datL [G47, G24, (.sl (.int .i64))] x) [] (retK false G50) = m22 x.1 x.2.1 x.2.2.1 := by kernel_rfl
theorem p22 : PmOk Try.prog e22 := pm_ok (E := E22) ok22 ord lm22 Try.func22 ca22 q22

/-! 17: consol/plan.Cost -/
noncomputable def E17i35 : Env := mkEnv2 Try.prog [e29] [c39]
theorem ok17i35 : EnvOk (E17i35) := mkEnv2_ok (by simp only [List.mem_cons, List.not_mem_nil, or_false, forall_eq]; exact p29) (by simp only [List.mem_cons, List.not_mem_nil, or_false, forall_eq]; exact d39)
/-- a round of a loop of consol/plan.open -/
noncomputable def s17_1 {R : Type} (t42 : (List Int)) (t43 : Int) (kn : Int → (List Int) → Option R) (k1 : (List Int) → Option R) (t44 : Int) (o2 : (List Int)) : Option R :=
  bif (decide (t44 < t43)) then
    (idx t42 t44).bind fun x7 =>
    asrt true (decide (0 ≤ t44) && decide (t44 < (List.length o2 : Int))) (
      ((o2)[(t44 : Int).toNat]?).bind fun x8 =>
      asrt true (decide (0 ≤ t44) && decide (t44 < (List.length o2 : Int))) (
        ((o2)[(t44 : Int).toNat]?).bind fun x9 =>
        kn (IntKind.i64.wrap (t44 + 1)) (List.set o2 (t44 : Int).toNat (bif decide (x7 < x8) then x7 else x8))))
  else
    k1 o2
noncomputable def l17_1 {R : Type} (t42 : (List Int)) (t43 : Int) (k1 : (List Int) → Option R) : Nat → Int → (List Int) → Option R
  | 0, _, _ => none
  | n + 1, t44, o2 => s17_1 t42 t43 (l17_1 t42 t43 k1 n) k1 t44 o2
noncomputable def L17_1 : LE := ⟨11, 1, ⟨[(3, (.box 1 [] 0)), (6, (.own 2)), (24, (.dat (.sl (.sl G37)))), (25, (.dat (.int .i64))), (26, (.dat (.int .i64))), (35, (.dat (.sl G37))), (36, (.dat (.int .i64))), (37, (.dat (.int .i64))), (42, (.dat (.sl (.int .i64)))), (43, (.dat (.int .i64))), (44, (.dat (.int .i64)))], [.dead, (.box (.agg (.scons (.dat G24) (.scons (.own 3) (.scons (.own 4) (.scons (.own 5) .snil)))))), (.arr (.int .i64)), (.arr (.sl (.int .i64))), (.arr (.int .i64)), (.arr (.int .i64))]⟩, fun R n x k => l17_1 x.1.2.2.2.2.2.2.2.2.1 x.1.2.2.2.2.2.2.2.2.2.1 (fun y0 => k (.exit 4) ⟨[(3, (.box 1 [] 0)), (6, (.own 2)), (24, (.dat (.sl (.sl G37)) x.1.2.2.1)), (25, (.dat (.int .i64) x.1.2.2.2.1)), (26, (.dat (.int .i64) x.1.2.2.2.2.1)), (35, (.dat (.sl G37) x.1.2.2.2.2.2.1)), (36, (.dat (.int .i64) x.1.2.2.2.2.2.2.1)), (37, (.dat (.int .i64) x.1.2.2.2.2.2.2.2.1))], [.dead, (.box (.agg (.scons (.dat G24 x.2.2.1.1) (.scons (.own 3) (.scons (.own 4) (.scons (.own 5) .snil)))))), (.arr (.int .i64) y0), (.arr (.sl (.int .i64)) x.2.2.2.2.1), (.arr (.int .i64) x.2.2.2.2.2.1), (.arr (.int .i64) x.2.2.2.2.2.2.1)]⟩) n x.1.2.2.2.2.2.2.2.2.2.2.1 x.2.2.2.1⟩
/-- a round of a loop of consol/plan.open -/
noncomputable def s17_2 {R : Type} (t35 : (List T37)) (t36 : Int) (kn : Int → (List Int) → Option R) (k1 : (List Int) → Option R) (t37 : Int) (o2 : (List Int)) : Option R :=
  bif (decide (t37 < t36)) then
    (idx t35 t37).bind fun x6 =>
    l17_1 x6.1 (List.length x6.1 : Int) (fun y10 =>
        kn (IntKind.i64.wrap (t37 + 1)) y10) FUEL 0 o2
  else
    k1 o2
noncomputable def l17_2 {R : Type} (t35 : (List T37)) (t36 : Int) (k1 : (List Int) → Option R) : Nat → Int → (List Int) → Option R
  | 0, _, _ => none
  | n + 1, t37, o2 => s17_2 t35 t36 (l17_2 t35 t36 k1 n) k1 t37 o2
noncomputable def L17_2 : LE := ⟨8, 1, ⟨[(3, (.box 1 [] 0)), (6, (.own 2)), (24, (.dat (.sl (.sl G37)))), (25, (.dat (.int .i64))), (26, (.dat (.int .i64))), (35, (.dat (.sl G37))), (36, (.dat (.int .i64))), (37, (.dat (.int .i64)))], [.dead, (.box (.agg (.scons (.dat G24) (.scons (.own 3) (.scons (.own 4) (.scons (.own 5) .snil)))))), (.arr (.int .i64)), (.arr (.sl (.int .i64))), (.arr (.int .i64)), (.arr (.int .i64))]⟩, fun R n x k => l17_2 x.1.2.2.2.2.2.1 x.1.2.2.2.2.2.2.1 (fun y0 => k (.exit 2) ⟨[(3, (.box 1 [] 0)), (6, (.own 2)), (24, (.dat (.sl (.sl G37)) x.1.2.2.1)), (25, (.dat (.int .i64) x.1.2.2.2.1)), (26, (.dat (.int .i64) x.1.2.2.2.2.1))], [.dead, (.box (.agg (.scons (.dat G24 x.2.2.1.1) (.scons (.own 3) (.scons (.own 4) (.scons (.own 5) .snil)))))), (.arr (.int .i64) y0), (.arr (.sl (.int .i64)) x.2.2.2.2.1), (.arr (.int .i64) x.2.2.2.2.2.1), (.arr (.int .i64) x.2.2.2.2.2.2.1)]⟩) n x.1.2.2.2.2.2.2.2.1 x.2.2.2.1⟩
/-- a round of a loop of consol/plan.open -/
noncomputable def s17_3 {R : Type} (t70 : (List Int)) (t71 : Int) (kn : Int → (List Int) → Option R) (k1 : (List Int) → Option R) (t72 : Int) (o3 : (List Int)) : Option R :=
  bif (decide (t72 < t71)) then
    (idx t70 t72).bind fun x12 =>
    asrt true (decide (0 ≤ t72) && decide (t72 < (List.length o3 : Int))) (
      ((o3)[(t72 : Int).toNat]?).bind fun x13 =>
      asrt true (decide (0 ≤ t72) && decide (t72 < (List.length o3 : Int))) (
        ((o3)[(t72 : Int).toNat]?).bind fun x14 =>
        kn (IntKind.i64.wrap (t72 + 1)) (List.set o3 (t72 : Int).toNat (IntKind.i64.wrap (x13 + x12)))))
  else
    k1 o3
noncomputable def l17_3 {R : Type} (t70 : (List Int)) (t71 : Int) (k1 : (List Int) → Option R) : Nat → Int → (List Int) → Option R
  | 0, _, _ => none
  | n + 1, t72, o3 => s17_3 t70 t71 (l17_3 t70 t71 k1 n) k1 t72 o3
noncomputable def L17_3 : LE := ⟨18, 1, ⟨[(3, (.box 1 [] 0)), (24, (.dat (.sl (.sl G37)))), (25, (.dat (.int .i64))), (26, (.dat (.int .i64))), (70, (.dat (.sl (.int .i64)))), (71, (.dat (.int .i64))), (72, (.dat (.int .i64)))], [.dead, (.box (.agg (.scons (.dat G24) (.scons (.own 2) (.scons (.own 3) (.scons (.own 4) .snil)))))), (.arr (.sl (.int .i64))), (.arr (.int .i64)), (.arr (.int .i64))]⟩, fun R n x k => l17_3 x.1.2.2.2.2.1 x.1.2.2.2.2.2.1 (fun y0 => k (.exit 6) ⟨[(3, (.box 1 [] 0)), (24, (.dat (.sl (.sl G37)) x.1.2.1)), (25, (.dat (.int .i64) x.1.2.2.1)), (26, (.dat (.int .i64) x.1.2.2.2.1))], [.dead, (.box (.agg (.scons (.dat G24 x.2.2.1.1) (.scons (.own 2) (.scons (.own 3) (.scons (.own 4) .snil)))))), (.arr (.sl (.int .i64)) x.2.2.2.1), (.arr (.int .i64) y0), (.arr (.int .i64) x.2.2.2.2.2.1)]⟩) n x.1.2.2.2.2.2.2.1 x.2.2.2.2.1⟩
/-- a round of a loop of consol/plan.open -/
noncomputable def s17_4 {R : Type} (t24 : (List (List T37))) (t25 : Int) (kn : Int → (List (List Int)) → (List Int) → Option R) (k1 : (List (List Int)) → (List Int) → Option R) (t26 : Int) (o2 : (List (List Int))) (o3 : (List Int)) : Option R :=
  bif (decide (t26 < t25)) then
    (idx t24 t26).bind fun x3 =>
    (idx x3 0).bind fun x4 =>
    (cloneM x4.1).bind fun r5 =>
    l17_2 x3 (List.length x3 : Int) (fun y11 =>
        asrt true (decide (List.length (α := (List Int)) o2 + List.length (α := (List Int)) [y11] ≤ LIM)) (
          l17_3 y11 (List.length y11 : Int) (fun y15 =>
              kn (IntKind.i64.wrap (t26 + 1)) (o2 ++ [y11]) y15) FUEL 0 o3)) FUEL 0 r5
  else
    k1 o2 o3
noncomputable def l17_4 {R : Type} (t24 : (List (List T37))) (t25 : Int) (k1 : (List (List Int)) → (List Int) → Option R) : Nat → Int → (List (List Int)) → (List Int) → Option R
  | 0, _, _, _ => none
  | n + 1, t26, o2, o3 => s17_4 t24 t25 (l17_4 t24 t25 k1 n) k1 t26 o2 o3
noncomputable def L17_4 : LE := ⟨4, 1, ⟨[(3, (.box 1 [] 0)), (24, (.dat (.sl (.sl G37)))), (25, (.dat (.int .i64))), (26, (.dat (.int .i64)))], [.dead, (.box (.agg (.scons (.dat G24) (.scons (.own 2) (.scons (.own 3) (.scons (.own 4) .snil)))))), (.arr (.sl (.int .i64))), (.arr (.int .i64)), (.arr (.int .i64))]⟩, fun R n x k => l17_4 x.1.2.1 x.1.2.2.1 (fun y0 y1 => k (.exit 0) ⟨[(3, (.box 1 [] 0))], [.dead, (.box (.agg (.scons (.dat G24 x.2.2.1.1) (.scons (.own 2) (.scons (.own 3) (.scons (.own 4) .snil)))))), (.arr (.sl (.int .i64)) y0), (.arr (.int .i64) y1), (.arr (.int .i64) x.2.2.2.2.2.1)]⟩) n x.1.2.2.2.1 x.2.2.2.1 x.2.2.2.2.1⟩
noncomputable def C17i35 : Cfg := mkCfg [(4, ⟨[3, 24, 25, 26], [(3, [1], (.sl (.int .i64)))], []⟩), (8, ⟨[3, 6, 24, 25, 26, 35, 36, 37], [], []⟩), (11, ⟨[3, 6, 24, 25, 26, 35, 36, 37, 42, 43, 44], [], []⟩), (18, ⟨[3, 24, 25, 26, 70, 71, 72], [], []⟩)] [(4, (⟨[3], [], []⟩, ⟨[2], [], []⟩)), (8, (⟨[3, 6, 24, 25, 26], [], []⟩, ⟨[2], [], []⟩)), (11, (⟨[3, 6, 24, 25, 26, 35, 36, 37], [], []⟩, ⟨[2], [], []⟩)), (18, (⟨[3, 24, 25, 26], [], []⟩, ⟨[2], [], []⟩))] (([(2, L17_1), (1, L17_2), (3, L17_3), (0, L17_4)] : List (Nat × LE)).map (·.2)) [] [(15, [(6, [], (.sl (.int .i64)))]), (22, [(3, [1], (.sl (.sl (.int .i64))))])]
theorem ek17_1 : EOk (E17i35) (C17i35) Try.f35.ntmps (bodyL Try.f35 2) (L17_1) := eok_of (e := L17_1) (fun R x Kn k => s17_1 x.1.2.2.2.2.2.2.2.2.1 x.1.2.2.2.2.2.2.2.2.2.1 (fun v0 v1 => Kn (((), (), x.1.2.2.1, x.1.2.2.2.1, x.1.2.2.2.2.1, x.1.2.2.2.2.2.1, x.1.2.2.2.2.2.2.1, x.1.2.2.2.2.2.2.2.1, x.1.2.2.2.2.2.2.2.2.1, x.1.2.2.2.2.2.2.2.2.2.1, v0, ()), ((), (x.2.2.1.1, (), (), (), ()), v1, x.2.2.2.2.1, x.2.2.2.2.2.1, x.2.2.2.2.2.2.1, ()))) (fun y0 => k (.exit 4) ⟨[(3, (.box 1 [] 0)), (6, (.own 2)), (24, (.dat (.sl (.sl G37)) x.1.2.2.1)), (25, (.dat (.int .i64) x.1.2.2.2.1)), (26, (.dat (.int .i64) x.1.2.2.2.2.1)), (35, (.dat (.sl G37) x.1.2.2.2.2.2.1)), (36, (.dat (.int .i64) x.1.2.2.2.2.2.2.1)), (37, (.dat (.int .i64) x.1.2.2.2.2.2.2.2.1))], [.dead, (.box (.agg (.scons (.dat G24 x.2.2.1.1) (.scons (.own 3) (.scons (.own 4) (.scons (.own 5) .snil)))))), (.arr (.int .i64) y0), (.arr (.sl (.int .i64)) x.2.2.2.2.1), (.arr (.int .i64) x.2.2.2.2.2.1), (.arr (.int .i64) x.2.2.2.2.2.2.1)]⟩) x.1.2.2.2.2.2.2.2.2.2.2.1 x.2.2.2.1) (fun _ _ _ => rfl) (fun _ _ _ _ => rfl) (fun R x Kn k => by kernel_rfl)
theorem ek17_2 : EOk (E17i35) (C17i35) Try.f35.ntmps (bodyL Try.f35 1) (L17_2) := eok_of (e := L17_2) (fun R x Kn k => s17_2 x.1.2.2.2.2.2.1 x.1.2.2.2.2.2.2.1 (fun v0 v1 => Kn (((), (), x.1.2.2.1, x.1.2.2.2.1, x.1.2.2.2.2.1, x.1.2.2.2.2.2.1, x.1.2.2.2.2.2.2.1, v0, ()), ((), (x.2.2.1.1, (), (), (), ()), v1, x.2.2.2.2.1, x.2.2.2.2.2.1, x.2.2.2.2.2.2.1, ()))) (fun y0 => k (.exit 2) ⟨[(3, (.box 1 [] 0)), (6, (.own 2)), (24, (.dat (.sl (.sl G37)) x.1.2.2.1)), (25, (.dat (.int .i64) x.1.2.2.2.1)), (26, (.dat (.int .i64) x.1.2.2.2.2.1))], [.dead, (.box (.agg (.scons (.dat G24 x.2.2.1.1) (.scons (.own 3) (.scons (.own 4) (.scons (.own 5) .snil)))))), (.arr (.int .i64) y0), (.arr (.sl (.int .i64)) x.2.2.2.2.1), (.arr (.int .i64) x.2.2.2.2.2.1), (.arr (.int .i64) x.2.2.2.2.2.2.1)]⟩) x.1.2.2.2.2.2.2.2.1 x.2.2.2.1) (fun _ _ _ => rfl) (fun _ _ _ _ => rfl) (fun R x Kn k => by kernel_rfl)
theorem ek17_3 : EOk (E17i35) (C17i35) Try.f35.ntmps (bodyL Try.f35 3) (L17_3) := eok_of (e := L17_3) (fun R x Kn k => s17_3 x.1.2.2.2.2.1 x.1.2.2.2.2.2.1 (fun v0 v1 => Kn (((), x.1.2.1, x.1.2.2.1, x.1.2.2.2.1, x.1.2.2.2.2.1, x.1.2.2.2.2.2.1, v0, ()), ((), (x.2.2.1.1, (), (), (), ()), x.2.2.2.1, v1, x.2.2.2.2.2.1, ()))) (fun y0 => k (.exit 6) ⟨[(3, (.box 1 [] 0)), (24, (.dat (.sl (.sl G37)) x.1.2.1)), (25, (.dat (.int .i64) x.1.2.2.1)), (26, (.dat (.int .i64) x.1.2.2.2.1))], [.dead, (.box (.agg (.scons (.dat G24 x.2.2.1.1) (.scons (.own 2) (.scons (.own 3) (.scons (.own 4) .snil)))))), (.arr (.sl (.int .i64)) x.2.2.2.1), (.arr (.int .i64) y0), (.arr (.int .i64) x.2.2.2.2.2.1)]⟩) x.1.2.2.2.2.2.2.1 x.2.2.2.2.1) (fun _ _ _ => rfl) (fun _ _ _ _ => rfl) (fun R x Kn k => by kernel_rfl)
theorem ek17_4 : EOk (E17i35) (C17i35) Try.f35.ntmps (bodyL Try.f35 0) (L17_4) := eok_of (e := L17_4) (fun R x Kn k => s17_4 x.1.2.1 x.1.2.2.1 (fun v0 v1 v2 => Kn (((), x.1.2.1, x.1.2.2.1, v0, ()), ((), (x.2.2.1.1, (), (), (), ()), v1, v2, x.2.2.2.2.2.1, ()))) (fun y0 y1 => k (.exit 0) ⟨[(3, (.box 1 [] 0))], [.dead, (.box (.agg (.scons (.dat G24 x.2.2.1.1) (.scons (.own 2) (.scons (.own 3) (.scons (.own 4) .snil)))))), (.arr (.sl (.int .i64)) y0), (.arr (.int .i64) y1), (.arr (.int .i64) x.2.2.2.2.2.1)]⟩) x.1.2.2.2.1 x.2.2.2.1 x.2.2.2.2.1) (fun _ _ _ => rfl) (fun _ _ _ _ => rfl) (fun R x Kn k => by kernel_rfl)
theorem lm17i35 : ∀ c, Try.f35.body = some c → LmOk (E17i35) (C17i35) Try.f35.ntmps c := lmOk_of (ps := [(2, L17_1), (1, L17_2), (3, L17_3), (0, L17_4)]) (by kernel_rfl) (by kernel_rfl) ⟨ek17_1, ek17_2, ek17_3, ek17_4, trivial⟩
noncomputable def c17i35 : CmE := inl E17i35 C17i35 35 Try.f35
theorem d17i35 : CmOk Try.prog c17i35 := inl_ok (E := E17i35) ok17i35 ord lm17i35 Try.func35 ca35

noncomputable def E17i40 : Env := mkEnv2 Try.prog [] []
theorem ok17i40 : EnvOk (E17i40) := mkEnv2_ok (by simp) (by simp)
/-- a round of a loop of (*consol/plan.state).step -/
noncomputable def s17_5 {R : Type} (t1 : Int) (t3 : Int) (t23 : (List Int)) (t24 : Int) (o1_2 : (List (List Int))) (kn : Int → (List Int) → Option R) (k1 : (List Int) → Option R) (t25 : Int) (o2 : (List Int)) : Option R :=
  bif (decide (t25 < t24)) then
    (idx t23 t25).bind fun x23 =>
    asrt true (decide (0 ≤ t25) && decide (t25 < (List.length o2 : Int))) (
      ((o2)[(t25 : Int).toNat]?).bind fun x24 =>
      (idx o1_2 t1).bind fun x25 =>
      (idx x25 t25).bind fun x26 =>
      asrt true (decide (0 ≤ t25) && decide (t25 < (List.length o2 : Int))) (
        ((o2)[(t25 : Int).toNat]?).bind fun x27 =>
        kn (IntKind.i64.wrap (t25 + 1)) (List.set o2 (t25 : Int).toNat (IntKind.i64.wrap (x24 + (IntKind.i64.wrap (t3 * (IntKind.i64.wrap (x23 - x26)))))))))
  else
    k1 o2
noncomputable def l17_5 {R : Type} (t1 : Int) (t3 : Int) (t23 : (List Int)) (t24 : Int) (o1_2 : (List (List Int))) (k1 : (List Int) → Option R) : Nat → Int → (List Int) → Option R
  | 0, _, _ => none
  | n + 1, t25, o2 => s17_5 t1 t3 t23 t24 o1_2 (l17_5 t1 t3 t23 t24 o1_2 k1 n) k1 t25 o2
noncomputable def L17_5 : LE := ⟨3, 5, ⟨[(0, (.box 1 [] 0)), (1, (.dat (.int .i64))), (3, (.dat (.int .i64))), (8, (.box 5 [] 0)), (23, (.dat (.sl (.int .i64)))), (24, (.dat (.int .i64))), (25, (.dat (.int .i64)))], [.dead, (.box (.agg (.scons (.dat G24) (.scons (.dat (.sl (.sl (.int .i64)))) (.scons (.own 2) (.scons (.own 3) .snil)))))), (.arr (.int .i64)), (.arr (.int .i64)), .dead, (.box (.dat G37))]⟩, fun R n x k => l17_5 x.1.2.1 x.1.2.2.1 x.1.2.2.2.2.1 x.1.2.2.2.2.2.1 x.2.2.1.2.1 (fun y0 => k (.exit 0) ⟨[(0, (.box 1 [] 0)), (3, (.dat (.int .i64) x.1.2.2.1)), (8, (.box 5 [] 0))], [.dead, (.box (.agg (.scons (.dat G24 x.2.2.1.1) (.scons (.dat (.sl (.sl (.int .i64))) x.2.2.1.2.1) (.scons (.own 2) (.scons (.own 3) .snil)))))), (.arr (.int .i64) y0), (.arr (.int .i64) x.2.2.2.2.1), .dead, (.box (.dat G37 x.2.2.2.2.2.2.1))]⟩) n x.1.2.2.2.2.2.2.1 x.2.2.2.1⟩
noncomputable def C17i40 : Cfg := mkCfg [(3, ⟨[0, 1, 3, 8, 23, 24, 25], [], []⟩)] [(3, (⟨[0, 3, 8], [], []⟩, ⟨[], [], []⟩))] (([(0, L17_5)] : List (Nat × LE)).map (·.2))
theorem ek17_5 : EOk (E17i40) (C17i40) Try.f40.ntmps (bodyL Try.f40 0) (L17_5) := eok_of (e := L17_5) (fun R x Kn k => s17_5 x.1.2.1 x.1.2.2.1 x.1.2.2.2.2.1 x.1.2.2.2.2.2.1 x.2.2.1.2.1 (fun v0 v1 => Kn (((), x.1.2.1, x.1.2.2.1, (), x.1.2.2.2.2.1, x.1.2.2.2.2.2.1, v0, ()), ((), (x.2.2.1.1, x.2.2.1.2.1, (), (), ()), v1, x.2.2.2.2.1, (), x.2.2.2.2.2.2.1, ()))) (fun y0 => k (.exit 0) ⟨[(0, (.box 1 [] 0)), (3, (.dat (.int .i64) x.1.2.2.1)), (8, (.box 5 [] 0))], [.dead, (.box (.agg (.scons (.dat G24 x.2.2.1.1) (.scons (.dat (.sl (.sl (.int .i64))) x.2.2.1.2.1) (.scons (.own 2) (.scons (.own 3) .snil)))))), (.arr (.int .i64) y0), (.arr (.int .i64) x.2.2.2.2.1), .dead, (.box (.dat G37 x.2.2.2.2.2.2.1))]⟩) x.1.2.2.2.2.2.2.1 x.2.2.2.1) (fun _ _ _ => rfl) (fun _ _ _ _ => rfl) (fun R x Kn k => by kernel_rfl)
theorem lm17i40 : ∀ c, Try.f40.body = some c → LmOk (E17i40) (C17i40) Try.f40.ntmps c := lmOk_of (ps := [(0, L17_5)]) (by kernel_rfl) (by kernel_rfl) ⟨ek17_5, trivial⟩
noncomputable def c17i40 : CmE := inl E17i40 C17i40 40 Try.f40
theorem d17i40 : CmOk Try.prog c17i40 := inl_ok (E := E17i40) ok17i40 ord lm17i40 Try.func40 ca40

theorem ca17 : callable Try.prog 17 := ⟨Try.f17, Try.func17, by kernel_rfl, by kernel_rfl⟩
noncomputable def E17 : Env := mkEnv2 Try.prog [e13, e30, e37, e38] [c17i35, c17i40]
theorem ok17 : EnvOk (E17) := mkEnv2_ok (by simp only [List.mem_cons, List.not_mem_nil, or_false, forall_eq_or_imp, forall_eq]; exact ⟨p13, p30, p37, p38⟩) (by simp only [List.mem_cons, List.not_mem_nil, or_false, forall_eq_or_imp, forall_eq]; exact ⟨d17i35, d17i40⟩)
/-- a round of a loop of consol/plan.Cost -/
noncomputable def s17_6 {R : Type} (t22 : (List Int)) (t23 : Int) (o0 : T24) (o1 : T24) (o1_2 : (List (List Int))) (kn : Int → (List Int) → (List Int) → Option R) (k1 : (List Int) → (List Int) → Option R) (k2 : Option R) (t24 : Int) (o2 : (List Int)) (o3 : (List Int)) : Option R :=
  bif (decide (t24 < t23)) then
    (idx t22 t24).bind fun x18 =>
    (idx o0.1 t24).bind fun x19 =>
    (m30 0 (IntKind.i64.wrap ((List.length x19 : Int) - 1)) [x18]).bind fun r20 =>
    bif (!r20) then
      k2
    else
      (idx o1.1 t24).bind fun x21 =>
      (idx x21 x18).bind fun x22 =>
      l17_5 t24 1 x22.1 (List.length x22.1 : Int) o1_2 (fun y28 =>
          bif (decide (x22.2.1 ≥ 0)) then
            asrt true (decide (0 ≤ x22.2.1) && decide (x22.2.1 < (List.length o3 : Int))) (
              ((o3)[(x22.2.1 : Int).toNat]?).bind fun x29 =>
              asrt true (decide (0 ≤ x22.2.1) && decide (x22.2.1 < (List.length o3 : Int))) (
                ((o3)[(x22.2.1 : Int).toNat]?).bind fun x30 =>
                kn (IntKind.i64.wrap (t24 + 1)) y28 (List.set o3 (x22.2.1 : Int).toNat (IntKind.i64.wrap (x29 + (IntKind.i64.wrap (1 * x22.2.2.1)))))))
          else
            kn (IntKind.i64.wrap (t24 + 1)) y28 o3) FUEL 0 o2
  else
    k1 o2 o3
noncomputable def l17_6 {R : Type} (t22 : (List Int)) (t23 : Int) (o0 : T24) (o1 : T24) (o1_2 : (List (List Int))) (k1 : (List Int) → (List Int) → Option R) (k2 : Option R) : Nat → Int → (List Int) → (List Int) → Option R
  | 0, _, _, _ => none
  | n + 1, t24, o2, o3 => s17_6 t22 t23 o0 o1 o1_2 (l17_6 t22 t23 o0 o1 o1_2 k1 k2 n) k1 k2 t24 o2 o3
noncomputable def L17_6 : LE := ⟨6, 0, ⟨[(2, (.box 0 [] 0)), (6, (.box 1 [] 0)), (22, (.dat (.sl (.int .i64)))), (23, (.dat (.int .i64))), (24, (.dat (.int .i64)))], [(.box (.dat G24)), (.box (.agg (.scons (.dat G24) (.scons (.dat (.sl (.sl (.int .i64)))) (.scons (.own 2) (.scons (.own 3) .snil)))))), (.arr (.int .i64)), (.arr (.int .i64))]⟩, fun R n x k => l17_6 x.1.2.2.1 x.1.2.2.2.1 x.2.1 x.2.2.1.1 x.2.2.1.2.1 (fun y0 y1 => k (.exit 0) ⟨[(6, (.box 0 [] 0))], [(.box (.agg (.scons (.dat G24 x.2.2.1.1) (.scons (.dat (.sl (.sl (.int .i64))) x.2.2.1.2.1) (.scons (.own 1) (.scons (.own 2) .snil)))))), (.arr (.int .i64) y0), (.arr (.int .i64) y1)]⟩) (k .ret ⟨[(4, (.dat (.int .i64) 0)), (5, (.dat .bool false))], []⟩) n x.1.2.2.2.2.1 x.2.2.2.1 x.2.2.2.2.1⟩
noncomputable def C17 : Cfg := mkCfg [(6, ⟨[2, 6, 22, 23, 24], [], []⟩)] [(6, (⟨[6], [], []⟩, ⟨[4, 5], [], []⟩))] (([(0, L17_6)] : List (Nat × LE)).map (·.2))
theorem ek17_6 : EOk (E17) (C17) Try.f17.ntmps (bodyL Try.f17 0) (L17_6) := eok_of (e := L17_6) (fun R x Kn k => s17_6 x.1.2.2.1 x.1.2.2.2.1 x.2.1 x.2.2.1.1 x.2.2.1.2.1 (fun v0 v1 v2 => Kn (((), (), x.1.2.2.1, x.1.2.2.2.1, v0, ()), (x.2.1, (x.2.2.1.1, x.2.2.1.2.1, (), (), ()), v1, v2, ()))) (fun y0 y1 => k (.exit 0) ⟨[(6, (.box 0 [] 0))], [(.box (.agg (.scons (.dat G24 x.2.2.1.1) (.scons (.dat (.sl (.sl (.int .i64))) x.2.2.1.2.1) (.scons (.own 1) (.scons (.own 2) .snil)))))), (.arr (.int .i64) y0), (.arr (.int .i64) y1)]⟩) (k .ret ⟨[(4, (.dat (.int .i64) 0)), (5, (.dat .bool false))], []⟩) x.1.2.2.2.2.1 x.2.2.2.1 x.2.2.2.2.1) (fun _ _ _ => rfl) (fun _ _ _ _ => rfl) (fun R x Kn k => by kernel_rfl)
theorem lm17 : ∀ c, Try.f17.body = some c → LmOk (E17) (C17) Try.f17.ntmps c := lmOk_of (ps := [(0, L17_6)]) (by kernel_rfl) (by kernel_rfl) ⟨ek17_6, trivial⟩
noncomputable def m17 (a0 : T24) (a1 : (List Int)) : Option ((Int × (Bool × Unit))) :=
  (m13 a0).bind fun r1 =>
  bif ((!r1) || ((List.length a1 : Int) != (List.length a0.1 : Int))) then
    some (0, false, ())
  else
    (m29 a0).bind fun r2 =>
    asrt true (decide (0 ≤ r2) && decide (r2 ≤ r2) && decide (r2 ≤ (LIM : Int))) (
      asrt true (decide (0 ≤ (List.length a0.2.1 : Int)) && decide ((List.length a0.2.1 : Int) ≤ (List.length a0.2.1 : Int)) && decide ((List.length a0.2.1 : Int) ≤ (LIM : Int))) (
        l17_4 a0.1 (List.length a0.1 : Int) (fun y16 y17 =>
            l17_6 a1 (List.length a1 : Int) a0 a0 y16 (fun y31 y32 =>
                (m37 (a0, y16, y31, y32, ())).bind fun r33 =>
                bif (decide (r33 ≥ 0)) then
                  some (0, false, ())
                else
                  (m38 (a0, y16, y31, y32, ())).bind fun r34 =>
                  some (r34, true, ())) (
                some (0, false, ())) FUEL 0 y17 (List.replicate ((List.length a0.2.1 : Int) : Int).toNat 0)) FUEL 0 [] (List.replicate (r2 : Int).toNat 0)))
noncomputable def e17 : PmE := entry 17 [G24, (.sl (.int .i64))] true (.cons (.int .i64) (.cons .bool .nil)) (fun x => m17 x.1 x.2.1)
theorem q17 (x : tyL [G24, (.sl (.int .i64))]) : execF E17 C17 Try.f17 (datL [G24, (.sl (.int .i64))] x) [] (retK true (.cons (.int .i64) (.cons .bool .nil))) = m17 x.1 x.2.1 := by kernel_rfl
theorem p17 : PmOk Try.prog e17 := pm_ok (E := E17) ok17 ord lm17 Try.func17 ca17 q17

/-! 24: consol/margin.limits -/
theorem ca24 : callable Try.prog 24 := ⟨Try.f24, Try.func24, by kernel_rfl, by kernel_rfl⟩
noncomputable def E24 : Env := mkEnv2 Try.prog [] []
theorem ok24 : EnvOk (E24) := mkEnv2_ok (by simp) (by simp)
noncomputable def C24 : Cfg := mkCfg [(6, ⟨[2, 3, 6, 7], [], []⟩), (12, ⟨[6, 7], [], []⟩)] [] (([] : List (Nat × LE)).map (·.2))
theorem lm24 : ∀ c, Try.f24.body = some c → LmOk (E24) (C24) Try.f24.ntmps c := lmOk_of (ps := []) (by kernel_rfl) (by kernel_rfl) trivial
noncomputable def m24 (a0 : T50) (a1 : T50) : Option ((Int × (Int × Unit))) :=
  cont (fun (k2 : (Int × Int) → _) =>
    bif (a0.2.2.1 && a1.2.2.1) then
      cont (fun (k1 : Int → _) =>
        bif (decide (a0.1 > a1.1)) then
          k1 (IntKind.i64.wrap (a0.1 - a1.2.1))
        else
          k1 0) fun y1 =>
      bif (decide (a0.2.1 > a1.2.1)) then
        k2 (y1, (IntKind.i64.wrap (a1.1 - a0.2.1)))
      else
        k2 (y1, 1000000000000000)
    else
      bif a0.2.2.1 then
        k2 (0, (IntKind.i64.wrap (a1.1 - a0.2.1)))
      else
        bif (a1.2.2.1 && (decide (a1.1 < a0.1))) then
          k2 ((IntKind.i64.wrap (a0.1 - a1.2.1)), 1000000000000000)
        else
          k2 (0, 1000000000000000)) fun y2 =>
  some (y2.1, y2.2, ())
noncomputable def e24 : PmE := entry 24 [G50, G50] true (.cons (.int .i64) (.cons (.int .i64) .nil)) (fun x => m24 x.1 x.2.1)
theorem q24 (x : tyL [G50, G50]) : execF E24 C24 Try.f24 (datL [G50, G50] x) [] (retK true (.cons (.int .i64) (.cons (.int .i64) .nil))) = m24 x.1 x.2.1 := by kernel_rfl
theorem p24 : PmOk Try.prog e24 := pm_ok (E := E24) ok24 ord lm24 Try.func24 ca24 q24

/-! 9: consol/margin.Span -/
theorem ca9 : callable Try.prog 9 := ⟨Try.f9, Try.func9, by kernel_rfl, by kernel_rfl⟩
end Go.Proofs.Ytadinocaadlgmaa
