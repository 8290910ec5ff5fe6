/- Models of the functions that the statements reach. -/
import Derived.Test.YtemammdmjpdmpaaE39
import Derived.Test.YtemammdmjpdmpaaChecked
import Derived.KernelRfl
namespace Go.Proofs.Ytemammdmjpdmpaa
open Go Go.Eng
set_option linter.unusedVariables false
set_option linter.unusedSimpArgs false

/-- x, y, signed, code -/
abbrev G7 : GT := .cons (.int .i64) (.cons (.int .i64) (.cons .bool (.cons (.int .u8) (.nil))))
abbrev T7 : Type := Int × Int × Bool × Int × Unit
/-- msg, addr -/
abbrev G13 : GT := .cons .str (.cons (.int .u64) (.nil))
abbrev T13 : Type := (List UInt8) × Int × Unit
/-- Options, Caps -/
abbrev G24 : GT := .cons (.sl (.sl (.cons (.sl (.int .i64)) (.cons (.int .i64) (.cons (.int .i64) .nil))))) (.cons (.sl (.int .i64)) (.nil))
abbrev T24 : Type := (List (List ((List Int) × (Int × (Int × Unit))))) × (List Int) × Unit
/-- Choice, Cost, Over -/
abbrev G42 : GT := .cons (.sl (.int .i64)) (.cons (.int .i64) (.cons (.int .i64) (.nil)))
abbrev T42 : Type := (List Int) × Int × Int × Unit
/-- t, looked, found, cost -/
abbrev G56 : GT := .cons G24 (.cons (.int .i64) (.cons (.sl (.int .i64)) (.cons (.int .i64) (.nil))))
abbrev T56 : Type := T24 × Int × (List Int) × Int × Unit
/-- task, least, costs, due -/
abbrev G72 : GT := .cons G24 (.cons (.sl (.sl (.int .i64))) (.cons (.sl (.int .i64)) (.cons (.sl (.int .i64)) (.nil))))
abbrev T72 : Type := T24 × (List (List Int)) × (List Int) × (List Int) × Unit

theorem ord : Try.prog.follows .mixedOrders = true := by kernel_rfl

/-! 24: consol/consollaw40.some -/
theorem ca24 : callable Try.prog 24 := ⟨Try.f24, Try.func24, by kernel_rfl, by kernel_rfl⟩
noncomputable def E24 : Env := mkEnv2 Try.prog [] []
theorem ok24 : EnvOk (E24) := mkEnv2_ok (by simp) (by simp)
noncomputable def C24 : Cfg := noCfg
theorem lm24 : ∀ c, Try.f24.body = some c → LmOk (E24) (C24) Try.f24.ntmps c := fun _ _ => noCfg_lm
noncomputable def m24 (a0 : Int) : Option (T24) :=
  some ([[([5], (-1), 0, ()), ([3], 0, 40, ())], [([7], (-1), 0, ()), ([2], 0, 30, ())]], [a0], ())
noncomputable def e24 : PmE := entry 24 [(.int .i64)] false G24 (fun x => m24 x.1)
theorem q24 (x : tyL [(.int .i64)]) : execF E24 C24 Try.f24 (datL [(.int .i64)] x) [] (retK false G24) = m24 x.1 := by kernel_rfl
theorem p24 : PmOk Try.prog e24 := pm_ok (E := E24) ok24 ord lm24 Try.func24 ca24 q24

noncomputable def cK24 : CmE := konE 24 [(.int .i64)] false G24 (fun x => m24 x.1)
theorem dK24 : CmOk Try.prog cK24 := kon_ok p24

/-! 36: consol/plan.scenarios -/
theorem ca36 : callable Try.prog 36 := ⟨Try.f36, Try.func36, by kernel_rfl, by kernel_rfl⟩
noncomputable def E36 : Env := mkEnv2 Try.prog [] []
theorem ok36 : EnvOk (E36) := mkEnv2_ok (by simp) (by simp)
noncomputable def C36 : Cfg := noCfg
theorem lm36 : ∀ c, Try.f36.body = some c → LmOk (E36) (C36) Try.f36.ntmps c := fun _ _ => noCfg_lm
noncomputable def m36 (a0 : T24) : Option (Int) :=
  (idxG (((List.length a0.1 : Int) == 0) == false) ([] : (List T42)) a0.1 0).bind fun x1 =>
  bif (((List.length a0.1 : Int) == 0) || ((List.length x1 : Int) == 0)) then
    some 0
  else
    (idx a0.1 0).bind fun x2 =>
    (idx x2 0).bind fun x3 =>
    some (List.length x3.1 : Int)
noncomputable def e36 : PmE := entry 36 [G24] false (.int .i64) (fun x => m36 x.1)
theorem q36 (x : tyL [G24]) : execF E36 C36 Try.f36 (datL [G24] x) [] (retK false (.int .i64)) = m36 x.1 := by kernel_rfl
theorem p36 : PmOk Try.prog e36 := pm_ok (E := E36) ok36 ord lm36 Try.func36 ca36 q36

/-! 34: consol/plan.in -/
theorem ca48 : callable Try.prog 48 := ⟨Try.f48, Try.func48, by kernel_rfl, by kernel_rfl⟩
noncomputable def E34i48 : Env := mkEnv2 Try.prog [] []
theorem ok34i48 : EnvOk (E34i48) := mkEnv2_ok (by simp) (by simp)
noncomputable def C34i48 : Cfg := noCfg
theorem lm34i48 : ∀ c, Try.f48.body = some c → LmOk (E34i48) (C34i48) Try.f48.ntmps c := fun _ _ => noCfg_lm
noncomputable def c34i48 : CmE := inl E34i48 C34i48 48 Try.f48
theorem d34i48 : CmOk Try.prog c34i48 := inl_ok (E := E34i48) ok34i48 ord lm34i48 Try.func48 ca48

theorem ca52 : callable Try.prog 52 := ⟨Try.f52, Try.func52, by kernel_rfl, by kernel_rfl⟩
noncomputable def E34i52 : Env := mkEnv2 Try.prog [] [c34i48]
theorem ok34i52 : EnvOk (E34i52) := mkEnv2_ok (by simp) (by simp only [List.mem_cons, List.not_mem_nil, or_false, forall_eq]; exact d34i48)
/-- a round of a loop of slices.IndexFunc[[]int,int] -/
noncomputable def s34_1 {R : Type} (t0 : (List Int)) (t7 : Int) (o0 : Int) (o1 : Int) (kn : Int → Option R) (k1 : Option R) (k2 : Int → Option R) (t8 : Int) : Option R :=
  bif (decide (t8 < t7)) then
    (idx t0 t8).bind fun x1 =>
    bif ((decide (x1 < o0)) || (decide (x1 > o1))) then
      k2 t8
    else
      kn (IntKind.i64.wrap (t8 + 1))
  else
    k1
noncomputable def l34_1 {R : Type} (t0 : (List Int)) (t7 : Int) (o0 : Int) (o1 : Int) (k1 : Option R) (k2 : Int → Option R) : Nat → Int → Option R
  | 0, _ => none
  | n + 1, t8 => s34_1 t0 t7 o0 o1 (l34_1 t0 t7 o0 o1 k1 k2 n) k1 k2 t8
noncomputable def L34_1 : LE := ⟨3, 2, ⟨[(0, (.dat (.sl (.int .i64)))), (1, (.fn 48 (.scons (.box 0 [] 0) (.scons (.box 1 [] 0) .snil)))), (7, (.dat (.int .i64))), (8, (.dat (.int .i64)))], [(.box (.dat (.int .i64))), (.box (.dat (.int .i64)))]⟩, fun R n x k => l34_1 x.1.1 x.1.2.2.1 x.2.1 x.2.2.1 (k (.exit 0) ⟨[], [(.box (.dat (.int .i64) x.2.1)), (.box (.dat (.int .i64) x.2.2.1))]⟩) (fun y0 => k .ret ⟨[(4, (.dat (.int .i64) y0))], [(.box (.dat (.int .i64) x.2.1)), (.box (.dat (.int .i64) x.2.2.1))]⟩) n x.1.2.2.2.1⟩
noncomputable def C34i52 : Cfg := mkCfg [(3, ⟨[0, 1, 7, 8], [], []⟩)] [(3, (⟨[], [], []⟩, ⟨[4], [], []⟩))] (([(0, L34_1)] : List (Nat × LE)).map (·.2))
theorem ek34_1 : EOk (E34i52) (C34i52) Try.f52.ntmps (bodyL Try.f52 0) (L34_1) := eok_of (e := L34_1) (fun R x Kn k => s34_1 x.1.1 x.1.2.2.1 x.2.1 x.2.2.1 (fun v0 => Kn ((x.1.1, ((), (), ()), x.1.2.2.1, v0, ()), (x.2.1, x.2.2.1, ()))) (k (.exit 0) ⟨[], [(.box (.dat (.int .i64) x.2.1)), (.box (.dat (.int .i64) x.2.2.1))]⟩) (fun y0 => k .ret ⟨[(4, (.dat (.int .i64) y0))], [(.box (.dat (.int .i64) x.2.1)), (.box (.dat (.int .i64) x.2.2.1))]⟩) x.1.2.2.2.1) (fun _ _ _ => rfl) (fun _ _ _ _ => rfl) (fun R x Kn k => by kernel_rfl)
theorem lm34i52 : ∀ c, Try.f52.body = some c → LmOk (E34i52) (C34i52) Try.f52.ntmps c := lmOk_of (ps := [(0, L34_1)]) (by kernel_rfl) (by kernel_rfl) ⟨ek34_1, trivial⟩
noncomputable def c34i52 : CmE := inl E34i52 C34i52 52 Try.f52
theorem d34i52 : CmOk Try.prog c34i52 := inl_ok (E := E34i52) ok34i52 ord lm34i52 Try.func52 ca52

theorem ca47 : callable Try.prog 47 := ⟨Try.f47, Try.func47, by kernel_rfl, by kernel_rfl⟩
noncomputable def E34i47 : Env := mkEnv2 Try.prog [] [c34i52]
theorem ok34i47 : EnvOk (E34i47) := mkEnv2_ok (by simp) (by simp only [List.mem_cons, List.not_mem_nil, or_false, forall_eq]; exact d34i52)
noncomputable def C34i47 : Cfg := noCfg
theorem lm34i47 : ∀ c, Try.f47.body = some c → LmOk (E34i47) (C34i47) Try.f47.ntmps c := fun _ _ => noCfg_lm
noncomputable def c34i47 : CmE := inl E34i47 C34i47 47 Try.f47
theorem d34i47 : CmOk Try.prog c34i47 := inl_ok (E := E34i47) ok34i47 ord lm34i47 Try.func47 ca47

theorem ca34 : callable Try.prog 34 := ⟨Try.f34, Try.func34, by kernel_rfl, by kernel_rfl⟩
noncomputable def E34 : Env := mkEnv2 Try.prog [] [c34i47]
theorem ok34 : EnvOk (E34) := mkEnv2_ok (by simp) (by simp only [List.mem_cons, List.not_mem_nil, or_false, forall_eq]; exact d34i47)
noncomputable def C34 : Cfg := noCfg
theorem lm34 : ∀ c, Try.f34.body = some c → LmOk (E34) (C34) Try.f34.ntmps c := fun _ _ => noCfg_lm
noncomputable def m34 (a0 : Int) (a1 : Int) (a2 : (List Int)) : Option (Bool) :=
  l34_1 a2 (List.length a2 : Int) a0 a1 (
      some true) (fun y2 =>
      some (!(decide (y2 ≥ 0)))) FUEL 0
noncomputable def e34 : PmE := entry 34 [(.int .i64), (.int .i64), (.sl (.int .i64))] false .bool (fun x => m34 x.1 x.2.1 x.2.2.1)
theorem q34 (x : tyL [(.int .i64), (.int .i64), (.sl (.int .i64))]) : execF E34 C34 Try.f34 (datL [(.int .i64), (.int .i64), (.sl (.int .i64))] x) [] (retK false .bool) = m34 x.1 x.2.1 x.2.2.1 := by kernel_rfl
theorem p34 : PmOk Try.prog e34 := pm_ok (E := E34) ok34 ord lm34 Try.func34 ca34 q34

/-! 16: consol/plan.Right -/
theorem ca37 : callable Try.prog 37 := ⟨Try.f37, Try.func37, by kernel_rfl, by kernel_rfl⟩
noncomputable def E16i37 : Env := mkEnv2 Try.prog [e34] []
theorem ok16i37 : EnvOk (E16i37) := mkEnv2_ok (by simp only [List.mem_cons, List.not_mem_nil, or_false, forall_eq]; exact p34) (by simp)
noncomputable def C16i37 : Cfg := noCfg
theorem lm16i37 : ∀ c, Try.f37.body = some c → LmOk (E16i37) (C16i37) Try.f37.ntmps c := fun _ _ => noCfg_lm
noncomputable def c16i37 : CmE := inl E16i37 C16i37 37 Try.f37
theorem d16i37 : CmOk Try.prog c16i37 := inl_ok (E := E16i37) ok16i37 ord lm16i37 Try.func37 ca37

theorem ca50 : callable Try.prog 50 := ⟨Try.f50, Try.func50, by kernel_rfl, by kernel_rfl⟩
noncomputable def E16i50 : Env := mkEnv2 Try.prog [] [c16i37]
theorem ok16i50 : EnvOk (E16i50) := mkEnv2_ok (by simp) (by simp only [List.mem_cons, List.not_mem_nil, or_false, forall_eq]; exact d16i37)
/-- a round of a loop of slices.IndexFunc[[]consol/api.Option,consol/api.Option] -/
noncomputable def s16_1 {R : Type} (t0 : (List T42)) (t7 : Int) (o0 : T24) (o1 : Int) (kn : Int → Option R) (k1 : Option R) (k2 : Int → Option R) (t8 : Int) : Option R :=
  bif (decide (t8 < t7)) then
    (idx t0 t8).bind fun x9 =>
    (bif (((List.length x9.1 : Int) != o1) == false) then (m34 0 1000000000000000 x9.1) else some false).bind fun r10 =>
    bif ((((List.length x9.1 : Int) != o1) || (!r10)) == false) then
      (bif ((((List.length x9.1 : Int) != o1) || (!r10)) == false) then (m34 (-1) (IntKind.i64.wrap ((List.length o0.2.1 : Int) - 1)) [x9.2.1]) else some false).bind fun r11 =>
      bif (((((List.length x9.1 : Int) != o1) || (!r10)) || (!r11)) == false) then
        (bif (((((List.length x9.1 : Int) != o1) || (!r10)) || (!r11)) == false) then (m34 0 1000000000000000 [x9.2.2.1]) else some false).bind fun r12 =>
        bif (((((List.length x9.1 : Int) != o1) || (!r10)) || (!r11)) || (!r12)) then
          k2 t8
        else
          kn (IntKind.i64.wrap (t8 + 1))
      else
        (bif (((((List.length x9.1 : Int) != o1) || (!r10)) || (!r11)) == false) then (m34 0 1000000000000000 []) else some false).bind fun r13 =>
        bif (((((List.length x9.1 : Int) != o1) || (!r10)) || (!r11)) || (!r13)) then
          k2 t8
        else
          kn (IntKind.i64.wrap (t8 + 1))
    else
      (bif ((((List.length x9.1 : Int) != o1) || (!r10)) == false) then (m34 (-1) (IntKind.i64.wrap ((List.length o0.2.1 : Int) - 1)) []) else some false).bind fun r14 =>
      bif (((((List.length x9.1 : Int) != o1) || (!r10)) || (!r14)) == false) then
        (bif (((((List.length x9.1 : Int) != o1) || (!r10)) || (!r14)) == false) then (m34 0 1000000000000000 [x9.2.2.1]) else some false).bind fun r15 =>
        bif (((((List.length x9.1 : Int) != o1) || (!r10)) || (!r14)) || (!r15)) then
          k2 t8
        else
          kn (IntKind.i64.wrap (t8 + 1))
      else
        (bif (((((List.length x9.1 : Int) != o1) || (!r10)) || (!r14)) == false) then (m34 0 1000000000000000 []) else some false).bind fun r16 =>
        bif (((((List.length x9.1 : Int) != o1) || (!r10)) || (!r14)) || (!r16)) then
          k2 t8
        else
          kn (IntKind.i64.wrap (t8 + 1))
  else
    k1
noncomputable def l16_1 {R : Type} (t0 : (List T42)) (t7 : Int) (o0 : T24) (o1 : Int) (k1 : Option R) (k2 : Int → Option R) : Nat → Int → Option R
  | 0, _ => none
  | n + 1, t8 => s16_1 t0 t7 o0 o1 (l16_1 t0 t7 o0 o1 k1 k2 n) k1 k2 t8
noncomputable def L16_1 : LE := ⟨3, 6, ⟨[(0, (.dat (.sl G42))), (1, (.fn 37 (.scons (.box 1 [] 0) (.scons (.box 0 [] 0) .snil)))), (7, (.dat (.int .i64))), (8, (.dat (.int .i64)))], [(.box (.dat G24)), (.box (.dat (.int .i64))), .dead, .dead, .dead, .dead]⟩, fun R n x k => l16_1 x.1.1 x.1.2.2.1 x.2.1 x.2.2.1 (k (.exit 0) ⟨[], [(.box (.dat G24 x.2.1)), (.box (.dat (.int .i64) x.2.2.1)), .dead, .dead, .dead, .dead]⟩) (fun y0 => k .ret ⟨[(4, (.dat (.int .i64) y0))], [(.box (.dat G24 x.2.1)), (.box (.dat (.int .i64) x.2.2.1)), .dead, .dead, .dead, .dead]⟩) n x.1.2.2.2.1⟩
/-- a round of a loop of slices.IndexFunc[[]consol/api.Option,consol/api.Option] -/
noncomputable def s16_3 {R : Type} (t0 : (List T42)) (t7 : Int) (o0 : T24) (o1 : Int) (kn : Int → Option R) (k1 : Option R) (k2 : Int → Option R) (t8 : Int) : Option R :=
  bif (decide (t8 < t7)) then
    (idx t0 t8).bind fun x21 =>
    (bif (((List.length x21.1 : Int) != o1) == false) then (m34 0 1000000000000000 x21.1) else some false).bind fun r22 =>
    bif ((((List.length x21.1 : Int) != o1) || (!r22)) == false) then
      (bif ((((List.length x21.1 : Int) != o1) || (!r22)) == false) then (m34 (-1) (IntKind.i64.wrap ((List.length o0.2.1 : Int) - 1)) [x21.2.1]) else some false).bind fun r23 =>
      bif (((((List.length x21.1 : Int) != o1) || (!r22)) || (!r23)) == false) then
        (bif (((((List.length x21.1 : Int) != o1) || (!r22)) || (!r23)) == false) then (m34 0 1000000000000000 [x21.2.2.1]) else some false).bind fun r24 =>
        bif (((((List.length x21.1 : Int) != o1) || (!r22)) || (!r23)) || (!r24)) then
          k2 t8
        else
          kn (IntKind.i64.wrap (t8 + 1))
      else
        (bif (((((List.length x21.1 : Int) != o1) || (!r22)) || (!r23)) == false) then (m34 0 1000000000000000 []) else some false).bind fun r25 =>
        bif (((((List.length x21.1 : Int) != o1) || (!r22)) || (!r23)) || (!r25)) then
          k2 t8
        else
          kn (IntKind.i64.wrap (t8 + 1))
    else
      (bif ((((List.length x21.1 : Int) != o1) || (!r22)) == false) then (m34 (-1) (IntKind.i64.wrap ((List.length o0.2.1 : Int) - 1)) []) else some false).bind fun r26 =>
      bif (((((List.length x21.1 : Int) != o1) || (!r22)) || (!r26)) == false) then
        (bif (((((List.length x21.1 : Int) != o1) || (!r22)) || (!r26)) == false) then (m34 0 1000000000000000 [x21.2.2.1]) else some false).bind fun r27 =>
        bif (((((List.length x21.1 : Int) != o1) || (!r22)) || (!r26)) || (!r27)) then
          k2 t8
        else
          kn (IntKind.i64.wrap (t8 + 1))
      else
        (bif (((((List.length x21.1 : Int) != o1) || (!r22)) || (!r26)) == false) then (m34 0 1000000000000000 []) else some false).bind fun r28 =>
        bif (((((List.length x21.1 : Int) != o1) || (!r22)) || (!r26)) || (!r28)) then
          k2 t8
        else
          kn (IntKind.i64.wrap (t8 + 1))
  else
    k1
noncomputable def l16_3 {R : Type} (t0 : (List T42)) (t7 : Int) (o0 : T24) (o1 : Int) (k1 : Option R) (k2 : Int → Option R) : Nat → Int → Option R
  | 0, _ => none
  | n + 1, t8 => s16_3 t0 t7 o0 o1 (l16_3 t0 t7 o0 o1 k1 k2 n) k1 k2 t8
noncomputable def L16_3 : LE := ⟨3, 5, ⟨[(0, (.dat (.sl G42))), (1, (.fn 37 (.scons (.box 1 [] 0) (.scons (.box 0 [] 0) .snil)))), (7, (.dat (.int .i64))), (8, (.dat (.int .i64)))], [(.box (.dat G24)), (.box (.dat (.int .i64))), .dead, .dead, .dead]⟩, fun R n x k => l16_3 x.1.1 x.1.2.2.1 x.2.1 x.2.2.1 (k (.exit 0) ⟨[], [(.box (.dat G24 x.2.1)), (.box (.dat (.int .i64) x.2.2.1)), .dead, .dead, .dead]⟩) (fun y0 => k .ret ⟨[(4, (.dat (.int .i64) y0))], [(.box (.dat G24 x.2.1)), (.box (.dat (.int .i64) x.2.2.1)), .dead, .dead, .dead]⟩) n x.1.2.2.2.1⟩
noncomputable def C16i50 : Cfg := mkCfg [(3, ⟨[0, 1, 7, 8], [], []⟩)] [(3, (⟨[], [], []⟩, ⟨[4], [], []⟩))] (([(0, L16_1), (0, L16_3)] : List (Nat × LE)).map (·.2))
theorem ek16_1 : EOk (E16i50) (C16i50) Try.f50.ntmps (bodyL Try.f50 0) (L16_1) := eok_of (e := L16_1) (fun R x Kn k => s16_1 x.1.1 x.1.2.2.1 x.2.1 x.2.2.1 (fun v0 => Kn ((x.1.1, ((), (), ()), x.1.2.2.1, v0, ()), (x.2.1, x.2.2.1, (), (), (), (), ()))) (k (.exit 0) ⟨[], [(.box (.dat G24 x.2.1)), (.box (.dat (.int .i64) x.2.2.1)), .dead, .dead, .dead, .dead]⟩) (fun y0 => k .ret ⟨[(4, (.dat (.int .i64) y0))], [(.box (.dat G24 x.2.1)), (.box (.dat (.int .i64) x.2.2.1)), .dead, .dead, .dead, .dead]⟩) x.1.2.2.2.1) (fun _ _ _ => rfl) (fun _ _ _ _ => rfl) (fun R x Kn k => by kernel_rfl)
theorem ek16_3 : EOk (E16i50) (C16i50) Try.f50.ntmps (bodyL Try.f50 0) (L16_3) := eok_of (e := L16_3) (fun R x Kn k => s16_3 x.1.1 x.1.2.2.1 x.2.1 x.2.2.1 (fun v0 => Kn ((x.1.1, ((), (), ()), x.1.2.2.1, v0, ()), (x.2.1, x.2.2.1, (), (), (), ()))) (k (.exit 0) ⟨[], [(.box (.dat G24 x.2.1)), (.box (.dat (.int .i64) x.2.2.1)), .dead, .dead, .dead]⟩) (fun y0 => k .ret ⟨[(4, (.dat (.int .i64) y0))], [(.box (.dat G24 x.2.1)), (.box (.dat (.int .i64) x.2.2.1)), .dead, .dead, .dead]⟩) x.1.2.2.2.1) (fun _ _ _ => rfl) (fun _ _ _ _ => rfl) (fun R x Kn k => by kernel_rfl)
theorem lm16i50 : ∀ c, Try.f50.body = some c → LmOk (E16i50) (C16i50) Try.f50.ntmps c := lmOk_of (ps := [(0, L16_1), (0, L16_3)]) (by kernel_rfl) (by kernel_rfl) ⟨ek16_1, ek16_3, trivial⟩
noncomputable def c16i50 : CmE := inl E16i50 C16i50 50 Try.f50
theorem d16i50 : CmOk Try.prog c16i50 := inl_ok (E := E16i50) ok16i50 ord lm16i50 Try.func50 ca50

theorem ca40 : callable Try.prog 40 := ⟨Try.f40, Try.func40, by kernel_rfl, by kernel_rfl⟩
noncomputable def E16i40 : Env := mkEnv2 Try.prog [] [c16i50]
theorem ok16i40 : EnvOk (E16i40) := mkEnv2_ok (by simp) (by simp only [List.mem_cons, List.not_mem_nil, or_false, forall_eq]; exact d16i50)
noncomputable def C16i40 : Cfg := noCfg
theorem lm16i40 : ∀ c, Try.f40.body = some c → LmOk (E16i40) (C16i40) Try.f40.ntmps c := fun _ _ => noCfg_lm
noncomputable def c16i40 : CmE := inl E16i40 C16i40 40 Try.f40
theorem d16i40 : CmOk Try.prog c16i40 := inl_ok (E := E16i40) ok16i40 ord lm16i40 Try.func40 ca40

theorem ca39 : callable Try.prog 39 := ⟨Try.f39, Try.func39, by kernel_rfl, by kernel_rfl⟩
noncomputable def E16i39 : Env := mkEnv2 Try.prog [e34] [c16i40]
theorem ok16i39 : EnvOk (E16i39) := mkEnv2_ok (by simp only [List.mem_cons, List.not_mem_nil, or_false, forall_eq]; exact p34) (by simp only [List.mem_cons, List.not_mem_nil, or_false, forall_eq]; exact d16i40)
noncomputable def C16i39 : Cfg := noCfg
theorem lm16i39 : ∀ c, Try.f39.body = some c → LmOk (E16i39) (C16i39) Try.f39.ntmps c := fun _ _ => noCfg_lm
noncomputable def c16i39 : CmE := inl E16i39 C16i39 39 Try.f39
theorem d16i39 : CmOk Try.prog c16i39 := inl_ok (E := E16i39) ok16i39 ord lm16i39 Try.func39 ca39

theorem ca49 : callable Try.prog 49 := ⟨Try.f49, Try.func49, by kernel_rfl, by kernel_rfl⟩
noncomputable def E16i49 : Env := mkEnv2 Try.prog [] [c16i39]
theorem ok16i49 : EnvOk (E16i49) := mkEnv2_ok (by simp) (by simp only [List.mem_cons, List.not_mem_nil, or_false, forall_eq]; exact d16i39)
/-- a round of a loop of slices.IndexFunc[[][]consol/api.Option,[]consol/api.Option] -/
noncomputable def s16_2 {R : Type} (t0 : (List (List T42))) (t7 : Int) (o0 : T24) (o1 : Int) (kn : Int → Option R) (k1 : Option R) (k2 : Int → Option R) (t8 : Int) : Option R :=
  bif (decide (t8 < t7)) then
    (idx t0 t8).bind fun x7 =>
    (m34 1 6 [(List.length x7 : Int)]).bind fun r8 =>
    bif ((!r8) == false) then
      l16_1 x7 (List.length x7 : Int) o0 o1 (
          bif (bif (!r8) then true else false) then
            k2 t8
          else
            kn (IntKind.i64.wrap (t8 + 1))) (fun y17 =>
          bif ((!r8) || (decide (y17 ≥ 0))) then
            k2 t8
          else
            kn (IntKind.i64.wrap (t8 + 1))) FUEL 0
    else
      bif (bif (!r8) then true else false) then
        k2 t8
      else
        kn (IntKind.i64.wrap (t8 + 1))
  else
    k1
noncomputable def l16_2 {R : Type} (t0 : (List (List T42))) (t7 : Int) (o0 : T24) (o1 : Int) (k1 : Option R) (k2 : Int → Option R) : Nat → Int → Option R
  | 0, _ => none
  | n + 1, t8 => s16_2 t0 t7 o0 o1 (l16_2 t0 t7 o0 o1 k1 k2 n) k1 k2 t8
noncomputable def L16_2 : LE := ⟨3, 5, ⟨[(0, (.dat (.sl (.sl G42)))), (1, (.fn 39 (.scons (.box 4 [] 0) .snil))), (7, (.dat (.int .i64))), (8, (.dat (.int .i64)))], [(.box (.dat G24)), (.box (.dat (.int .i64))), .dead, .dead, (.box (.fn 37 (.scons (.box 1 [] 0) (.scons (.box 0 [] 0) .snil))))]⟩, fun R n x k => l16_2 x.1.1 x.1.2.2.1 x.2.1 x.2.2.1 (k (.exit 0) ⟨[], [(.box (.dat G24 x.2.1)), (.box (.dat (.int .i64) x.2.2.1)), .dead, .dead, (.box (.fn 37 (.scons (.box 1 [] 0) (.scons (.box 0 [] 0) .snil))))]⟩) (fun y0 => k .ret ⟨[(4, (.dat (.int .i64) y0))], [(.box (.dat G24 x.2.1)), (.box (.dat (.int .i64) x.2.2.1)), .dead, .dead, (.box (.fn 37 (.scons (.box 1 [] 0) (.scons (.box 0 [] 0) .snil))))]⟩) n x.1.2.2.2.1⟩
/-- a round of a loop of slices.IndexFunc[[][]consol/api.Option,[]consol/api.Option] -/
noncomputable def s16_4 {R : Type} (t0 : (List (List T42))) (t7 : Int) (o0 : T24) (o1 : Int) (kn : Int → Option R) (k1 : Option R) (k2 : Int → Option R) (t8 : Int) : Option R :=
  bif (decide (t8 < t7)) then
    (idx t0 t8).bind fun x19 =>
    (m34 1 6 [(List.length x19 : Int)]).bind fun r20 =>
    bif ((!r20) == false) then
      l16_3 x19 (List.length x19 : Int) o0 o1 (
          bif (bif (!r20) then true else false) then
            k2 t8
          else
            kn (IntKind.i64.wrap (t8 + 1))) (fun y29 =>
          bif ((!r20) || (decide (y29 ≥ 0))) then
            k2 t8
          else
            kn (IntKind.i64.wrap (t8 + 1))) FUEL 0
    else
      bif (bif (!r20) then true else false) then
        k2 t8
      else
        kn (IntKind.i64.wrap (t8 + 1))
  else
    k1
noncomputable def l16_4 {R : Type} (t0 : (List (List T42))) (t7 : Int) (o0 : T24) (o1 : Int) (k1 : Option R) (k2 : Int → Option R) : Nat → Int → Option R
  | 0, _ => none
  | n + 1, t8 => s16_4 t0 t7 o0 o1 (l16_4 t0 t7 o0 o1 k1 k2 n) k1 k2 t8
noncomputable def L16_4 : LE := ⟨3, 4, ⟨[(0, (.dat (.sl (.sl G42)))), (1, (.fn 39 (.scons (.box 3 [] 0) .snil))), (7, (.dat (.int .i64))), (8, (.dat (.int .i64)))], [(.box (.dat G24)), (.box (.dat (.int .i64))), .dead, (.box (.fn 37 (.scons (.box 1 [] 0) (.scons (.box 0 [] 0) .snil))))]⟩, fun R n x k => l16_4 x.1.1 x.1.2.2.1 x.2.1 x.2.2.1 (k (.exit 0) ⟨[], [(.box (.dat G24 x.2.1)), (.box (.dat (.int .i64) x.2.2.1)), .dead, (.box (.fn 37 (.scons (.box 1 [] 0) (.scons (.box 0 [] 0) .snil))))]⟩) (fun y0 => k .ret ⟨[(4, (.dat (.int .i64) y0))], [(.box (.dat G24 x.2.1)), (.box (.dat (.int .i64) x.2.2.1)), .dead, (.box (.fn 37 (.scons (.box 1 [] 0) (.scons (.box 0 [] 0) .snil))))]⟩) n x.1.2.2.2.1⟩
noncomputable def C16i49 : Cfg := mkCfg [(3, ⟨[0, 1, 7, 8], [], []⟩)] [(3, (⟨[], [], []⟩, ⟨[4], [], []⟩))] (([(0, L16_2), (0, L16_4)] : List (Nat × LE)).map (·.2))
theorem ek16_2 : EOk (E16i49) (C16i49) Try.f49.ntmps (bodyL Try.f49 0) (L16_2) := eok_of (e := L16_2) (fun R x Kn k => s16_2 x.1.1 x.1.2.2.1 x.2.1 x.2.2.1 (fun v0 => Kn ((x.1.1, ((), ()), x.1.2.2.1, v0, ()), (x.2.1, x.2.2.1, (), (), ((), (), ()), ()))) (k (.exit 0) ⟨[], [(.box (.dat G24 x.2.1)), (.box (.dat (.int .i64) x.2.2.1)), .dead, .dead, (.box (.fn 37 (.scons (.box 1 [] 0) (.scons (.box 0 [] 0) .snil))))]⟩) (fun y0 => k .ret ⟨[(4, (.dat (.int .i64) y0))], [(.box (.dat G24 x.2.1)), (.box (.dat (.int .i64) x.2.2.1)), .dead, .dead, (.box (.fn 37 (.scons (.box 1 [] 0) (.scons (.box 0 [] 0) .snil))))]⟩) x.1.2.2.2.1) (fun _ _ _ => rfl) (fun _ _ _ _ => rfl) (fun R x Kn k => by kernel_rfl)
theorem ek16_4 : EOk (E16i49) (C16i49) Try.f49.ntmps (bodyL Try.f49 0) (L16_4) := eok_of (e := L16_4) (fun R x Kn k => s16_4 x.1.1 x.1.2.2.1 x.2.1 x.2.2.1 (fun v0 => Kn ((x.1.1, ((), ()), x.1.2.2.1, v0, ()), (x.2.1, x.2.2.1, (), ((), (), ()), ()))) (k (.exit 0) ⟨[], [(.box (.dat G24 x.2.1)), (.box (.dat (.int .i64) x.2.2.1)), .dead, (.box (.fn 37 (.scons (.box 1 [] 0) (.scons (.box 0 [] 0) .snil))))]⟩) (fun y0 => k .ret ⟨[(4, (.dat (.int .i64) y0))], [(.box (.dat G24 x.2.1)), (.box (.dat (.int .i64) x.2.2.1)), .dead, (.box (.fn 37 (.scons (.box 1 [] 0) (.scons (.box 0 [] 0) .snil))))]⟩) x.1.2.2.2.1) (fun _ _ _ => rfl) (fun _ _ _ _ => rfl) (fun R x Kn k => by kernel_rfl)
theorem lm16i49 : ∀ c, Try.f49.body = some c → LmOk (E16i49) (C16i49) Try.f49.ntmps c := lmOk_of (ps := [(0, L16_2), (0, L16_4)]) (by kernel_rfl) (by kernel_rfl) ⟨ek16_2, ek16_4, trivial⟩
noncomputable def c16i49 : CmE := inl E16i49 C16i49 49 Try.f49
theorem d16i49 : CmOk Try.prog c16i49 := inl_ok (E := E16i49) ok16i49 ord lm16i49 Try.func49 ca49

theorem ca38 : callable Try.prog 38 := ⟨Try.f38, Try.func38, by kernel_rfl, by kernel_rfl⟩
noncomputable def E16i38 : Env := mkEnv2 Try.prog [] [c16i49]
theorem ok16i38 : EnvOk (E16i38) := mkEnv2_ok (by simp) (by simp only [List.mem_cons, List.not_mem_nil, or_false, forall_eq]; exact d16i49)
noncomputable def C16i38 : Cfg := noCfg
theorem lm16i38 : ∀ c, Try.f38.body = some c → LmOk (E16i38) (C16i38) Try.f38.ntmps c := fun _ _ => noCfg_lm
noncomputable def c16i38 : CmE := inl E16i38 C16i38 38 Try.f38
theorem d16i38 : CmOk Try.prog c16i38 := inl_ok (E := E16i38) ok16i38 ord lm16i38 Try.func38 ca38

theorem ca16 : callable Try.prog 16 := ⟨Try.f16, Try.func16, by kernel_rfl, by kernel_rfl⟩
noncomputable def E16 : Env := mkEnv2 Try.prog [e34, e36] [c16i38]
theorem ok16 : EnvOk (E16) := mkEnv2_ok (by simp only [List.mem_cons, List.not_mem_nil, or_false, forall_eq_or_imp, forall_eq]; exact ⟨p34, p36⟩) (by simp only [List.mem_cons, List.not_mem_nil, or_false, forall_eq]; exact d16i38)
noncomputable def C16 : Cfg := noCfg
theorem lm16 : ∀ c, Try.f16.body = some c → LmOk (E16) (C16) Try.f16.ntmps c := fun _ _ => noCfg_lm
noncomputable def m16 (a0 : T24) : Option (Bool) :=
  (m36 a0).bind fun r1 =>
  (m34 1 40 [(List.length a0.1 : Int)]).bind fun r2 =>
  bif ((!r2) == false) then
    (bif ((!r2) == false) then (m34 1 10 [r1]) else some false).bind fun r3 =>
    (bif ((((!r2) || (!r3)) || (decide ((List.length a0.2.1 : Int) > 60))) == false) then (m34 0 1000000000000000 a0.2.1) else some false).bind fun r4 =>
    bif ((((!r2) || (!r3)) || (decide ((List.length a0.2.1 : Int) > 60))) || (!r4)) then
      some false
    else
      l16_2 a0.1 (List.length a0.1 : Int) a0 r1 (
          some true) (fun y18 =>
          some (!(decide (y18 ≥ 0)))) FUEL 0
  else
    (bif ((!r2) == false) then (m34 1 10 []) else some false).bind fun r5 =>
    (bif ((((!r2) || (!r5)) || (decide ((List.length a0.2.1 : Int) > 60))) == false) then (m34 0 1000000000000000 a0.2.1) else some false).bind fun r6 =>
    bif ((((!r2) || (!r5)) || (decide ((List.length a0.2.1 : Int) > 60))) || (!r6)) then
      some false
    else
      l16_4 a0.1 (List.length a0.1 : Int) a0 r1 (
          some true) (fun y30 =>
          some (!(decide (y30 ≥ 0)))) FUEL 0
noncomputable def e16 : PmE := entry 16 [G24] false .bool (fun x => m16 x.1)
theorem q16 (x : tyL [G24]) : execF E16 C16 Try.f16 (datL [G24] x) [] (retK false .bool) = m16 x.1 := by kernel_rfl
theorem p16 : PmOk Try.prog e16 := pm_ok (E := E16) ok16 ord lm16 Try.func16 ca16 q16

theorem ca29 : callable Try.prog 29 := ⟨Try.f29, Try.func29, by kernel_rfl, by kernel_rfl⟩
/-! 29: slices.Clone[[]int,int] -/
noncomputable def c29 : CmE := ownE 29 [(.sl (.int .i64))] (.int .i64) (fun x => cloneM x.1)
theorem d29 : CmOk Try.prog c29 := own_ok ca29 (clone_run (g := (.int .i64)) ord Try.func29 Try.underlying23 rfl (by kernel_rfl) (fun _ => by kernel_rfl) (by kernel_rfl) (fun _ => by kernel_rfl))

/-! 27: (*consol/plan.state).over -/
theorem ca27 : callable Try.prog 27 := ⟨Try.f27, Try.func27, by kernel_rfl, by kernel_rfl⟩
noncomputable def E27 : Env := mkEnv2 Try.prog [] []
theorem ok27 : EnvOk (E27) := mkEnv2_ok (by simp) (by simp)
/-- a round of a loop of (*consol/plan.state).over -/
noncomputable def s27_1 {R : Type} (t0 : T72) (t8 : (List Int)) (t9 : Int) (kn : Int → Option R) (k1 : Option R) (k2 : Int → Option R) (t10 : Int) : Option R :=
  bif (decide (t10 < t9)) then
    (idx t8 t10).bind fun x1 =>
    (idx t0.1.2.1 t10).bind fun x2 =>
    bif (decide (x1 > x2)) then
      k2 t10
    else
      kn (IntKind.i64.wrap (t10 + 1))
  else
    k1
noncomputable def l27_1 {R : Type} (t0 : T72) (t8 : (List Int)) (t9 : Int) (k1 : Option R) (k2 : Int → Option R) : Nat → Int → Option R
  | 0, _ => none
  | n + 1, t10 => s27_1 t0 t8 t9 (l27_1 t0 t8 t9 k1 k2 n) k1 k2 t10
noncomputable def L27_1 : LE := ⟨3, 0, ⟨[(0, (.rd G72)), (8, (.dat (.sl (.int .i64)))), (9, (.dat (.int .i64))), (10, (.dat (.int .i64)))], []⟩, fun R n x k => l27_1 x.1.1 x.1.2.1 x.1.2.2.1 (k (.exit 0) ⟨[], []⟩) (fun y0 => k .ret ⟨[(2, (.dat (.int .i64) y0))], []⟩) n x.1.2.2.2.1⟩
noncomputable def C27 : Cfg := mkCfg [(3, ⟨[0, 8, 9, 10], [], []⟩)] [(3, (⟨[], [], []⟩, ⟨[2], [], []⟩))] (([(0, L27_1)] : List (Nat × LE)).map (·.2))
theorem ek27_1 : EOk (E27) (C27) Try.f27.ntmps (bodyL Try.f27 0) (L27_1) := eok_of (e := L27_1) (fun R x Kn k => s27_1 x.1.1 x.1.2.1 x.1.2.2.1 (fun v0 => Kn ((x.1.1, x.1.2.1, x.1.2.2.1, v0, ()), (()))) (k (.exit 0) ⟨[], []⟩) (fun y0 => k .ret ⟨[(2, (.dat (.int .i64) y0))], []⟩) x.1.2.2.2.1) (fun _ _ _ => rfl) (fun _ _ _ _ => rfl) (fun R x Kn k => by kernel_rfl)
theorem lm27 : ∀ c, Try.f27.body = some c → LmOk (E27) (C27) Try.f27.ntmps c := lmOk_of (ps := [(0, L27_1)]) (by kernel_rfl) (by kernel_rfl) ⟨ek27_1, trivial⟩
noncomputable def m27 (a0 : T72) : Option (Int) :=
  l27_1 a0 a0.2.2.2.1 (List.length a0.2.2.2.1 : Int) (
      some (-1)) (fun y3 =>
      some y3) FUEL 0
noncomputable def e27 : PmE := entryP 27 [true] [G72] false (.int .i64) (fun x => m27 x.1)
theorem q27 (x : tyL [G72]) : execF E27 C27 Try.f27 (datP [true] [G72] x) [] (retK false (.int .i64)) = m27 x.1 := by kernel_rfl
theorem p27 : PmOk Try.prog e27 := pmP_ok (E := E27) ok27 ord lm27 Try.func27 ca27 q27

/-! 46: slices.Max[[]int,int] -/
theorem ca46 : callable Try.prog 46 := ⟨Try.f46, Try.func46, by kernel_rfl, by kernel_rfl⟩
noncomputable def E46 : Env := mkEnv2 Try.prog [] []
theorem ok46 : EnvOk (E46) := mkEnv2_ok (by simp) (by simp)
/-- a round of a loop of slices.Max[[]int,int] -/
noncomputable def s46_1 {R : Type} (t0 : (List Int)) (kn : Int → Int → Option R) (k1 : Int → Option R) (t3 : Int) (t4 : Int) : Option R :=
  bif (decide (t4 < (List.length t0 : Int))) then
    (idx t0 t4).bind fun x2 =>
    kn (bif decide (x2 > t3) then x2 else t3) (IntKind.i64.wrap (t4 + 1))
  else
    k1 t3
noncomputable def l46_1 {R : Type} (t0 : (List Int)) (k1 : Int → Option R) : Nat → Int → Int → Option R
  | 0, _, _ => none
  | n + 1, t3, t4 => s46_1 t0 (l46_1 t0 k1 n) k1 t3 t4
noncomputable def L46_1 : LE := ⟨6, 0, ⟨[(0, (.dat (.sl (.int .i64)))), (3, (.dat (.int .i64))), (4, (.dat (.int .i64)))], []⟩, fun R n x k => l46_1 x.1.1 (fun y0 => k (.exit 0) ⟨[(3, (.dat (.int .i64) y0))], []⟩) n x.1.2.1 x.1.2.2.1⟩
noncomputable def C46 : Cfg := mkCfg [(4, ⟨[0], [], []⟩), (6, ⟨[0, 3, 4], [], []⟩)] [(6, (⟨[3], [], []⟩, ⟨[2], [], []⟩))] (([(0, L46_1)] : List (Nat × LE)).map (·.2))
theorem ek46_1 : EOk (E46) (C46) Try.f46.ntmps (bodyL Try.f46 0) (L46_1) := eok_of (e := L46_1) (fun R x Kn k => s46_1 x.1.1 (fun v0 v1 => Kn ((x.1.1, v0, v1, ()), (()))) (fun y0 => k (.exit 0) ⟨[(3, (.dat (.int .i64) y0))], []⟩) x.1.2.1 x.1.2.2.1) (fun _ _ _ => rfl) (fun _ _ _ _ => rfl) (fun R x Kn k => by kernel_rfl)
theorem lm46 : ∀ c, Try.f46.body = some c → LmOk (E46) (C46) Try.f46.ntmps c := lmOk_of (ps := [(0, L46_1)]) (by kernel_rfl) (by kernel_rfl) ⟨ek46_1, trivial⟩
noncomputable def m46 (a0 : (List Int)) : Option (Int) :=
  bif (decide ((List.length a0 : Int) < 1)) then
    none
  else
    (idx a0 0).bind fun x1 =>
    l46_1 a0 (fun y3 =>
        some y3) FUEL x1 1
noncomputable def e46 : PmE := entry 46 [(.sl (.int .i64))] false (.int .i64) (fun x => m46 x.1)
theorem q46 (x : tyL [(.sl (.int .i64))]) : execF E46 C46 Try.f46 (datL [(.sl (.int .i64))] x) [] (retK false (.int .i64)) = m46 x.1 := by kernel_rfl
theorem p46 : PmOk Try.prog e46 := pm_ok (E := E46) ok46 ord lm46 Try.func46 ca46 q46

/-! 28: (*consol/plan.state).floor -/
theorem ca28 : callable Try.prog 28 := ⟨Try.f28, Try.func28, by kernel_rfl, by kernel_rfl⟩
noncomputable def E28 : Env := mkEnv2 Try.prog [e46] []
theorem ok28 : EnvOk (E28) := mkEnv2_ok (by simp only [List.mem_cons, List.not_mem_nil, or_false, forall_eq]; exact p46) (by simp)
noncomputable def C28 : Cfg := noCfg
theorem lm28 : ∀ c, Try.f28.body = some c → LmOk (E28) (C28) Try.f28.ntmps c := fun _ _ => noCfg_lm
noncomputable def m28 (a0 : T72) : Option (Int) :=
  (m46 a0.2.2.1).bind fun r1 =>
  some r1
noncomputable def e28 : PmE := entryP 28 [true] [G72] false (.int .i64) (fun x => m28 x.1)
theorem q28 (x : tyL [G72]) : execF E28 C28 Try.f28 (datP [true] [G72] x) [] (retK false (.int .i64)) = m28 x.1 := by kernel_rfl
theorem p28 : PmOk Try.prog e28 := pmP_ok (E := E28) ok28 ord lm28 Try.func28 ca28 q28

/-! 26: consol/plan.Best$1 -/
theorem ca26 : callable Try.prog 26 := ⟨Try.f26, Try.func26, by kernel_rfl, by kernel_rfl⟩
def F26i : ShS := ⟨[(0, (.box 0 [] 0)), (1, (.box 1 [] 0)), (2, (.box 2 [] 0)), (3, (.box 3 [] 0)), (4, (.box 4 [] 0)), (5, (.box 5 [] 0)), (6, (.box 6 [] 0))], [(.box (.dat (.int .i64))), (.box (.box 7 [] 0)), (.box (.nsl (.int .i64))), (.box (.dat (.int .i64))), (.box (.own 8)), (.box (.dat G24)), (.box (.fn 26 (.scons (.box 0 [] 0) (.scons (.box 1 [] 0) (.scons (.box 2 [] 0) (.scons (.box 3 [] 0) (.scons (.box 4 [] 0) (.scons (.box 5 [] 0) (.scons (.box 6 [] 0) .snil))))))))), (.box (.agg (.scons (.dat G24) (.scons (.dat (.sl (.sl (.int .i64)))) (.scons (.own 9) (.scons (.own 10) .snil)))))), (.arr (.int .i64)), (.arr (.int .i64)), (.arr (.int .i64))]⟩
def F26o : ShS := ⟨[(0, (.tup .snil))], [(.box (.dat (.int .i64))), (.box (.box 7 [] 0)), (.box (.nsl (.int .i64))), (.box (.dat (.int .i64))), (.box (.own 11)), (.box (.dat G24)), (.box (.fn 26 (.scons (.box 0 [] 0) (.scons (.box 1 [] 0) (.scons (.box 2 [] 0) (.scons (.box 3 [] 0) (.scons (.box 4 [] 0) (.scons (.box 5 [] 0) (.scons (.box 6 [] 0) .snil))))))))), (.box (.agg (.scons (.dat G24) (.scons (.dat (.sl (.sl (.int .i64)))) (.scons (.own 9) (.scons (.own 10) .snil)))))), .dead, (.arr (.int .i64)), (.arr (.int .i64)), (.arr (.int .i64))]⟩
noncomputable def cS26 (mr : Int → (List Int) → Int → T24 → T24 → (List (List Int)) → (List Int) → (List Int) → (List Int) → Option F26o.ty) : CmE := stE 26 [(2, [], (.cons (.sl (.int .i64)) .opq))] [(4, [], (.int .i64))] F26i F26o (fun x => mr x.2.1 x.2.2.2.1 x.2.2.2.2.1 x.2.2.2.2.2.2.1 x.2.2.2.2.2.2.2.2.1.1 x.2.2.2.2.2.2.2.2.1.2.1 x.2.2.2.2.2.2.2.2.2.1 x.2.2.2.2.2.2.2.2.2.2.1 x.2.2.2.2.2.2.2.2.2.2.2.1)
theorem ca30 : callable Try.prog 30 := ⟨Try.f30, Try.func30, by kernel_rfl, by kernel_rfl⟩
noncomputable def E26i30 : Env := mkEnv2 Try.prog [] []
theorem ok26i30 : EnvOk (E26i30) := mkEnv2_ok (by simp) (by simp)
/-- a round of a loop of (*consol/plan.state).step -/
noncomputable def s26_1 {R : Type} (t1 : Int) (t3 : Int) (t23 : (List Int)) (t24 : Int) (o7_2 : (List (List Int))) (kn : Int → (List Int) → Option R) (k1 : (List Int) → Option R) (t25 : Int) (o9 : (List Int)) : Option R :=
  bif (decide (t25 < t24)) then
    (idx t23 t25).bind fun x8 =>
    asrt true (decide (0 ≤ t25) && decide (t25 < (List.length o9 : Int))) (
      ((o9)[(t25 : Int).toNat]?).bind fun x9 =>
      (idx o7_2 t1).bind fun x10 =>
      (idx x10 t25).bind fun x11 =>
      asrt true (decide (0 ≤ t25) && decide (t25 < (List.length o9 : Int))) (
        ((o9)[(t25 : Int).toNat]?).bind fun x12 =>
        kn (IntKind.i64.wrap (t25 + 1)) (List.set o9 (t25 : Int).toNat (IntKind.i64.wrap (x9 + (IntKind.i64.wrap (t3 * (IntKind.i64.wrap (x8 - x11)))))))))
  else
    k1 o9
noncomputable def l26_1 {R : Type} (t1 : Int) (t3 : Int) (t23 : (List Int)) (t24 : Int) (o7_2 : (List (List Int))) (k1 : (List Int) → Option R) : Nat → Int → (List Int) → Option R
  | 0, _, _ => none
  | n + 1, t25, o9 => s26_1 t1 t3 t23 t24 o7_2 (l26_1 t1 t3 t23 t24 o7_2 k1 n) k1 t25 o9
noncomputable def L26_1 : LE := ⟨3, 14, ⟨[(0, (.box 7 [] 0)), (1, (.dat (.int .i64))), (3, (.dat (.int .i64))), (8, (.box 14 [] 0)), (23, (.dat (.sl (.int .i64)))), (24, (.dat (.int .i64))), (25, (.dat (.int .i64)))], [.dead, .dead, .dead, .dead, .dead, .dead, .dead, (.box (.agg (.scons (.dat G24) (.scons (.dat (.sl (.sl (.int .i64)))) (.scons (.own 9) (.scons (.own 10) .snil)))))), .dead, (.arr (.int .i64)), (.arr (.int .i64)), .dead, .dead, .dead, (.box (.dat G42))]⟩, fun R n x k => l26_1 x.1.2.1 x.1.2.2.1 x.1.2.2.2.2.1 x.1.2.2.2.2.2.1 x.2.2.2.2.2.2.2.2.1.2.1 (fun y0 => k (.exit 0) ⟨[(0, (.box 7 [] 0)), (3, (.dat (.int .i64) x.1.2.2.1)), (8, (.box 14 [] 0))], [.dead, .dead, .dead, .dead, .dead, .dead, .dead, (.box (.agg (.scons (.dat G24 x.2.2.2.2.2.2.2.2.1.1) (.scons (.dat (.sl (.sl (.int .i64))) x.2.2.2.2.2.2.2.2.1.2.1) (.scons (.own 9) (.scons (.own 10) .snil)))))), .dead, (.arr (.int .i64) y0), (.arr (.int .i64) x.2.2.2.2.2.2.2.2.2.2.2.1), .dead, .dead, .dead, (.box (.dat G42 x.2.2.2.2.2.2.2.2.2.2.2.2.2.2.2.1))]⟩) n x.1.2.2.2.2.2.2.1 x.2.2.2.2.2.2.2.2.2.2.1⟩
/-- a round of a loop of (*consol/plan.state).step -/
noncomputable def s26_2 {R : Type} (t1 : Int) (t3 : Int) (t23 : (List Int)) (t24 : Int) (o7_2 : (List (List Int))) (kn : Int → (List Int) → Option R) (k1 : (List Int) → Option R) (t25 : Int) (o9 : (List Int)) : Option R :=
  bif (decide (t25 < t24)) then
    (idx t23 t25).bind fun x19 =>
    asrt true (decide (0 ≤ t25) && decide (t25 < (List.length o9 : Int))) (
      ((o9)[(t25 : Int).toNat]?).bind fun x20 =>
      (idx o7_2 t1).bind fun x21 =>
      (idx x21 t25).bind fun x22 =>
      asrt true (decide (0 ≤ t25) && decide (t25 < (List.length o9 : Int))) (
        ((o9)[(t25 : Int).toNat]?).bind fun x23 =>
        kn (IntKind.i64.wrap (t25 + 1)) (List.set o9 (t25 : Int).toNat (IntKind.i64.wrap (x20 + (IntKind.i64.wrap (t3 * (IntKind.i64.wrap (x19 - x22)))))))))
  else
    k1 o9
noncomputable def l26_2 {R : Type} (t1 : Int) (t3 : Int) (t23 : (List Int)) (t24 : Int) (o7_2 : (List (List Int))) (k1 : (List Int) → Option R) : Nat → Int → (List Int) → Option R
  | 0, _, _ => none
  | n + 1, t25, o9 => s26_2 t1 t3 t23 t24 o7_2 (l26_2 t1 t3 t23 t24 o7_2 k1 n) k1 t25 o9
noncomputable def L26_2 : LE := ⟨3, 16, ⟨[(0, (.box 7 [] 0)), (1, (.dat (.int .i64))), (3, (.dat (.int .i64))), (8, (.box 16 [] 0)), (23, (.dat (.sl (.int .i64)))), (24, (.dat (.int .i64))), (25, (.dat (.int .i64)))], [.dead, .dead, .dead, .dead, .dead, .dead, .dead, (.box (.agg (.scons (.dat G24) (.scons (.dat (.sl (.sl (.int .i64)))) (.scons (.own 9) (.scons (.own 10) .snil)))))), .dead, (.arr (.int .i64)), (.arr (.int .i64)), .dead, .dead, .dead, .dead, .dead, (.box (.dat G42))]⟩, fun R n x k => l26_2 x.1.2.1 x.1.2.2.1 x.1.2.2.2.2.1 x.1.2.2.2.2.2.1 x.2.2.2.2.2.2.2.2.1.2.1 (fun y0 => k (.exit 0) ⟨[(0, (.box 7 [] 0)), (3, (.dat (.int .i64) x.1.2.2.1)), (8, (.box 16 [] 0))], [.dead, .dead, .dead, .dead, .dead, .dead, .dead, (.box (.agg (.scons (.dat G24 x.2.2.2.2.2.2.2.2.1.1) (.scons (.dat (.sl (.sl (.int .i64))) x.2.2.2.2.2.2.2.2.1.2.1) (.scons (.own 9) (.scons (.own 10) .snil)))))), .dead, (.arr (.int .i64) y0), (.arr (.int .i64) x.2.2.2.2.2.2.2.2.2.2.2.1), .dead, .dead, .dead, .dead, .dead, (.box (.dat G42 x.2.2.2.2.2.2.2.2.2.2.2.2.2.2.2.2.2.1))]⟩) n x.1.2.2.2.2.2.2.1 x.2.2.2.2.2.2.2.2.2.2.1⟩
noncomputable def C26i30 : Cfg := mkCfg [(3, ⟨[0, 1, 3, 8, 23, 24, 25], [], []⟩)] [(3, (⟨[0, 3, 8], [], []⟩, ⟨[], [], []⟩))] (([(0, L26_1), (0, L26_2)] : List (Nat × LE)).map (·.2))
theorem ek26_1 : EOk (E26i30) (C26i30) Try.f30.ntmps (bodyL Try.f30 0) (L26_1) := eok_of (e := L26_1) (fun R x Kn k => s26_1 x.1.2.1 x.1.2.2.1 x.1.2.2.2.2.1 x.1.2.2.2.2.2.1 x.2.2.2.2.2.2.2.2.1.2.1 (fun v0 v1 => Kn (((), x.1.2.1, x.1.2.2.1, (), x.1.2.2.2.2.1, x.1.2.2.2.2.2.1, v0, ()), ((), (), (), (), (), (), (), (x.2.2.2.2.2.2.2.2.1.1, x.2.2.2.2.2.2.2.2.1.2.1, (), (), ()), (), v1, x.2.2.2.2.2.2.2.2.2.2.2.1, (), (), (), x.2.2.2.2.2.2.2.2.2.2.2.2.2.2.2.1, ()))) (fun y0 => k (.exit 0) ⟨[(0, (.box 7 [] 0)), (3, (.dat (.int .i64) x.1.2.2.1)), (8, (.box 14 [] 0))], [.dead, .dead, .dead, .dead, .dead, .dead, .dead, (.box (.agg (.scons (.dat G24 x.2.2.2.2.2.2.2.2.1.1) (.scons (.dat (.sl (.sl (.int .i64))) x.2.2.2.2.2.2.2.2.1.2.1) (.scons (.own 9) (.scons (.own 10) .snil)))))), .dead, (.arr (.int .i64) y0), (.arr (.int .i64) x.2.2.2.2.2.2.2.2.2.2.2.1), .dead, .dead, .dead, (.box (.dat G42 x.2.2.2.2.2.2.2.2.2.2.2.2.2.2.2.1))]⟩) x.1.2.2.2.2.2.2.1 x.2.2.2.2.2.2.2.2.2.2.1) (fun _ _ _ => rfl) (fun _ _ _ _ => rfl) (fun R x Kn k => by kernel_rfl)
theorem ek26_2 : EOk (E26i30) (C26i30) Try.f30.ntmps (bodyL Try.f30 0) (L26_2) := eok_of (e := L26_2) (fun R x Kn k => s26_2 x.1.2.1 x.1.2.2.1 x.1.2.2.2.2.1 x.1.2.2.2.2.2.1 x.2.2.2.2.2.2.2.2.1.2.1 (fun v0 v1 => Kn (((), x.1.2.1, x.1.2.2.1, (), x.1.2.2.2.2.1, x.1.2.2.2.2.2.1, v0, ()), ((), (), (), (), (), (), (), (x.2.2.2.2.2.2.2.2.1.1, x.2.2.2.2.2.2.2.2.1.2.1, (), (), ()), (), v1, x.2.2.2.2.2.2.2.2.2.2.2.1, (), (), (), (), (), x.2.2.2.2.2.2.2.2.2.2.2.2.2.2.2.2.2.1, ()))) (fun y0 => k (.exit 0) ⟨[(0, (.box 7 [] 0)), (3, (.dat (.int .i64) x.1.2.2.1)), (8, (.box 16 [] 0))], [.dead, .dead, .dead, .dead, .dead, .dead, .dead, (.box (.agg (.scons (.dat G24 x.2.2.2.2.2.2.2.2.1.1) (.scons (.dat (.sl (.sl (.int .i64))) x.2.2.2.2.2.2.2.2.1.2.1) (.scons (.own 9) (.scons (.own 10) .snil)))))), .dead, (.arr (.int .i64) y0), (.arr (.int .i64) x.2.2.2.2.2.2.2.2.2.2.2.1), .dead, .dead, .dead, .dead, .dead, (.box (.dat G42 x.2.2.2.2.2.2.2.2.2.2.2.2.2.2.2.2.2.1))]⟩) x.1.2.2.2.2.2.2.1 x.2.2.2.2.2.2.2.2.2.2.1) (fun _ _ _ => rfl) (fun _ _ _ _ => rfl) (fun R x Kn k => by kernel_rfl)
theorem lm26i30 : ∀ c, Try.f30.body = some c → LmOk (E26i30) (C26i30) Try.f30.ntmps c := lmOk_of (ps := [(0, L26_1), (0, L26_2)]) (by kernel_rfl) (by kernel_rfl) ⟨ek26_1, ek26_2, trivial⟩
noncomputable def c26i30 : CmE := inl E26i30 C26i30 30 Try.f30
theorem d26i30 : CmOk Try.prog c26i30 := inl_ok (E := E26i30) ok26i30 ord lm26i30 Try.func30 ca30

noncomputable def E26 (mr : Int → (List Int) → Int → T24 → T24 → (List (List Int)) → (List Int) → (List Int) → (List Int) → Option F26o.ty) : Env := mkEnv2 Try.prog [e27, e28] [cS26 mr, c29, c26i30]
theorem ok26 (mr : Int → (List Int) → Int → T24 → T24 → (List (List Int)) → (List Int) → (List Int) → (List Int) → Option F26o.ty) (hmr : CmOk Try.prog (cS26 mr)) : EnvOk (E26 mr) := mkEnv2_ok (by simp only [List.mem_cons, List.not_mem_nil, or_false, forall_eq_or_imp, forall_eq]; exact ⟨p27, p28⟩) (by simp only [List.mem_cons, List.not_mem_nil, or_false, forall_eq_or_imp, forall_eq]; exact ⟨hmr, d29, d26i30⟩)
/-- a round of a loop of consol/plan.Best$1 -/
noncomputable def s26_3 {R : Type} (mr : Int → (List Int) → Int → T24 → T24 → (List (List Int)) → (List Int) → (List Int) → (List Int) → Option F26o.ty) (t7 : Int) (t44 : Int) (kn : Int → Int → (List Int) → Int → T24 → T24 → (List (List Int)) → (List Int) → (List Int) → (List Int) → Option R) (k1 : Int → (List Int) → Int → T24 → T24 → (List (List Int)) → (List Int) → (List Int) → (List Int) → Option R) (t45 : Int) (o0 : Int) (o2 : (List Int)) (o3 : Int) (o5 : T24) (o7 : T24) (o7_2 : (List (List Int))) (o9 : (List Int)) (o10 : (List Int)) (o11 : (List Int)) : Option R :=
  bif (decide (t45 < t44)) then
    asrt true (decide (List.length (α := Int) o11 + List.length (α := Int) [t45] ≤ LIM)) (
      (idx o7.1 t7).bind fun x6 =>
      (idx x6 t45).bind fun x7 =>
      l26_1 t7 1 x7.1 (List.length x7.1 : Int) o7_2 (fun y13 =>
          bif (decide (x7.2.1 ≥ 0)) then
            asrt true (decide (0 ≤ x7.2.1) && decide (x7.2.1 < (List.length o10 : Int))) (
              ((o10)[(x7.2.1 : Int).toNat]?).bind fun x14 =>
              asrt true (decide (0 ≤ x7.2.1) && decide (x7.2.1 < (List.length o10 : Int))) (
                ((o10)[(x7.2.1 : Int).toNat]?).bind fun x15 =>
                (mr o0 o2 o3 o5 o7 o7_2 (o11 ++ [t45]) y13 (List.set o10 (x7.2.1 : Int).toNat (IntKind.i64.wrap (x14 + (IntKind.i64.wrap (1 * x7.2.2.1)))))).bind fun r16 =>
                (idx r16.2.2.2.2.2.2.2.2.1.1.1 t7).bind fun x17 =>
                (idx x17 t45).bind fun x18 =>
                l26_2 t7 (-1) x18.1 (List.length x18.1 : Int) r16.2.2.2.2.2.2.2.2.1.2.1 (fun y24 =>
                    bif (decide (x18.2.1 ≥ 0)) then
                      asrt true (decide (0 ≤ x18.2.1) && decide (x18.2.1 < (List.length r16.2.2.2.2.2.2.2.2.2.2.2.1 : Int))) (
                        ((r16.2.2.2.2.2.2.2.2.2.2.2.1)[(x18.2.1 : Int).toNat]?).bind fun x25 =>
                        asrt true (decide (0 ≤ x18.2.1) && decide (x18.2.1 < (List.length r16.2.2.2.2.2.2.2.2.2.2.2.1 : Int))) (
                          ((r16.2.2.2.2.2.2.2.2.2.2.2.1)[(x18.2.1 : Int).toNat]?).bind fun x26 =>
                          asrt true (bounds true (List.length r16.2.2.2.2.2.2.2.2.2.2.2.2.1) 0 t7) (
                            kn (IntKind.i64.wrap (t45 + 1)) r16.2.1 r16.2.2.2.1 r16.2.2.2.2.1 r16.2.2.2.2.2.2.1 r16.2.2.2.2.2.2.2.2.1.1 r16.2.2.2.2.2.2.2.2.1.2.1 y24 (List.set r16.2.2.2.2.2.2.2.2.2.2.2.1 (x18.2.1 : Int).toNat (IntKind.i64.wrap (x25 + (IntKind.i64.wrap ((-1) * x18.2.2.1))))) (subl r16.2.2.2.2.2.2.2.2.2.2.2.2.1 0 t7))))
                    else
                      asrt true (bounds true (List.length r16.2.2.2.2.2.2.2.2.2.2.2.2.1) 0 t7) (
                        kn (IntKind.i64.wrap (t45 + 1)) r16.2.1 r16.2.2.2.1 r16.2.2.2.2.1 r16.2.2.2.2.2.2.1 r16.2.2.2.2.2.2.2.2.1.1 r16.2.2.2.2.2.2.2.2.1.2.1 y24 r16.2.2.2.2.2.2.2.2.2.2.2.1 (subl r16.2.2.2.2.2.2.2.2.2.2.2.2.1 0 t7))) FUEL 0 r16.2.2.2.2.2.2.2.2.2.2.1))
          else
            (mr o0 o2 o3 o5 o7 o7_2 (o11 ++ [t45]) y13 o10).bind fun r27 =>
            (idx r27.2.2.2.2.2.2.2.2.1.1.1 t7).bind fun x28 =>
            (idx x28 t45).bind fun x29 =>
            l26_2 t7 (-1) x29.1 (List.length x29.1 : Int) r27.2.2.2.2.2.2.2.2.1.2.1 (fun y30 =>
                bif (decide (x29.2.1 ≥ 0)) then
                  asrt true (decide (0 ≤ x29.2.1) && decide (x29.2.1 < (List.length r27.2.2.2.2.2.2.2.2.2.2.2.1 : Int))) (
                    ((r27.2.2.2.2.2.2.2.2.2.2.2.1)[(x29.2.1 : Int).toNat]?).bind fun x31 =>
                    asrt true (decide (0 ≤ x29.2.1) && decide (x29.2.1 < (List.length r27.2.2.2.2.2.2.2.2.2.2.2.1 : Int))) (
                      ((r27.2.2.2.2.2.2.2.2.2.2.2.1)[(x29.2.1 : Int).toNat]?).bind fun x32 =>
                      asrt true (bounds true (List.length r27.2.2.2.2.2.2.2.2.2.2.2.2.1) 0 t7) (
                        kn (IntKind.i64.wrap (t45 + 1)) r27.2.1 r27.2.2.2.1 r27.2.2.2.2.1 r27.2.2.2.2.2.2.1 r27.2.2.2.2.2.2.2.2.1.1 r27.2.2.2.2.2.2.2.2.1.2.1 y30 (List.set r27.2.2.2.2.2.2.2.2.2.2.2.1 (x29.2.1 : Int).toNat (IntKind.i64.wrap (x31 + (IntKind.i64.wrap ((-1) * x29.2.2.1))))) (subl r27.2.2.2.2.2.2.2.2.2.2.2.2.1 0 t7))))
                else
                  asrt true (bounds true (List.length r27.2.2.2.2.2.2.2.2.2.2.2.2.1) 0 t7) (
                    kn (IntKind.i64.wrap (t45 + 1)) r27.2.1 r27.2.2.2.1 r27.2.2.2.2.1 r27.2.2.2.2.2.2.1 r27.2.2.2.2.2.2.2.2.1.1 r27.2.2.2.2.2.2.2.2.1.2.1 y30 r27.2.2.2.2.2.2.2.2.2.2.2.1 (subl r27.2.2.2.2.2.2.2.2.2.2.2.2.1 0 t7))) FUEL 0 r27.2.2.2.2.2.2.2.2.2.2.1) FUEL 0 o9)
  else
    k1 o0 o2 o3 o5 o7 o7_2 o9 o10 o11
noncomputable def l26_3 {R : Type} (mr : Int → (List Int) → Int → T24 → T24 → (List (List Int)) → (List Int) → (List Int) → (List Int) → Option F26o.ty) (t7 : Int) (t44 : Int) (k1 : Int → (List Int) → Int → T24 → T24 → (List (List Int)) → (List Int) → (List Int) → (List Int) → Option R) : Nat → Int → Int → (List Int) → Int → T24 → T24 → (List (List Int)) → (List Int) → (List Int) → (List Int) → Option R
  | 0, _, _, _, _, _, _, _, _, _, _ => none
  | n + 1, t45, o0, o2, o3, o5, o7, o7_2, o9, o10, o11 => s26_3 mr t7 t44 (l26_3 mr t7 t44 k1 n) k1 t45 o0 o2 o3 o5 o7 o7_2 o9 o10 o11
noncomputable def L26_3 (mr : Int → (List Int) → Int → T24 → T24 → (List (List Int)) → (List Int) → (List Int) → (List Int) → Option F26o.ty) : LE := ⟨7, 11, ⟨[(1, (.box 1 [] 0)), (4, (.box 4 [] 0)), (6, (.box 6 [] 0)), (7, (.dat (.int .i64))), (44, (.dat (.int .i64))), (45, (.dat (.int .i64)))], [(.box (.dat (.int .i64))), (.box (.box 7 [] 0)), (.box (.nsl (.int .i64))), (.box (.dat (.int .i64))), (.box (.own 11)), (.box (.dat G24)), (.box (.fn 26 (.scons (.box 0 [] 0) (.scons (.box 1 [] 0) (.scons (.box 2 [] 0) (.scons (.box 3 [] 0) (.scons (.box 4 [] 0) (.scons (.box 5 [] 0) (.scons (.box 6 [] 0) .snil))))))))), (.box (.agg (.scons (.dat G24) (.scons (.dat (.sl (.sl (.int .i64)))) (.scons (.own 9) (.scons (.own 10) .snil)))))), .dead, (.arr (.int .i64)), (.arr (.int .i64)), (.arr (.int .i64))]⟩, fun R n x k => l26_3 mr x.1.2.2.2.1 x.1.2.2.2.2.1 (fun y0 y1 y2 y3 y4 y5 y6 y7 y8 => k (.exit 0) ⟨[], [(.box (.dat (.int .i64) y0)), (.box (.box 7 [] 0)), (.box (.nsl (.int .i64) y1)), (.box (.dat (.int .i64) y2)), (.box (.own 11)), (.box (.dat G24 y3)), (.box (.fn 26 (.scons (.box 0 [] 0) (.scons (.box 1 [] 0) (.scons (.box 2 [] 0) (.scons (.box 3 [] 0) (.scons (.box 4 [] 0) (.scons (.box 5 [] 0) (.scons (.box 6 [] 0) .snil))))))))), (.box (.agg (.scons (.dat G24 y4) (.scons (.dat (.sl (.sl (.int .i64))) y5) (.scons (.own 9) (.scons (.own 10) .snil)))))), .dead, (.arr (.int .i64) y6), (.arr (.int .i64) y7), (.arr (.int .i64) y8)]⟩) n x.1.2.2.2.2.2.1 x.2.1 x.2.2.2.1 x.2.2.2.2.1 x.2.2.2.2.2.2.1 x.2.2.2.2.2.2.2.2.1.1 x.2.2.2.2.2.2.2.2.1.2.1 x.2.2.2.2.2.2.2.2.2.2.1 x.2.2.2.2.2.2.2.2.2.2.2.1 x.2.2.2.2.2.2.2.2.2.2.2.2.1⟩
noncomputable def C26 (mr : Int → (List Int) → Int → T24 → T24 → (List (List Int)) → (List Int) → (List Int) → (List Int) → Option F26o.ty) : Cfg := mkCfg [(7, ⟨[1, 4, 6, 7, 44, 45], [], []⟩)] [(7, (⟨[], [], []⟩, ⟨[], [], []⟩))] (([(0, L26_3 mr)] : List (Nat × LE)).map (·.2)) [] [(0, [(4, [], (.cons .nil .opq))])]
theorem ek26_3 (mr : Int → (List Int) → Int → T24 → T24 → (List (List Int)) → (List Int) → (List Int) → (List Int) → Option F26o.ty) : EOk (E26 mr) (C26 mr) Try.f26.ntmps (bodyL Try.f26 0) (L26_3 mr) := eok_of (e := L26_3 mr) (fun R x Kn k => s26_3 mr x.1.2.2.2.1 x.1.2.2.2.2.1 (fun v0 v1 v2 v3 v4 v5 v6 v7 v8 v9 => Kn (((), (), (), x.1.2.2.2.1, x.1.2.2.2.2.1, v0, ()), (v1, (), v2, v3, (), v4, ((), (), (), (), (), (), (), ()), (v5, v6, (), (), ()), (), v7, v8, v9, ()))) (fun y0 y1 y2 y3 y4 y5 y6 y7 y8 => k (.exit 0) ⟨[], [(.box (.dat (.int .i64) y0)), (.box (.box 7 [] 0)), (.box (.nsl (.int .i64) y1)), (.box (.dat (.int .i64) y2)), (.box (.own 11)), (.box (.dat G24 y3)), (.box (.fn 26 (.scons (.box 0 [] 0) (.scons (.box 1 [] 0) (.scons (.box 2 [] 0) (.scons (.box 3 [] 0) (.scons (.box 4 [] 0) (.scons (.box 5 [] 0) (.scons (.box 6 [] 0) .snil))))))))), (.box (.agg (.scons (.dat G24 y4) (.scons (.dat (.sl (.sl (.int .i64))) y5) (.scons (.own 9) (.scons (.own 10) .snil)))))), .dead, (.arr (.int .i64) y6), (.arr (.int .i64) y7), (.arr (.int .i64) y8)]⟩) x.1.2.2.2.2.2.1 x.2.1 x.2.2.2.1 x.2.2.2.2.1 x.2.2.2.2.2.2.1 x.2.2.2.2.2.2.2.2.1.1 x.2.2.2.2.2.2.2.2.1.2.1 x.2.2.2.2.2.2.2.2.2.2.1 x.2.2.2.2.2.2.2.2.2.2.2.1 x.2.2.2.2.2.2.2.2.2.2.2.2.1) (fun _ _ _ => rfl) (fun _ _ _ _ => rfl) (fun R x Kn k => by kernel_rfl)
theorem lm26 (mr : Int → (List Int) → Int → T24 → T24 → (List (List Int)) → (List Int) → (List Int) → (List Int) → Option F26o.ty) : ∀ c, Try.f26.body = some c → LmOk (E26 mr) (C26 mr) Try.f26.ntmps c := lmOk_of (ps := [(0, L26_3 mr)]) (by kernel_rfl) (by kernel_rfl) ⟨ek26_3 mr, trivial⟩
noncomputable def M26 (mr : Int → (List Int) → Int → T24 → T24 → (List (List Int)) → (List Int) → (List Int) → (List Int) → Option F26o.ty) (a0 : Int) (a1 : (List Int)) (a2 : Int) (a3 : T24) (a4 : T24) (a5 : (List (List Int))) (a6 : (List Int)) (a7 : (List Int)) (a8 : (List Int)) : Option F26o.ty :=
  (bif ((decide ((IntKind.i64.wrap (a0 + 1)) > 100000)) == false) then (m27 (a4, a5, a7, a8, ())) else some 0).bind fun r1 =>
  (bif ((((decide ((IntKind.i64.wrap (a0 + 1)) > 100000)) || (decide (r1 ≥ 0))) == false) && ((!(List.isEmpty (α := Int) a1)) == true)) then (m28 (a4, a5, a7, a8, ())) else some 0).bind fun r2 =>
  bif (((decide ((IntKind.i64.wrap (a0 + 1)) > 100000)) || (decide (r1 ≥ 0))) || ((!(List.isEmpty (α := Int) a1)) && (decide (r2 ≥ a2)))) then
    some (((()), ()), ((IntKind.i64.wrap (a0 + 1)), (), a1, a2, (), a3, ((), (), (), (), (), (), (), ()), (a4, a5, (), (), ()), (), a7, a8, a6, ()))
  else
    bif ((List.length a6 : Int) == (List.length a3.1 : Int)) then
      (cloneM a6).bind fun r3 =>
      (m28 (a4, a5, a7, a8, ())).bind fun r4 =>
      asrt true (!(List.isEmpty (α := Int) r3)) (
        some (((()), ()), ((IntKind.i64.wrap (a0 + 1)), (), r3, r4, (), a3, ((), (), (), (), (), (), (), ()), (a4, a5, (), (), ()), (), a7, a8, a6, ())))
    else
      (idx a3.1 (List.length a6 : Int)).bind fun x5 =>
      l26_3 mr (List.length a6 : Int) (List.length x5 : Int) (fun y33 y34 y35 y36 y37 y38 y39 y40 y41 =>
          some (((()), ()), (y33, (), y34, y35, (), y36, ((), (), (), (), (), (), (), ()), (y37, y38, (), (), ()), (), y39, y40, y41, ()))) FUEL 0 (IntKind.i64.wrap (a0 + 1)) a1 a2 a3 a4 a5 a7 a8 a6
theorem q26 (mr : Int → (List Int) → Int → T24 → T24 → (List (List Int)) → (List Int) → (List Int) → (List Int) → Option F26o.ty) (x : F26i.ty) : execF (E26 mr) (C26 mr) Try.f26 ((F26i.enc x).regs.map (·.2)) (F26i.enc x).heap (retS [] [] 11 F26o) = M26 mr x.2.1 x.2.2.2.1 x.2.2.2.2.1 x.2.2.2.2.2.2.1 x.2.2.2.2.2.2.2.2.1.1 x.2.2.2.2.2.2.2.2.1.2.1 x.2.2.2.2.2.2.2.2.2.1 x.2.2.2.2.2.2.2.2.2.2.1 x.2.2.2.2.2.2.2.2.2.2.2.1 := by kernel_rfl
theorem R26 (mr : Int → (List Int) → Int → T24 → T24 → (List (List Int)) → (List Int) → (List Int) → (List Int) → Option F26o.ty) (hmr : CmOk Try.prog (cS26 mr)) : CRun Try.prog 26 F26i F26o (fun x => M26 mr x.2.1 x.2.2.2.1 x.2.2.2.2.1 x.2.2.2.2.2.2.1 x.2.2.2.2.2.2.2.2.1.1 x.2.2.2.2.2.2.2.2.1.2.1 x.2.2.2.2.2.2.2.2.2.1 x.2.2.2.2.2.2.2.2.2.2.1 x.2.2.2.2.2.2.2.2.2.2.2.1) := st_run (E := E26 mr) (ok26 mr hmr) ord (lm26 mr) Try.func26 (q26 mr)
noncomputable def m26N : Nat → Int → (List Int) → Int → T24 → T24 → (List (List Int)) → (List Int) → (List Int) → (List Int) → Option F26o.ty
  | 0, _, _, _, _, _, _, _, _, _ => none
  | n + 1, a0, a1, a2, a3, a4, a5, a6, a7, a8 => M26 (m26N n) a0 a1 a2 a3 a4 a5 a6 a7 a8
theorem dS26 : ∀ n, CmOk Try.prog (cS26 (m26N n))
  | 0 => st_ok ca26 (fun _ _ h => by cases h)
  | n + 1 => st_ok ca26 (R26 (m26N n) (dS26 n))
noncomputable def m26 (a0 : Int) (a1 : (List Int)) (a2 : Int) (a3 : T24) (a4 : T24) (a5 : (List (List Int))) (a6 : (List Int)) (a7 : (List Int)) (a8 : (List Int)) : Option F26o.ty := m26N FUEL a0 a1 a2 a3 a4 a5 a6 a7 a8
noncomputable def c26 : CmE := cS26 (fun a0 a1 a2 a3 a4 a5 a6 a7 a8 => m26 a0 a1 a2 a3 a4 a5 a6 a7 a8)
theorem d26 : CmOk Try.prog c26 := dS26 FUEL

/-! 31: consol/plan.prove -/
theorem ca31 : callable Try.prog 31 := ⟨Try.f31, Try.func31, by kernel_rfl, by kernel_rfl⟩
def F31i : ShS := ⟨[(0, (.box 0 [] 0)), (1, (.own 1)), (2, (.dat (.int .i64))), (3, (.own 2))], [(.box (.agg (.scons (.dat G24) (.scons (.dat (.sl (.sl (.int .i64)))) (.scons (.own 3) (.scons (.own 4) .snil)))))), (.arr (.int .i64)), (.arr G42), (.arr (.int .i64)), (.arr (.int .i64))]⟩
def F31o : ShS := ⟨[(0, (.own 5))], [(.box (.agg (.scons (.dat G24) (.scons (.dat (.sl (.sl (.int .i64)))) (.scons (.own 3) (.scons (.own 4) .snil)))))), (.arr (.int .i64)), .dead, (.arr (.int .i64)), (.arr (.int .i64)), (.arr G42)]⟩
noncomputable def cS31 (mr : Int → T24 → (List (List Int)) → (List Int) → (List T42) → (List Int) → (List Int) → Option F31o.ty) : CmE := stE 31 [] [(1, [], (.int .i64)), (3, [], G42)] F31i F31o (fun x => mr x.1.2.2.1 x.2.1.1 x.2.1.2.1 x.2.2.1 x.2.2.2.1 x.2.2.2.2.1 x.2.2.2.2.2.1)
noncomputable def E31i30 : Env := mkEnv2 Try.prog [] []
theorem ok31i30 : EnvOk (E31i30) := mkEnv2_ok (by simp) (by simp)
/-- a round of a loop of (*consol/plan.state).step -/
noncomputable def s31_1 {R : Type} (t1 : Int) (t3 : Int) (t23 : (List Int)) (t24 : Int) (o0_2 : (List (List Int))) (kn : Int → (List Int) → Option R) (k1 : (List Int) → Option R) (t25 : Int) (o3 : (List Int)) : Option R :=
  bif (decide (t25 < t24)) then
    (idx t23 t25).bind fun x8 =>
    asrt true (decide (0 ≤ t25) && decide (t25 < (List.length o3 : Int))) (
      ((o3)[(t25 : Int).toNat]?).bind fun x9 =>
      (idx o0_2 t1).bind fun x10 =>
      (idx x10 t25).bind fun x11 =>
      asrt true (decide (0 ≤ t25) && decide (t25 < (List.length o3 : Int))) (
        ((o3)[(t25 : Int).toNat]?).bind fun x12 =>
        kn (IntKind.i64.wrap (t25 + 1)) (List.set o3 (t25 : Int).toNat (IntKind.i64.wrap (x9 + (IntKind.i64.wrap (t3 * (IntKind.i64.wrap (x8 - x11)))))))))
  else
    k1 o3
noncomputable def l31_1 {R : Type} (t1 : Int) (t3 : Int) (t23 : (List Int)) (t24 : Int) (o0_2 : (List (List Int))) (k1 : (List Int) → Option R) : Nat → Int → (List Int) → Option R
  | 0, _, _ => none
  | n + 1, t25, o3 => s31_1 t1 t3 t23 t24 o0_2 (l31_1 t1 t3 t23 t24 o0_2 k1 n) k1 t25 o3
noncomputable def L31_1 : LE := ⟨3, 6, ⟨[(0, (.box 0 [] 0)), (1, (.dat (.int .i64))), (3, (.dat (.int .i64))), (8, (.box 6 [] 0)), (23, (.dat (.sl (.int .i64)))), (24, (.dat (.int .i64))), (25, (.dat (.int .i64)))], [(.box (.agg (.scons (.dat G24) (.scons (.dat (.sl (.sl (.int .i64)))) (.scons (.own 3) (.scons (.own 4) .snil)))))), .dead, .dead, (.arr (.int .i64)), (.arr (.int .i64)), .dead, (.box (.dat G42))]⟩, fun R n x k => l31_1 x.1.2.1 x.1.2.2.1 x.1.2.2.2.2.1 x.1.2.2.2.2.2.1 x.2.1.2.1 (fun y0 => k (.exit 0) ⟨[(0, (.box 0 [] 0)), (3, (.dat (.int .i64) x.1.2.2.1)), (8, (.box 6 [] 0))], [(.box (.agg (.scons (.dat G24 x.2.1.1) (.scons (.dat (.sl (.sl (.int .i64))) x.2.1.2.1) (.scons (.own 3) (.scons (.own 4) .snil)))))), .dead, .dead, (.arr (.int .i64) y0), (.arr (.int .i64) x.2.2.2.2.2.1), .dead, (.box (.dat G42 x.2.2.2.2.2.2.2.1))]⟩) n x.1.2.2.2.2.2.2.1 x.2.2.2.2.1⟩
/-- a round of a loop of (*consol/plan.state).step -/
noncomputable def s31_2 {R : Type} (t1 : Int) (t3 : Int) (t23 : (List Int)) (t24 : Int) (o0_2 : (List (List Int))) (kn : Int → (List Int) → Option R) (k1 : (List Int) → Option R) (t25 : Int) (o3 : (List Int)) : Option R :=
  bif (decide (t25 < t24)) then
    (idx t23 t25).bind fun x19 =>
    asrt true (decide (0 ≤ t25) && decide (t25 < (List.length o3 : Int))) (
      ((o3)[(t25 : Int).toNat]?).bind fun x20 =>
      (idx o0_2 t1).bind fun x21 =>
      (idx x21 t25).bind fun x22 =>
      asrt true (decide (0 ≤ t25) && decide (t25 < (List.length o3 : Int))) (
        ((o3)[(t25 : Int).toNat]?).bind fun x23 =>
        kn (IntKind.i64.wrap (t25 + 1)) (List.set o3 (t25 : Int).toNat (IntKind.i64.wrap (x20 + (IntKind.i64.wrap (t3 * (IntKind.i64.wrap (x19 - x22)))))))))
  else
    k1 o3
noncomputable def l31_2 {R : Type} (t1 : Int) (t3 : Int) (t23 : (List Int)) (t24 : Int) (o0_2 : (List (List Int))) (k1 : (List Int) → Option R) : Nat → Int → (List Int) → Option R
  | 0, _, _ => none
  | n + 1, t25, o3 => s31_2 t1 t3 t23 t24 o0_2 (l31_2 t1 t3 t23 t24 o0_2 k1 n) k1 t25 o3
noncomputable def L31_2 : LE := ⟨3, 10, ⟨[(0, (.box 0 [] 0)), (1, (.dat (.int .i64))), (3, (.dat (.int .i64))), (8, (.box 10 [] 0)), (23, (.dat (.sl (.int .i64)))), (24, (.dat (.int .i64))), (25, (.dat (.int .i64)))], [(.box (.agg (.scons (.dat G24) (.scons (.dat (.sl (.sl (.int .i64)))) (.scons (.own 3) (.scons (.own 4) .snil)))))), .dead, .dead, (.arr (.int .i64)), (.arr (.int .i64)), .dead, .dead, .dead, .dead, .dead, (.box (.dat G42))]⟩, fun R n x k => l31_2 x.1.2.1 x.1.2.2.1 x.1.2.2.2.2.1 x.1.2.2.2.2.2.1 x.2.1.2.1 (fun y0 => k (.exit 0) ⟨[(0, (.box 0 [] 0)), (3, (.dat (.int .i64) x.1.2.2.1)), (8, (.box 10 [] 0))], [(.box (.agg (.scons (.dat G24 x.2.1.1) (.scons (.dat (.sl (.sl (.int .i64))) x.2.1.2.1) (.scons (.own 3) (.scons (.own 4) .snil)))))), .dead, .dead, (.arr (.int .i64) y0), (.arr (.int .i64) x.2.2.2.2.2.1), .dead, .dead, .dead, .dead, .dead, (.box (.dat G42 x.2.2.2.2.2.2.2.2.2.2.2.1))]⟩) n x.1.2.2.2.2.2.2.1 x.2.2.2.2.1⟩
noncomputable def C31i30 : Cfg := mkCfg [(3, ⟨[0, 1, 3, 8, 23, 24, 25], [], []⟩)] [(3, (⟨[0, 3, 8], [], []⟩, ⟨[], [], []⟩))] (([(0, L31_1), (0, L31_2)] : List (Nat × LE)).map (·.2))
theorem ek31_1 : EOk (E31i30) (C31i30) Try.f30.ntmps (bodyL Try.f30 0) (L31_1) := eok_of (e := L31_1) (fun R x Kn k => s31_1 x.1.2.1 x.1.2.2.1 x.1.2.2.2.2.1 x.1.2.2.2.2.2.1 x.2.1.2.1 (fun v0 v1 => Kn (((), x.1.2.1, x.1.2.2.1, (), x.1.2.2.2.2.1, x.1.2.2.2.2.2.1, v0, ()), ((x.2.1.1, x.2.1.2.1, (), (), ()), (), (), v1, x.2.2.2.2.2.1, (), x.2.2.2.2.2.2.2.1, ()))) (fun y0 => k (.exit 0) ⟨[(0, (.box 0 [] 0)), (3, (.dat (.int .i64) x.1.2.2.1)), (8, (.box 6 [] 0))], [(.box (.agg (.scons (.dat G24 x.2.1.1) (.scons (.dat (.sl (.sl (.int .i64))) x.2.1.2.1) (.scons (.own 3) (.scons (.own 4) .snil)))))), .dead, .dead, (.arr (.int .i64) y0), (.arr (.int .i64) x.2.2.2.2.2.1), .dead, (.box (.dat G42 x.2.2.2.2.2.2.2.1))]⟩) x.1.2.2.2.2.2.2.1 x.2.2.2.2.1) (fun _ _ _ => rfl) (fun _ _ _ _ => rfl) (fun R x Kn k => by kernel_rfl)
theorem ek31_2 : EOk (E31i30) (C31i30) Try.f30.ntmps (bodyL Try.f30 0) (L31_2) := eok_of (e := L31_2) (fun R x Kn k => s31_2 x.1.2.1 x.1.2.2.1 x.1.2.2.2.2.1 x.1.2.2.2.2.2.1 x.2.1.2.1 (fun v0 v1 => Kn (((), x.1.2.1, x.1.2.2.1, (), x.1.2.2.2.2.1, x.1.2.2.2.2.2.1, v0, ()), ((x.2.1.1, x.2.1.2.1, (), (), ()), (), (), v1, x.2.2.2.2.2.1, (), (), (), (), (), x.2.2.2.2.2.2.2.2.2.2.2.1, ()))) (fun y0 => k (.exit 0) ⟨[(0, (.box 0 [] 0)), (3, (.dat (.int .i64) x.1.2.2.1)), (8, (.box 10 [] 0))], [(.box (.agg (.scons (.dat G24 x.2.1.1) (.scons (.dat (.sl (.sl (.int .i64))) x.2.1.2.1) (.scons (.own 3) (.scons (.own 4) .snil)))))), .dead, .dead, (.arr (.int .i64) y0), (.arr (.int .i64) x.2.2.2.2.2.1), .dead, .dead, .dead, .dead, .dead, (.box (.dat G42 x.2.2.2.2.2.2.2.2.2.2.2.1))]⟩) x.1.2.2.2.2.2.2.1 x.2.2.2.2.1) (fun _ _ _ => rfl) (fun _ _ _ _ => rfl) (fun R x Kn k => by kernel_rfl)
theorem lm31i30 : ∀ c, Try.f30.body = some c → LmOk (E31i30) (C31i30) Try.f30.ntmps c := lmOk_of (ps := [(0, L31_1), (0, L31_2)]) (by kernel_rfl) (by kernel_rfl) ⟨ek31_1, ek31_2, trivial⟩
noncomputable def c31i30 : CmE := inl E31i30 C31i30 30 Try.f30
theorem d31i30 : CmOk Try.prog c31i30 := inl_ok (E := E31i30) ok31i30 ord lm31i30 Try.func30 ca30

noncomputable def E31 (mr : Int → T24 → (List (List Int)) → (List Int) → (List T42) → (List Int) → (List Int) → Option F31o.ty) : Env := mkEnv2 Try.prog [e27, e28] [c29, c31i30, cS31 mr]
theorem ok31 (mr : Int → T24 → (List (List Int)) → (List Int) → (List T42) → (List Int) → (List Int) → Option F31o.ty) (hmr : CmOk Try.prog (cS31 mr)) : EnvOk (E31 mr) := mkEnv2_ok (by simp only [List.mem_cons, List.not_mem_nil, or_false, forall_eq_or_imp, forall_eq]; exact ⟨p27, p28⟩) (by simp only [List.mem_cons, List.not_mem_nil, or_false, forall_eq_or_imp, forall_eq]; exact ⟨d29, d31i30, hmr⟩)
/-- a round of a loop of consol/plan.prove -/
noncomputable def s31_3 {R : Type} (mr : Int → T24 → (List (List Int)) → (List Int) → (List T42) → (List Int) → (List Int) → Option F31o.ty) (t2 : Int) (t11 : Int) (t46 : Int) (o1 : (List Int)) (kn : Int → T24 → (List (List Int)) → (List Int) → (List Int) → (List T42) → Option R) (k1 : T24 → (List (List Int)) → (List Int) → (List Int) → (List T42) → Option R) (t47 : Int) (o0 : T24) (o0_2 : (List (List Int))) (o3 : (List Int)) (o4 : (List Int)) (o5 : (List T42)) : Option R :=
  bif (decide (t47 < t46)) then
    bif (decide ((List.length o5 : Int) > 100000)) then
      k1 o0 o0_2 o3 o4 o5
    else
      (idx o0.1 t11).bind fun x6 =>
      (idx x6 t47).bind fun x7 =>
      l31_1 t11 1 x7.1 (List.length x7.1 : Int) o0_2 (fun y13 =>
          bif (decide (x7.2.1 ≥ 0)) then
            asrt true (decide (0 ≤ x7.2.1) && decide (x7.2.1 < (List.length o4 : Int))) (
              ((o4)[(x7.2.1 : Int).toNat]?).bind fun x14 =>
              asrt true (decide (0 ≤ x7.2.1) && decide (x7.2.1 < (List.length o4 : Int))) (
                ((o4)[(x7.2.1 : Int).toNat]?).bind fun x15 =>
                asrt true (decide (List.length (α := Int) o1 + 1 ≤ LIM)) (
                  (mr t2 o0 o0_2 (o1 ++ [t47]) o5 y13 (List.set o4 (x7.2.1 : Int).toNat (IntKind.i64.wrap (x14 + (IntKind.i64.wrap (1 * x7.2.2.1)))))).bind fun r16 =>
                  asrt true (decide (r16.2.2.1 = (o1 ++ [t47]))) (
                    (idx r16.2.1.1.1 t11).bind fun x17 =>
                    (idx x17 t47).bind fun x18 =>
                    l31_2 t11 (-1) x18.1 (List.length x18.1 : Int) r16.2.1.2.1 (fun y24 =>
                        bif (decide (x18.2.1 ≥ 0)) then
                          asrt true (decide (0 ≤ x18.2.1) && decide (x18.2.1 < (List.length r16.2.2.2.2.2.1 : Int))) (
                            ((r16.2.2.2.2.2.1)[(x18.2.1 : Int).toNat]?).bind fun x25 =>
                            asrt true (decide (0 ≤ x18.2.1) && decide (x18.2.1 < (List.length r16.2.2.2.2.2.1 : Int))) (
                              ((r16.2.2.2.2.2.1)[(x18.2.1 : Int).toNat]?).bind fun x26 =>
                              kn (IntKind.i64.wrap (t47 + 1)) r16.2.1.1 r16.2.1.2.1 y24 (List.set r16.2.2.2.2.2.1 (x18.2.1 : Int).toNat (IntKind.i64.wrap (x25 + (IntKind.i64.wrap ((-1) * x18.2.2.1))))) r16.2.2.2.2.2.2.1))
                        else
                          kn (IntKind.i64.wrap (t47 + 1)) r16.2.1.1 r16.2.1.2.1 y24 r16.2.2.2.2.2.1 r16.2.2.2.2.2.2.1) FUEL 0 r16.2.2.2.2.1))))
          else
            asrt true (decide (List.length (α := Int) o1 + 1 ≤ LIM)) (
              (mr t2 o0 o0_2 (o1 ++ [t47]) o5 y13 o4).bind fun r27 =>
              asrt true (decide (r27.2.2.1 = (o1 ++ [t47]))) (
                (idx r27.2.1.1.1 t11).bind fun x28 =>
                (idx x28 t47).bind fun x29 =>
                l31_2 t11 (-1) x29.1 (List.length x29.1 : Int) r27.2.1.2.1 (fun y30 =>
                    bif (decide (x29.2.1 ≥ 0)) then
                      asrt true (decide (0 ≤ x29.2.1) && decide (x29.2.1 < (List.length r27.2.2.2.2.2.1 : Int))) (
                        ((r27.2.2.2.2.2.1)[(x29.2.1 : Int).toNat]?).bind fun x31 =>
                        asrt true (decide (0 ≤ x29.2.1) && decide (x29.2.1 < (List.length r27.2.2.2.2.2.1 : Int))) (
                          ((r27.2.2.2.2.2.1)[(x29.2.1 : Int).toNat]?).bind fun x32 =>
                          kn (IntKind.i64.wrap (t47 + 1)) r27.2.1.1 r27.2.1.2.1 y30 (List.set r27.2.2.2.2.2.1 (x29.2.1 : Int).toNat (IntKind.i64.wrap (x31 + (IntKind.i64.wrap ((-1) * x29.2.2.1))))) r27.2.2.2.2.2.2.1))
                    else
                      kn (IntKind.i64.wrap (t47 + 1)) r27.2.1.1 r27.2.1.2.1 y30 r27.2.2.2.2.2.1 r27.2.2.2.2.2.2.1) FUEL 0 r27.2.2.2.2.1))) FUEL 0 o3
  else
    k1 o0 o0_2 o3 o4 o5
noncomputable def l31_3 {R : Type} (mr : Int → T24 → (List (List Int)) → (List Int) → (List T42) → (List Int) → (List Int) → Option F31o.ty) (t2 : Int) (t11 : Int) (t46 : Int) (o1 : (List Int)) (k1 : T24 → (List (List Int)) → (List Int) → (List Int) → (List T42) → Option R) : Nat → Int → T24 → (List (List Int)) → (List Int) → (List Int) → (List T42) → Option R
  | 0, _, _, _, _, _, _ => none
  | n + 1, t47, o0, o0_2, o3, o4, o5 => s31_3 mr t2 t11 t46 o1 (l31_3 mr t2 t11 t46 o1 k1 n) k1 t47 o0 o0_2 o3 o4 o5
noncomputable def L31_3 (mr : Int → T24 → (List (List Int)) → (List Int) → (List T42) → (List Int) → (List Int) → Option F31o.ty) : LE := ⟨10, 5, ⟨[(0, (.box 0 [] 0)), (1, (.own 1)), (2, (.dat (.int .i64))), (3, (.own 5)), (11, (.dat (.int .i64))), (46, (.dat (.int .i64))), (47, (.dat (.int .i64)))], [(.box (.agg (.scons (.dat G24) (.scons (.dat (.sl (.sl (.int .i64)))) (.scons (.own 3) (.scons (.own 4) .snil)))))), (.arr (.int .i64)), .dead, (.arr (.int .i64)), (.arr (.int .i64)), (.arr G42)]⟩, fun R n x k => l31_3 mr x.1.2.2.1 x.1.2.2.2.2.1 x.1.2.2.2.2.2.1 x.2.2.1 (fun y0 y1 y2 y3 y4 => k (.exit 0) ⟨[(3, (.own 5))], [(.box (.agg (.scons (.dat G24 y0) (.scons (.dat (.sl (.sl (.int .i64))) y1) (.scons (.own 3) (.scons (.own 4) .snil)))))), (.arr (.int .i64) x.2.2.1), .dead, (.arr (.int .i64) y2), (.arr (.int .i64) y3), (.arr G42 y4)]⟩) n x.1.2.2.2.2.2.2.1 x.2.1.1 x.2.1.2.1 x.2.2.2.2.1 x.2.2.2.2.2.1 x.2.2.2.2.2.2.1⟩
noncomputable def C31 (mr : Int → T24 → (List (List Int)) → (List Int) → (List T42) → (List Int) → (List Int) → Option F31o.ty) : Cfg := mkCfg [(10, ⟨[0, 1, 2, 3, 11, 46, 47], [], []⟩)] [(10, (⟨[3], [], []⟩, ⟨[8], [], []⟩))] (([(0, L31_3 mr)] : List (Nat × LE)).map (·.2)) [] [(0, [(3, [], (.cons .nil .opq))])]
def H13 : List OG := [(.box (.agg (.scons (.dat G24) (.scons (.dat (.sl (.sl (.int .i64)))) (.scons (.own 3) (.scons (.own 4) .snil)))))), .arr (.int .i64), .dead, .arr (.int .i64), .arr (.int .i64), .arr G42, .box (.dat G42)]
def st13 (y : tyO H13) (kk : Int) (r : F31o.ty) : List SO := [(.box (.agg (.scons (.dat G24 r.2.1.1) (.scons (.dat (.sl (.sl (.int .i64))) r.2.1.2.1) (.scons (.own 3) (.scons (.own 4) .snil)))))), .arr (.int .i64) y.2.1, .dead, .arr (.int .i64) r.2.2.2.2.1, .arr (.int .i64) r.2.2.2.2.2.1, .dead, .box (.dat G42 y.2.2.2.2.2.2.1), .arr (.int .i64) [kk], .dead, .arr G42 r.2.2.2.2.2.2.1]
noncomputable def spF31 (mr : Int → T24 → (List (List Int)) → (List Int) → (List T42) → (List Int) → (List Int) → Option F31o.ty) (R : Type) (s : St) (k : St → Option R) : Option R :=
  match lk s.regs 0, lk s.regs 1, lk s.regs 12, lk s.regs 2, lk s.regs 3 with
  | some (.box 0 [] 0), some (.own 1), some (.dat (.int .i64) kk), some (.dat (.int .i64) t2), some (.own 5) => bif noSlots [57, 58, 59, 60, 61, 62, 63, 64] s.regs then (match decO H13 s.heap with
    | some y => asrt true (decide (List.length (α := Int) y.2.1 + 1 ≤ LIM)) ((mr t2 y.1.1 y.1.2.1 (y.2.1 ++ [kk]) y.2.2.2.2.2.1 y.2.2.2.1 y.2.2.2.2.1).bind fun r => asrt true (decide (r.2.2.1 = (y.2.1 ++ [kk]))) (k ⟨(3, .own 9) :: s.regs, st13 y kk r⟩))
    | none => none) else none
  | _, _, _, _, _ => none
noncomputable def sp31 (mr : Int → T24 → (List (List Int)) → (List Int) → (List T42) → (List Int) → (List Int) → Option F31o.ty) : SP := fun id => bif Nat.beq id 13 then some (spF31 mr) else none
noncomputable def op13 : List Oper := ((findR 13 (regionsOf (bodyL Try.f31 0))).getD (#[], false)).1.toList
theorem find13 : findR 13 (regionsOf (bodyL Try.f31 0)) = some (op13.toArray, false) := by kernel_rfl
theorem nodup13 : nodupB (idsR (regionsOf (bodyL Try.f31 0))) = true := by kernel_rfl
noncomputable def rb13 (kk t2 : Int) (rg : List (Nat × SV)) : List (Nat × SV) := (0, .box 0 [] 0) :: (1, .own 1) :: (12, .dat (.int .i64) kk) :: (2, .dat (.int .i64) t2) :: (3, .own 5) :: rg
noncomputable def h1_13 (y : tyO H13) (kk : Int) : List SO := encO H13 y ++ [.arr (.int .i64) [kk]]
noncomputable def res1 (mr : Int → T24 → (List (List Int)) → (List Int) → (List T42) → (List Int) → (List Int) → Option F31o.ty) (y : tyO H13) (kk t2 : Int) (rg : List (Nat × SV)) : Option (List Rc × List SO) := runOps (E31 mr) op13 (rb13 kk t2 rg) (op13.take 4) [] (encO H13 y) (fun rs h => some (rs, h))
noncomputable def rs13 (mr : Int → T24 → (List (List Int)) → (List Int) → (List T42) → (List Int) → (List Int) → Option F31o.ty) (y : tyO H13) (kk t2 : Int) (rg : List (Nat × SV)) : List Rc := ((res1 mr y kk t2 rg).getD ([], [])).1
theorem res1_eq (mr : Int → T24 → (List (List Int)) → (List Int) → (List T42) → (List Int) → (List Int) → Option F31o.ty) (y : tyO H13) (kk t2 : Int) (rg : List (Nat × SV)) : res1 mr y kk t2 rg = some (rs13 mr y kk t2 rg, h1_13 y kk) := by kernel_rfl
theorem q1_13 (mr : Int → T24 → (List (List Int)) → (List Int) → (List T42) → (List Int) → (List Int) → Option F31o.ty) (y : tyO H13) (kk t2 : Int) (rg : List (Nat × SV)) : lk (after (rs13 mr y kk t2 rg) (rb13 kk t2 rg)) 58 = some (.own 1) := by kernel_rfl
theorem q2_13 (mr : Int → T24 → (List (List Int)) → (List Int) → (List T42) → (List Int) → (List Int) → Option F31o.ty) (y : tyO H13) (kk t2 : Int) (rg : List (Nat × SV)) : lk (after (rs13 mr y kk t2 rg) (rb13 kk t2 rg)) 60 = some (.own 7) := by kernel_rfl
theorem q3_13 (y : tyO H13) (kk : Int) : nth (h1_13 y kk) 1 = some (.arr (.int .i64) y.2.1) := by kernel_rfl
theorem q4_13 (y : tyO H13) (kk : Int) : listV (h1_13 y kk) (.own 7) (.int .i64) = some [kk] := by kernel_rfl
theorem len13 (y : tyO H13) (kk : Int) : (h1_13 y kk).length = 8 := by kernel_rfl
noncomputable def ra13 (mr : Int → T24 → (List (List Int)) → (List Int) → (List T42) → (List Int) → (List Int) → Option F31o.ty) (y : tyO H13) (kk t2 : Int) (rg : List (Nat × SV)) : List (Nat × SV) := (61, .own 8) :: after (rs13 mr y kk t2 rg) (rb13 kk t2 rg)
theorem ra13_eq (mr : Int → T24 → (List (List Int)) → (List Int) → (List T42) → (List Int) → (List Int) → Option F31o.ty) (y : tyO H13) (kk t2 : Int) (rg : List (Nat × SV)) : ra13 mr y kk t2 rg = (61, .own 8) :: after (rs13 mr y kk t2 rg) (rb13 kk t2 rg) := rfl
noncomputable def h13 (y : tyO H13) (kk : Int) (q : Bool) : List SO := (bif q then setN (h1_13 y kk) 1 .dead else h1_13 y kk) ++ [.arr (.int .i64) (y.2.1 ++ [kk])]
theorem h13_eq (y : tyO H13) (kk : Int) (q : Bool) : h13 y kk q = (bif q then setN (h1_13 y kk) 1 .dead else h1_13 y kk) ++ [.arr (.int .i64) (y.2.1 ++ [kk])] := rfl
noncomputable def res2 (mr : Int → T24 → (List (List Int)) → (List Int) → (List T42) → (List Int) → (List Int) → Option F31o.ty) (y : tyO H13) (kk t2 : Int) (rg : List (Nat × SV)) (q : Bool) (r : F31o.ty) : Option (List Rc × List SO) := runOps (E31 (fun _ _ _ _ _ _ _ => some r)) op13 (ra13 mr y kk t2 rg) (op13.drop 5) [] (h13 y kk q) (fun rs h => some (rs, h))
theorem res2_eq (mr : Int → T24 → (List (List Int)) → (List Int) → (List T42) → (List Int) → (List Int) → Option F31o.ty) (y : tyO H13) (kk t2 : Int) (rg : List (Nat × SV)) (q : Bool) : runOps (E31 mr) op13 (ra13 mr y kk t2 rg) (op13.drop 5) [] (h13 y kk q) (fun rs h => some (rs, h)) = (mr t2 y.1.1 y.1.2.1 (y.2.1 ++ [kk]) y.2.2.2.2.2.1 y.2.2.2.1 y.2.2.2.2.1).bind fun r => res2 mr y kk t2 rg q r := by
  cases q
  · kernel_rfl
  · kernel_rfl
noncomputable def rs2 (mr : Int → T24 → (List (List Int)) → (List Int) → (List T42) → (List Int) → (List Int) → Option F31o.ty) (y : tyO H13) (kk t2 : Int) (rg : List (Nat × SV)) (r : F31o.ty) (q : Bool) : List Rc := ((res2 mr y kk t2 rg q r).getD ([], [])).1
noncomputable def hp2 (mr : Int → T24 → (List (List Int)) → (List Int) → (List T42) → (List Int) → (List Int) → Option F31o.ty) (y : tyO H13) (kk t2 : Int) (rg : List (Nat × SV)) (r : F31o.ty) (q : Bool) : List SO := ((res2 mr y kk t2 rg q r).getD ([], [])).2
theorem res2_some (mr : Int → T24 → (List (List Int)) → (List Int) → (List T42) → (List Int) → (List Int) → Option F31o.ty) (y : tyO H13) (kk t2 : Int) (rg : List (Nat × SV)) (r : F31o.ty) (q : Bool) : res2 mr y kk t2 rg q r = some (rs2 mr y kk t2 rg r q, hp2 mr y kk t2 rg r q) := by
  cases q
  · kernel_rfl
  · kernel_rfl
theorem hp2_8 (mr : Int → T24 → (List (List Int)) → (List Int) → (List T42) → (List Int) → (List Int) → Option F31o.ty) (y : tyO H13) (kk t2 : Int) (rg : List (Nat × SV)) (r : F31o.ty) (q : Bool) : nth (hp2 mr y kk t2 rg r q) 8 = some (.arr (.int .i64) r.2.2.1) := by
  cases q
  · kernel_rfl
  · kernel_rfl
theorem hp2_1 (mr : Int → T24 → (List (List Int)) → (List Int) → (List T42) → (List Int) → (List Int) → Option F31o.ty) (y : tyO H13) (kk t2 : Int) (rg : List (Nat × SV)) (r : F31o.ty) (q : Bool) : nth (hp2 mr y kk t2 rg r q) 1 = some (bif q then .dead else .arr (.int .i64) y.2.1) := by
  cases q
  · kernel_rfl
  · kernel_rfl
theorem hp2_st (mr : Int → T24 → (List (List Int)) → (List Int) → (List T42) → (List Int) → (List Int) → Option F31o.ty) (y : tyO H13) (kk t2 : Int) (rg : List (Nat × SV)) (r : F31o.ty) (q : Bool) : setN (setN (hp2 mr y kk t2 rg r q) 8 .dead) 1 (.arr (.int .i64) y.2.1) = st13 y kk r := by
  cases q
  · kernel_rfl
  · kernel_rfl
noncomputable def F13 (mr : Int → T24 → (List (List Int)) → (List Int) → (List T42) → (List Int) → (List Int) → Option F31o.ty) (y : tyO H13) (kk t2 : Int) (rg : List (Nat × SV)) (r : F31o.ty) (q : Bool) : List (Nat × SV) := ents (rs2 mr y kk t2 rg r q) ++ (61, .own 8) :: ents (rs13 mr y kk t2 rg)
theorem F13_eq (mr : Int → T24 → (List (List Int)) → (List Int) → (List T42) → (List Int) → (List Int) → Option F31o.ty) (y : tyO H13) (kk t2 : Int) (rg : List (Nat × SV)) (r : F31o.ty) (q : Bool) : after (rs2 mr y kk t2 rg r q) (ra13 mr y kk t2 rg) = F13 mr y kk t2 rg r q ++ rb13 kk t2 rg := by
  cases q
  · kernel_rfl
  · kernel_rfl
theorem F13_keys (mr : Int → T24 → (List (List Int)) → (List Int) → (List T42) → (List Int) → (List Int) → Option F31o.ty) (y : tyO H13) (kk t2 : Int) (rg : List (Nat × SV)) (r : F31o.ty) (q : Bool) : (F13 mr y kk t2 rg r q).map (·.1) = [3, 64, 63, 62, 61, 60, 59, 58, 57] := by
  cases q
  · kernel_rfl
  · kernel_rfl
theorem F13_3 (mr : Int → T24 → (List (List Int)) → (List Int) → (List T42) → (List Int) → (List Int) → Option F31o.ty) (y : tyO H13) (kk t2 : Int) (rg : List (Nat × SV)) (r : F31o.ty) (q : Bool) : lk (F13 mr y kk t2 rg r q) 3 = some (.own 9) := by
  cases q
  · kernel_rfl
  · kernel_rfl
attribute [local irreducible] op13 rs13 ra13 h1_13 h13 rs2 hp2 F13 st13
theorem sok31 (mr : Int → T24 → (List (List Int)) → (List Int) → (List T42) → (List Int) → (List Int) → Option F31o.ty) (hmr : CmOk Try.prog (cS31 mr)) : SpOk (E31 mr) Try.f31.ntmps 5 (sp31 mr) (bodyL Try.f31 0) where
  nat := by
    intro id f hf R S g s k
    unfold sp31 at hf
    cases hb : Nat.beq id 13 with
    | false => rw [hb] at hf; cases hf
    | true =>
    rw [hb] at hf
    cases hf
    unfold spF31
    split
    · rw [cond_bind_both]
      congr 1
      split
      · rw [asrt_bind]
        congr 1
        rw [Option.bind_assoc]
        congr 1
        funext r
        rw [asrt_bind]
      · rfl
    · rfl
  sound := by
    intro id ops draw f hm hf R B s k r a X Q hs hk hq
    unfold sp31 at hf
    cases hb : Nat.beq id 13 with
    | false => rw [hb] at hf; cases hf
    | true =>
    rw [hb] at hf
    have hid := Nat.eq_of_beq_eq_true hb
    subst hid
    cases hf
    have hfind := findR_mem nodup13 hm
    rw [find13] at hfind
    obtain ⟨rfl, rfl⟩ := Prod.mk.inj (Option.some.inj hfind)
    unfold spF31 at hk
    split at hk
    · rename_i kk t2 e0 e1 e12 e2 e3
      obtain ⟨hns, hk⟩ := bif_some hk
      split at hk
      · rename_i y hy
        obtain ⟨hlim, hk⟩ := asrt_true hk
        obtain ⟨z, hz, hk⟩ := Option.bind_eq_some_iff.1 hk
        obtain ⟨heq, hk⟩ := asrt_true hk
        have heq : z.2.2.1 = y.2.1 ++ [kk] := of_decide_eq_true heq
        have hheap := decO_enc _ _ _ hy
        have hs' : StOk B Try.f31.ntmps X ⟨rb13 kk t2 s.regs, encO H13 y⟩ a := by
          refine ⟨?_, by rw [← hheap]; exact hs.heap, hs.size, hs.defers⟩
          intro t v hl
          refine hs.regs t v ?_
          simp only [rb13, lk] at hl
          by_cases c0 : t = 0
          · subst c0; rw [e0]; exact hl
          · by_cases c1 : t = 1
            · subst c1; rw [e1]; exact hl
            · by_cases c12 : t = 12
              · subst c12; rw [e12]; exact hl
              · by_cases c2 : t = 2
                · subst c2; rw [e2]; exact hl
                · by_cases c3 : t = 3
                  · subst c3; rw [e3]; exact hl
                  · have n0 : Nat.beq 0 t = false := by rw [Bool.eq_false_iff]; intro h; exact c0 (Nat.eq_of_beq_eq_true h).symm
                    have n1 : Nat.beq 1 t = false := by rw [Bool.eq_false_iff]; intro h; exact c1 (Nat.eq_of_beq_eq_true h).symm
                    have n12 : Nat.beq 12 t = false := by rw [Bool.eq_false_iff]; intro h; exact c12 (Nat.eq_of_beq_eq_true h).symm
                    have n2 : Nat.beq 2 t = false := by rw [Bool.eq_false_iff]; intro h; exact c2 (Nat.eq_of_beq_eq_true h).symm
                    have n3 : Nat.beq 3 t = false := by rw [Bool.eq_false_iff]; intro h; exact c3 (Nat.eq_of_beq_eq_true h).symm
                    simpa only [n0, n1, n12, n2, n3, cond_false] using hl
        refine app_region (ok31 mr hmr) (N := Try.f31.ntmps) (ops := op13) (l1 := op13.take 4) (l2 := op13.drop 5) (d := 61) (sl := 58) (xl := 60) (t := 23) (u := 23) (e := 3) (e' := 3) (g := .int .i64)
          (ty := ((op13[4]?).map (·.type)).getD 0) (pos := ((op13[4]?).map (·.pos)).getD "") (aft := ((op13[4]?).map (·.after)).getD #[])
          (by kernel_rfl) (by kernel_rfl) (by kernel_rfl) (by kernel_rfl) (by kernel_rfl) (by kernel_rfl) (by kernel_rfl) (by kernel_rfl) (by kernel_rfl) (rb := rb13 kk t2 s.regs) (hp := encO H13 y) hs'
          (n := 1) (m := 7) (c := 8) (xs := y.2.1) (ys := [kk]) (h1 := h1_13 y kk) (h3 := st13 y kk z) (rs1 := rs13 mr y kk t2 s.regs) (rs2 := rs2 mr y kk t2 s.regs z) (h2 := hp2 mr y kk t2 s.regs z) (RA := ra13 mr y kk t2 s.regs) (Hq := h13 y kk)
          (res1_eq mr y kk t2 s.regs) (q1_13 mr y kk t2 s.regs) (q2_13 mr y kk t2 s.regs) (q3_13 y kk) (q4_13 y kk) (of_decide_eq_true hlim) (len13 y kk) (ra13_eq mr y kk t2 s.regs) (h13_eq y kk) ?_ ?_ (hp2_1 mr y kk t2 s.regs z) (hp2_st mr y kk t2 s.regs z) ?_
        · intro q
          refine (res2_eq mr y kk t2 s.regs q).trans ?_
          rw [hz, Option.bind_some]
          exact res2_some mr y kk t2 s.regs z q
        · intro q
          rw [← heq]
          exact hp2_8 mr y kk t2 s.regs z q
        · intro q a' X' S' E'
          have S2 : StOk B Try.f31.ntmps X' ⟨(3, .own 9) :: s.regs, st13 y kk z⟩ a' := by
            refine ⟨?_, S'.heap, S'.size, S'.defers⟩
            intro t v hl
            have hf := F13_eq mr y kk t2 s.regs z q
            have hall : ∀ v, lk (F13 mr y kk t2 s.regs z q ++ rb13 kk t2 s.regs) t = some v → Rep X' v .val [a'.tmps.getD t undef] := fun v h => S'.regs t v (by
              show lk (after (rs2 mr y kk t2 s.regs z q) (ra13 mr y kk t2 s.regs)) t = some v
              rw [hf]; exact h)
            simp only [lk] at hl
            by_cases c3 : t = 3
            · subst c3
              refine hall v ?_
              rw [lk_app, F13_3]
              exact hl
            · have n3 : Nat.beq 3 t = false := by rw [Bool.eq_false_iff]; intro h; exact c3 (Nat.eq_of_beq_eq_true h).symm
              rw [n3, cond_false] at hl
              have hk57 : ∀ j, j ∈ [57, 58, 59, 60, 61, 62, 63, 64] → j ≠ t := by
                intro j hj e
                subst e
                simp only [noSlots, List.all_eq_true] at hns
                have := hns j hj
                rw [hl] at this
                cases this
              refine hall v ?_
              rw [lk_app, lk_none (by
                rw [F13_keys]
                intro j hj
                simp only [List.mem_cons, List.not_mem_nil, or_false] at hj
                rcases hj with rfl | rfl | rfl | rfl | rfl | rfl | rfl | rfl | rfl
                · exact fun e => c3 e.symm
                all_goals exact hk57 _ (by simp))]
              simp only [rb13, lk]
              by_cases c0 : t = 0
              · subst c0; rw [e0] at hl; exact hl
              · by_cases c1 : t = 1
                · subst c1; rw [e1] at hl; exact hl
                · by_cases c12 : t = 12
                  · subst c12; rw [e12] at hl; exact hl
                  · by_cases c2 : t = 2
                    · subst c2; rw [e2] at hl; exact hl
                    · have n0 : Nat.beq 0 t = false := by rw [Bool.eq_false_iff]; intro h; exact c0 (Nat.eq_of_beq_eq_true h).symm
                      have n1 : Nat.beq 1 t = false := by rw [Bool.eq_false_iff]; intro h; exact c1 (Nat.eq_of_beq_eq_true h).symm
                      have n12 : Nat.beq 12 t = false := by rw [Bool.eq_false_iff]; intro h; exact c12 (Nat.eq_of_beq_eq_true h).symm
                      have n2 : Nat.beq 2 t = false := by rw [Bool.eq_false_iff]; intro h; exact c2 (Nat.eq_of_beq_eq_true h).symm
                      simp only [n0, n1, n12, n2, n3, cond_false]
                      exact hl
          exact hq _ a' X' S2 (.of E') hk
      · cases hk
    · cases hk

theorem ek31_3 (mr : Int → T24 → (List (List Int)) → (List Int) → (List T42) → (List Int) → (List Int) → Option F31o.ty) : EOkS (E31 mr) (C31 mr) Try.f31.ntmps (sp31 mr) (bodyL Try.f31 0) (L31_3 mr) := eokS_of (e := L31_3 mr) (fun R x Kn k => s31_3 mr x.1.2.2.1 x.1.2.2.2.2.1 x.1.2.2.2.2.2.1 x.2.2.1 (fun v0 v1 v2 v3 v4 v5 => Kn (((), (), x.1.2.2.1, (), x.1.2.2.2.2.1, x.1.2.2.2.2.2.1, v0, ()), ((v1, v2, (), (), ()), x.2.2.1, (), v3, v4, v5, ()))) (fun y0 y1 y2 y3 y4 => k (.exit 0) ⟨[(3, (.own 5))], [(.box (.agg (.scons (.dat G24 y0) (.scons (.dat (.sl (.sl (.int .i64))) y1) (.scons (.own 3) (.scons (.own 4) .snil)))))), (.arr (.int .i64) x.2.2.1), .dead, (.arr (.int .i64) y2), (.arr (.int .i64) y3), (.arr G42 y4)]⟩) x.1.2.2.2.2.2.2.1 x.2.1.1 x.2.1.2.1 x.2.2.2.2.1 x.2.2.2.2.2.1 x.2.2.2.2.2.2.1) (fun _ _ _ => rfl) (fun _ _ _ _ => rfl) (fun R x Kn k => by kernel_rfl)
theorem lm31 (mr : Int → T24 → (List (List Int)) → (List Int) → (List T42) → (List Int) → (List Int) → Option F31o.ty) (hmr : CmOk Try.prog (cS31 mr)) : ∀ c, Try.f31.body = some c → LmOk (E31 mr) (C31 mr) Try.f31.ntmps c := lmOk_one (ok31 mr hmr) ord (sp := sp31 mr) (a := bodyL Try.f31 0) (by
  intro c hc b hb
  have h1 : (match Try.f31.body with | some c => loops c | none => []) = [bodyL Try.f31 0] := by kernel_rfl
  rw [hc] at h1
  simp only at h1
  rw [h1] at hb
  simpa using hb) (sok31 mr hmr) (ek31_3 mr)
noncomputable def M31 (mr : Int → T24 → (List (List Int)) → (List Int) → (List T42) → (List Int) → (List Int) → Option F31o.ty) (a0 : Int) (a1 : T24) (a2 : (List (List Int))) (a3 : (List Int)) (a4 : (List T42)) (a5 : (List Int)) (a6 : (List Int)) : Option F31o.ty :=
  (m27 (a1, a2, a5, a6, ())).bind fun r1 =>
  bif (decide (r1 ≥ 0)) then
    (cloneM a3).bind fun r2 =>
    asrt true (decide (List.length (α := T42) a4 + List.length (α := T42) [(r2, 0, r1, ())] ≤ LIM)) (
      some (((), ()), ((a1, a2, (), (), ()), a3, (), a5, a6, (a4 ++ [(r2, 0, r1, ())]), ())))
  else
    (m28 (a1, a2, a5, a6, ())).bind fun r3 =>
    bif (decide (r3 ≥ a0)) then
      (cloneM a3).bind fun r4 =>
      asrt true (decide (List.length (α := T42) a4 + List.length (α := T42) [(r4, r3, (-1), ())] ≤ LIM)) (
        some (((), ()), ((a1, a2, (), (), ()), a3, (), a5, a6, (a4 ++ [(r4, r3, (-1), ())]), ())))
    else
      (idx a1.1 (List.length a3 : Int)).bind fun x5 =>
      l31_3 mr a0 (List.length a3 : Int) (List.length x5 : Int) a3 (fun y33 y34 y35 y36 y37 =>
          some (((), ()), ((y33, y34, (), (), ()), a3, (), y35, y36, y37, ()))) FUEL 0 a1 a2 a5 a6 a4
theorem q31 (mr : Int → T24 → (List (List Int)) → (List Int) → (List T42) → (List Int) → (List Int) → Option F31o.ty) (x : F31i.ty) : execF (E31 mr) (C31 mr) Try.f31 ((F31i.enc x).regs.map (·.2)) (F31i.enc x).heap (retS [] [] 5 F31o) = M31 mr x.1.2.2.1 x.2.1.1 x.2.1.2.1 x.2.2.1 x.2.2.2.1 x.2.2.2.2.1 x.2.2.2.2.2.1 := by kernel_rfl
theorem R31 (mr : Int → T24 → (List (List Int)) → (List Int) → (List T42) → (List Int) → (List Int) → Option F31o.ty) (hmr : CmOk Try.prog (cS31 mr)) : CRun Try.prog 31 F31i F31o (fun x => M31 mr x.1.2.2.1 x.2.1.1 x.2.1.2.1 x.2.2.1 x.2.2.2.1 x.2.2.2.2.1 x.2.2.2.2.2.1) := st_run (E := E31 mr) (ok31 mr hmr) ord (lm31 mr hmr) Try.func31 (q31 mr)
noncomputable def m31N : Nat → Int → T24 → (List (List Int)) → (List Int) → (List T42) → (List Int) → (List Int) → Option F31o.ty
  | 0, _, _, _, _, _, _, _ => none
  | n + 1, a0, a1, a2, a3, a4, a5, a6 => M31 (m31N n) a0 a1 a2 a3 a4 a5 a6
theorem dS31 : ∀ n, CmOk Try.prog (cS31 (m31N n))
  | 0 => st_ok ca31 (fun _ _ h => by cases h)
  | n + 1 => st_ok ca31 (R31 (m31N n) (dS31 n))
noncomputable def m31 (a0 : Int) (a1 : T24) (a2 : (List (List Int))) (a3 : (List Int)) (a4 : (List T42)) (a5 : (List Int)) (a6 : (List Int)) : Option F31o.ty := m31N FUEL a0 a1 a2 a3 a4 a5 a6
noncomputable def c31 : CmE := cS31 (fun a0 a1 a2 a3 a4 a5 a6 => m31 a0 a1 a2 a3 a4 a5 a6)
theorem d31 : CmOk Try.prog c31 := dS31 FUEL

/-! 10: consol/plan.Best -/
theorem ca25 : callable Try.prog 25 := ⟨Try.f25, Try.func25, by kernel_rfl, by kernel_rfl⟩
noncomputable def E10i25 : Env := mkEnv2 Try.prog [e36] [c29]
theorem ok10i25 : EnvOk (E10i25) := mkEnv2_ok (by simp only [List.mem_cons, List.not_mem_nil, or_false, forall_eq]; exact p36) (by simp only [List.mem_cons, List.not_mem_nil, or_false, forall_eq]; exact d29)
/-- a round of a loop of consol/plan.open -/
noncomputable def s10_1 {R : Type} (t42 : (List Int)) (t43 : Int) (kn : Int → (List Int) → Option R) (k1 : (List Int) → Option R) (t44 : Int) (o2 : (List Int)) : Option R :=
  bif (decide (t44 < t43)) then
    (idx t42 t44).bind fun x7 =>
    asrt true (decide (0 ≤ t44) && decide (t44 < (List.length o2 : Int))) (
      ((o2)[(t44 : Int).toNat]?).bind fun x8 =>
      asrt true (decide (0 ≤ t44) && decide (t44 < (List.length o2 : Int))) (
        ((o2)[(t44 : Int).toNat]?).bind fun x9 =>
        kn (IntKind.i64.wrap (t44 + 1)) (List.set o2 (t44 : Int).toNat (bif decide (x7 < x8) then x7 else x8))))
  else
    k1 o2
noncomputable def l10_1 {R : Type} (t42 : (List Int)) (t43 : Int) (k1 : (List Int) → Option R) : Nat → Int → (List Int) → Option R
  | 0, _, _ => none
  | n + 1, t44, o2 => s10_1 t42 t43 (l10_1 t42 t43 k1 n) k1 t44 o2
noncomputable def L10_1 : LE := ⟨11, 1, ⟨[(3, (.box 1 [] 0)), (6, (.own 2)), (24, (.dat (.sl (.sl G42)))), (25, (.dat (.int .i64))), (26, (.dat (.int .i64))), (35, (.dat (.sl G42))), (36, (.dat (.int .i64))), (37, (.dat (.int .i64))), (42, (.dat (.sl (.int .i64)))), (43, (.dat (.int .i64))), (44, (.dat (.int .i64)))], [.dead, (.box (.agg (.scons (.dat G24) (.scons (.own 3) (.scons (.own 4) (.scons (.own 5) .snil)))))), (.arr (.int .i64)), (.arr (.sl (.int .i64))), (.arr (.int .i64)), (.arr (.int .i64))]⟩, fun R n x k => l10_1 x.1.2.2.2.2.2.2.2.2.1 x.1.2.2.2.2.2.2.2.2.2.1 (fun y0 => k (.exit 4) ⟨[(3, (.box 1 [] 0)), (6, (.own 2)), (24, (.dat (.sl (.sl G42)) x.1.2.2.1)), (25, (.dat (.int .i64) x.1.2.2.2.1)), (26, (.dat (.int .i64) x.1.2.2.2.2.1)), (35, (.dat (.sl G42) x.1.2.2.2.2.2.1)), (36, (.dat (.int .i64) x.1.2.2.2.2.2.2.1)), (37, (.dat (.int .i64) x.1.2.2.2.2.2.2.2.1))], [.dead, (.box (.agg (.scons (.dat G24 x.2.2.1.1) (.scons (.own 3) (.scons (.own 4) (.scons (.own 5) .snil)))))), (.arr (.int .i64) y0), (.arr (.sl (.int .i64)) x.2.2.2.2.1), (.arr (.int .i64) x.2.2.2.2.2.1), (.arr (.int .i64) x.2.2.2.2.2.2.1)]⟩) n x.1.2.2.2.2.2.2.2.2.2.2.1 x.2.2.2.1⟩
/-- a round of a loop of consol/plan.open -/
noncomputable def s10_2 {R : Type} (t35 : (List T42)) (t36 : Int) (kn : Int → (List Int) → Option R) (k1 : (List Int) → Option R) (t37 : Int) (o2 : (List Int)) : Option R :=
  bif (decide (t37 < t36)) then
    (idx t35 t37).bind fun x6 =>
    l10_1 x6.1 (List.length x6.1 : Int) (fun y10 =>
        kn (IntKind.i64.wrap (t37 + 1)) y10) FUEL 0 o2
  else
    k1 o2
noncomputable def l10_2 {R : Type} (t35 : (List T42)) (t36 : Int) (k1 : (List Int) → Option R) : Nat → Int → (List Int) → Option R
  | 0, _, _ => none
  | n + 1, t37, o2 => s10_2 t35 t36 (l10_2 t35 t36 k1 n) k1 t37 o2
noncomputable def L10_2 : LE := ⟨8, 1, ⟨[(3, (.box 1 [] 0)), (6, (.own 2)), (24, (.dat (.sl (.sl G42)))), (25, (.dat (.int .i64))), (26, (.dat (.int .i64))), (35, (.dat (.sl G42))), (36, (.dat (.int .i64))), (37, (.dat (.int .i64)))], [.dead, (.box (.agg (.scons (.dat G24) (.scons (.own 3) (.scons (.own 4) (.scons (.own 5) .snil)))))), (.arr (.int .i64)), (.arr (.sl (.int .i64))), (.arr (.int .i64)), (.arr (.int .i64))]⟩, fun R n x k => l10_2 x.1.2.2.2.2.2.1 x.1.2.2.2.2.2.2.1 (fun y0 => k (.exit 2) ⟨[(3, (.box 1 [] 0)), (6, (.own 2)), (24, (.dat (.sl (.sl G42)) x.1.2.2.1)), (25, (.dat (.int .i64) x.1.2.2.2.1)), (26, (.dat (.int .i64) x.1.2.2.2.2.1))], [.dead, (.box (.agg (.scons (.dat G24 x.2.2.1.1) (.scons (.own 3) (.scons (.own 4) (.scons (.own 5) .snil)))))), (.arr (.int .i64) y0), (.arr (.sl (.int .i64)) x.2.2.2.2.1), (.arr (.int .i64) x.2.2.2.2.2.1), (.arr (.int .i64) x.2.2.2.2.2.2.1)]⟩) n x.1.2.2.2.2.2.2.2.1 x.2.2.2.1⟩
/-- a round of a loop of consol/plan.open -/
noncomputable def s10_3 {R : Type} (t70 : (List Int)) (t71 : Int) (kn : Int → (List Int) → Option R) (k1 : (List Int) → Option R) (t72 : Int) (o3 : (List Int)) : Option R :=
  bif (decide (t72 < t71)) then
    (idx t70 t72).bind fun x12 =>
    asrt true (decide (0 ≤ t72) && decide (t72 < (List.length o3 : Int))) (
      ((o3)[(t72 : Int).toNat]?).bind fun x13 =>
      asrt true (decide (0 ≤ t72) && decide (t72 < (List.length o3 : Int))) (
        ((o3)[(t72 : Int).toNat]?).bind fun x14 =>
        kn (IntKind.i64.wrap (t72 + 1)) (List.set o3 (t72 : Int).toNat (IntKind.i64.wrap (x13 + x12)))))
  else
    k1 o3
noncomputable def l10_3 {R : Type} (t70 : (List Int)) (t71 : Int) (k1 : (List Int) → Option R) : Nat → Int → (List Int) → Option R
  | 0, _, _ => none
  | n + 1, t72, o3 => s10_3 t70 t71 (l10_3 t70 t71 k1 n) k1 t72 o3
noncomputable def L10_3 : LE := ⟨18, 1, ⟨[(3, (.box 1 [] 0)), (24, (.dat (.sl (.sl G42)))), (25, (.dat (.int .i64))), (26, (.dat (.int .i64))), (70, (.dat (.sl (.int .i64)))), (71, (.dat (.int .i64))), (72, (.dat (.int .i64)))], [.dead, (.box (.agg (.scons (.dat G24) (.scons (.own 2) (.scons (.own 3) (.scons (.own 4) .snil)))))), (.arr (.sl (.int .i64))), (.arr (.int .i64)), (.arr (.int .i64))]⟩, fun R n x k => l10_3 x.1.2.2.2.2.1 x.1.2.2.2.2.2.1 (fun y0 => k (.exit 6) ⟨[(3, (.box 1 [] 0)), (24, (.dat (.sl (.sl G42)) x.1.2.1)), (25, (.dat (.int .i64) x.1.2.2.1)), (26, (.dat (.int .i64) x.1.2.2.2.1))], [.dead, (.box (.agg (.scons (.dat G24 x.2.2.1.1) (.scons (.own 2) (.scons (.own 3) (.scons (.own 4) .snil)))))), (.arr (.sl (.int .i64)) x.2.2.2.1), (.arr (.int .i64) y0), (.arr (.int .i64) x.2.2.2.2.2.1)]⟩) n x.1.2.2.2.2.2.2.1 x.2.2.2.2.1⟩
/-- a round of a loop of consol/plan.open -/
noncomputable def s10_4 {R : Type} (t24 : (List (List T42))) (t25 : Int) (kn : Int → (List (List Int)) → (List Int) → Option R) (k1 : (List (List Int)) → (List Int) → Option R) (t26 : Int) (o2 : (List (List Int))) (o3 : (List Int)) : Option R :=
  bif (decide (t26 < t25)) then
    (idx t24 t26).bind fun x3 =>
    (idx x3 0).bind fun x4 =>
    (cloneM x4.1).bind fun r5 =>
    l10_2 x3 (List.length x3 : Int) (fun y11 =>
        asrt true (decide (List.length (α := (List Int)) o2 + List.length (α := (List Int)) [y11] ≤ LIM)) (
          l10_3 y11 (List.length y11 : Int) (fun y15 =>
              kn (IntKind.i64.wrap (t26 + 1)) (o2 ++ [y11]) y15) FUEL 0 o3)) FUEL 0 r5
  else
    k1 o2 o3
noncomputable def l10_4 {R : Type} (t24 : (List (List T42))) (t25 : Int) (k1 : (List (List Int)) → (List Int) → Option R) : Nat → Int → (List (List Int)) → (List Int) → Option R
  | 0, _, _, _ => none
  | n + 1, t26, o2, o3 => s10_4 t24 t25 (l10_4 t24 t25 k1 n) k1 t26 o2 o3
noncomputable def L10_4 : LE := ⟨4, 1, ⟨[(3, (.box 1 [] 0)), (24, (.dat (.sl (.sl G42)))), (25, (.dat (.int .i64))), (26, (.dat (.int .i64)))], [.dead, (.box (.agg (.scons (.dat G24) (.scons (.own 2) (.scons (.own 3) (.scons (.own 4) .snil)))))), (.arr (.sl (.int .i64))), (.arr (.int .i64)), (.arr (.int .i64))]⟩, fun R n x k => l10_4 x.1.2.1 x.1.2.2.1 (fun y0 y1 => k (.exit 0) ⟨[(3, (.box 1 [] 0))], [.dead, (.box (.agg (.scons (.dat G24 x.2.2.1.1) (.scons (.own 2) (.scons (.own 3) (.scons (.own 4) .snil)))))), (.arr (.sl (.int .i64)) y0), (.arr (.int .i64) y1), (.arr (.int .i64) x.2.2.2.2.2.1)]⟩) n x.1.2.2.2.1 x.2.2.2.1 x.2.2.2.2.1⟩
noncomputable def C10i25 : Cfg := mkCfg [(4, ⟨[3, 24, 25, 26], [(3, [1], (.sl (.int .i64)))], []⟩), (8, ⟨[3, 6, 24, 25, 26, 35, 36, 37], [], []⟩), (11, ⟨[3, 6, 24, 25, 26, 35, 36, 37, 42, 43, 44], [], []⟩), (18, ⟨[3, 24, 25, 26, 70, 71, 72], [], []⟩)] [(4, (⟨[3], [], []⟩, ⟨[2], [], []⟩)), (8, (⟨[3, 6, 24, 25, 26], [], []⟩, ⟨[2], [], []⟩)), (11, (⟨[3, 6, 24, 25, 26, 35, 36, 37], [], []⟩, ⟨[2], [], []⟩)), (18, (⟨[3, 24, 25, 26], [], []⟩, ⟨[2], [], []⟩))] (([(2, L10_1), (1, L10_2), (3, L10_3), (0, L10_4)] : List (Nat × LE)).map (·.2)) [] [(15, [(6, [], (.sl (.int .i64)))]), (22, [(3, [1], (.sl (.sl (.int .i64))))])]
theorem ek10_1 : EOk (E10i25) (C10i25) Try.f25.ntmps (bodyL Try.f25 2) (L10_1) := eok_of (e := L10_1) (fun R x Kn k => s10_1 x.1.2.2.2.2.2.2.2.2.1 x.1.2.2.2.2.2.2.2.2.2.1 (fun v0 v1 => Kn (((), (), x.1.2.2.1, x.1.2.2.2.1, x.1.2.2.2.2.1, x.1.2.2.2.2.2.1, x.1.2.2.2.2.2.2.1, x.1.2.2.2.2.2.2.2.1, x.1.2.2.2.2.2.2.2.2.1, x.1.2.2.2.2.2.2.2.2.2.1, v0, ()), ((), (x.2.2.1.1, (), (), (), ()), v1, x.2.2.2.2.1, x.2.2.2.2.2.1, x.2.2.2.2.2.2.1, ()))) (fun y0 => k (.exit 4) ⟨[(3, (.box 1 [] 0)), (6, (.own 2)), (24, (.dat (.sl (.sl G42)) x.1.2.2.1)), (25, (.dat (.int .i64) x.1.2.2.2.1)), (26, (.dat (.int .i64) x.1.2.2.2.2.1)), (35, (.dat (.sl G42) x.1.2.2.2.2.2.1)), (36, (.dat (.int .i64) x.1.2.2.2.2.2.2.1)), (37, (.dat (.int .i64) x.1.2.2.2.2.2.2.2.1))], [.dead, (.box (.agg (.scons (.dat G24 x.2.2.1.1) (.scons (.own 3) (.scons (.own 4) (.scons (.own 5) .snil)))))), (.arr (.int .i64) y0), (.arr (.sl (.int .i64)) x.2.2.2.2.1), (.arr (.int .i64) x.2.2.2.2.2.1), (.arr (.int .i64) x.2.2.2.2.2.2.1)]⟩) x.1.2.2.2.2.2.2.2.2.2.2.1 x.2.2.2.1) (fun _ _ _ => rfl) (fun _ _ _ _ => rfl) (fun R x Kn k => by kernel_rfl)
theorem ek10_2 : EOk (E10i25) (C10i25) Try.f25.ntmps (bodyL Try.f25 1) (L10_2) := eok_of (e := L10_2) (fun R x Kn k => s10_2 x.1.2.2.2.2.2.1 x.1.2.2.2.2.2.2.1 (fun v0 v1 => Kn (((), (), x.1.2.2.1, x.1.2.2.2.1, x.1.2.2.2.2.1, x.1.2.2.2.2.2.1, x.1.2.2.2.2.2.2.1, v0, ()), ((), (x.2.2.1.1, (), (), (), ()), v1, x.2.2.2.2.1, x.2.2.2.2.2.1, x.2.2.2.2.2.2.1, ()))) (fun y0 => k (.exit 2) ⟨[(3, (.box 1 [] 0)), (6, (.own 2)), (24, (.dat (.sl (.sl G42)) x.1.2.2.1)), (25, (.dat (.int .i64) x.1.2.2.2.1)), (26, (.dat (.int .i64) x.1.2.2.2.2.1))], [.dead, (.box (.agg (.scons (.dat G24 x.2.2.1.1) (.scons (.own 3) (.scons (.own 4) (.scons (.own 5) .snil)))))), (.arr (.int .i64) y0), (.arr (.sl (.int .i64)) x.2.2.2.2.1), (.arr (.int .i64) x.2.2.2.2.2.1), (.arr (.int .i64) x.2.2.2.2.2.2.1)]⟩) x.1.2.2.2.2.2.2.2.1 x.2.2.2.1) (fun _ _ _ => rfl) (fun _ _ _ _ => rfl) (fun R x Kn k => by kernel_rfl)
theorem ek10_3 : EOk (E10i25) (C10i25) Try.f25.ntmps (bodyL Try.f25 3) (L10_3) := eok_of (e := L10_3) (fun R x Kn k => s10_3 x.1.2.2.2.2.1 x.1.2.2.2.2.2.1 (fun v0 v1 => Kn (((), x.1.2.1, x.1.2.2.1, x.1.2.2.2.1, x.1.2.2.2.2.1, x.1.2.2.2.2.2.1, v0, ()), ((), (x.2.2.1.1, (), (), (), ()), x.2.2.2.1, v1, x.2.2.2.2.2.1, ()))) (fun y0 => k (.exit 6) ⟨[(3, (.box 1 [] 0)), (24, (.dat (.sl (.sl G42)) x.1.2.1)), (25, (.dat (.int .i64) x.1.2.2.1)), (26, (.dat (.int .i64) x.1.2.2.2.1))], [.dead, (.box (.agg (.scons (.dat G24 x.2.2.1.1) (.scons (.own 2) (.scons (.own 3) (.scons (.own 4) .snil)))))), (.arr (.sl (.int .i64)) x.2.2.2.1), (.arr (.int .i64) y0), (.arr (.int .i64) x.2.2.2.2.2.1)]⟩) x.1.2.2.2.2.2.2.1 x.2.2.2.2.1) (fun _ _ _ => rfl) (fun _ _ _ _ => rfl) (fun R x Kn k => by kernel_rfl)
theorem ek10_4 : EOk (E10i25) (C10i25) Try.f25.ntmps (bodyL Try.f25 0) (L10_4) := eok_of (e := L10_4) (fun R x Kn k => s10_4 x.1.2.1 x.1.2.2.1 (fun v0 v1 v2 => Kn (((), x.1.2.1, x.1.2.2.1, v0, ()), ((), (x.2.2.1.1, (), (), (), ()), v1, v2, x.2.2.2.2.2.1, ()))) (fun y0 y1 => k (.exit 0) ⟨[(3, (.box 1 [] 0))], [.dead, (.box (.agg (.scons (.dat G24 x.2.2.1.1) (.scons (.own 2) (.scons (.own 3) (.scons (.own 4) .snil)))))), (.arr (.sl (.int .i64)) y0), (.arr (.int .i64) y1), (.arr (.int .i64) x.2.2.2.2.2.1)]⟩) x.1.2.2.2.1 x.2.2.2.1 x.2.2.2.2.1) (fun _ _ _ => rfl) (fun _ _ _ _ => rfl) (fun R x Kn k => by kernel_rfl)
theorem lm10i25 : ∀ c, Try.f25.body = some c → LmOk (E10i25) (C10i25) Try.f25.ntmps c := lmOk_of (ps := [(2, L10_1), (1, L10_2), (3, L10_3), (0, L10_4)]) (by kernel_rfl) (by kernel_rfl) ⟨ek10_1, ek10_2, ek10_3, ek10_4, trivial⟩
noncomputable def c10i25 : CmE := inl E10i25 C10i25 25 Try.f25
theorem d10i25 : CmOk Try.prog c10i25 := inl_ok (E := E10i25) ok10i25 ord lm10i25 Try.func25 ca25

theorem ca10 : callable Try.prog 10 := ⟨Try.f10, Try.func10, by kernel_rfl, by kernel_rfl⟩
noncomputable def E10 : Env := mkEnv2 Try.prog [e16] [c10i25, c26, c31]
theorem ok10 : EnvOk (E10) := mkEnv2_ok (by simp only [List.mem_cons, List.not_mem_nil, or_false, forall_eq]; exact p16) (by simp only [List.mem_cons, List.not_mem_nil, or_false, forall_eq_or_imp, forall_eq]; exact ⟨d10i25, d26, d31⟩)
noncomputable def C10 : Cfg := noCfg
theorem lm10 : ∀ c, Try.f10.body = some c → LmOk (E10) (C10) Try.f10.ntmps c := fun _ _ => noCfg_lm
noncomputable def m10 (a0 : T24) : Option (((List Int) × (Int × ((List T42) × (Int × Unit))))) :=
  (m16 a0).bind fun r1 =>
  bif (!r1) then
    some ([], 0, [], 1, ())
  else
    (m36 a0).bind fun r2 =>
    asrt true (decide (0 ≤ r2) && decide (r2 ≤ r2) && decide (r2 ≤ (LIM : Int))) (
      asrt true (decide (0 ≤ (List.length a0.2.1 : Int)) && decide ((List.length a0.2.1 : Int) ≤ (List.length a0.2.1 : Int)) && decide ((List.length a0.2.1 : Int) ≤ (LIM : Int))) (
        l10_4 a0.1 (List.length a0.1 : Int) (fun y16 y17 =>
            (m26 0 [] 0 a0 a0 y16 [] y17 (List.replicate ((List.length a0.2.1 : Int) : Int).toNat 0)).bind fun r18 =>
            bif (decide (r18.2.1 > 100000)) then
              some ([], 0, [], 6, ())
            else
              bif (List.isEmpty (α := Int) r18.2.2.2.1) then
                some ([], 0, [], 4, ())
              else
                (m31 r18.2.2.2.2.1 r18.2.2.2.2.2.2.2.2.1.1 r18.2.2.2.2.2.2.2.2.1.2.1 [] [] r18.2.2.2.2.2.2.2.2.2.2.1 r18.2.2.2.2.2.2.2.2.2.2.2.1).bind fun r19 =>
                bif (decide ((List.length r19.2.2.2.2.2.2.1 : Int) > 100000)) then
                  some ([], 0, [], 6, ())
                else
                  some (r18.2.2.2.1, r18.2.2.2.2.1, r19.2.2.2.2.2.2.1, 0, ())) FUEL 0 [] (List.replicate (r2 : Int).toNat 0)))
noncomputable def e10 : PmE := entry 10 [G24] true (.cons (.sl (.int .i64)) (.cons (.int .i64) (.cons (.sl G42) (.cons (.int .i64) .nil)))) (fun x => m10 x.1)
theorem q10 (x : tyL [G24]) : execF E10 C10 Try.f10 (datL [G24] x) [] (retK true (.cons (.sl (.int .i64)) (.cons (.int .i64) (.cons (.sl G42) (.cons (.int .i64) .nil))))) = m10 x.1 := by kernel_rfl
theorem p10 : PmOk Try.prog e10 := pm_ok (E := E10) ok10 ord lm10 Try.func10 ca10 q10

noncomputable def cK10 : CmE := konE 10 [G24] true (.cons (.sl (.int .i64)) (.cons (.int .i64) (.cons (.sl G42) (.cons (.int .i64) .nil)))) (fun x => m10 x.1)
theorem dK10 : CmOk Try.prog cK10 := kon_ok p10

/-! 14: consol/consolref40.Ints -/
theorem ca14 : callable Try.prog 14 := ⟨Try.f14, Try.func14, by kernel_rfl, by kernel_rfl⟩
noncomputable def E14 : Env := mkEnv2 Try.prog [] []
theorem ok14 : EnvOk (E14) := mkEnv2_ok (by simp) (by simp)
/-- a round of a loop of consol/consolref40.Ints -/
noncomputable def s14_1 {R : Type} (t0 : (List Int)) (t1 : (List Int)) (kn : Int → Option R) (k1 : Option R) (k2 : Option R) (t5 : Int) : Option R :=
  bif (decide (t5 < (List.length t0 : Int))) then
    (idx t0 t5).bind fun x1 =>
    (idx t1 t5).bind fun x2 =>
    bif (x1 != x2) then
      k2
    else
      kn (IntKind.i64.wrap (t5 + 1))
  else
    k1
noncomputable def l14_1 {R : Type} (t0 : (List Int)) (t1 : (List Int)) (k1 : Option R) (k2 : Option R) : Nat → Int → Option R
  | 0, _ => none
  | n + 1, t5 => s14_1 t0 t1 (l14_1 t0 t1 k1 k2 n) k1 k2 t5
noncomputable def L14_1 : LE := ⟨5, 0, ⟨[(0, (.dat (.sl (.int .i64)))), (1, (.dat (.sl (.int .i64)))), (5, (.dat (.int .i64)))], []⟩, fun R n x k => l14_1 x.1.1 x.1.2.1 (k (.exit 0) ⟨[], []⟩) (k .ret ⟨[(4, (.dat .bool false))], []⟩) n x.1.2.2.1⟩
noncomputable def C14 : Cfg := mkCfg [(5, ⟨[0, 1, 5], [], []⟩)] [(5, (⟨[], [], []⟩, ⟨[4], [], []⟩))] (([(0, L14_1)] : List (Nat × LE)).map (·.2))
theorem ek14_1 : EOk (E14) (C14) Try.f14.ntmps (bodyL Try.f14 0) (L14_1) := eok_of (e := L14_1) (fun R x Kn k => s14_1 x.1.1 x.1.2.1 (fun v0 => Kn ((x.1.1, x.1.2.1, v0, ()), (()))) (k (.exit 0) ⟨[], []⟩) (k .ret ⟨[(4, (.dat .bool false))], []⟩) x.1.2.2.1) (fun _ _ _ => rfl) (fun _ _ _ _ => rfl) (fun R x Kn k => by kernel_rfl)
theorem lm14 : ∀ c, Try.f14.body = some c → LmOk (E14) (C14) Try.f14.ntmps c := lmOk_of (ps := [(0, L14_1)]) (by kernel_rfl) (by kernel_rfl) ⟨ek14_1, trivial⟩
noncomputable def m14 (a0 : (List Int)) (a1 : (List Int)) : Option (Bool) :=
  bif ((List.length a0 : Int) != (List.length a1 : Int)) then
    some false
  else
    l14_1 a0 a1 (
        some true) (
        some false) FUEL 0
noncomputable def e14 : PmE := entry 14 [(.sl (.int .i64)), (.sl (.int .i64))] false .bool (fun x => m14 x.1 x.2.1)
theorem q14 (x : tyL [(.sl (.int .i64)), (.sl (.int .i64))]) : execF E14 C14 Try.f14 (datL [(.sl (.int .i64)), (.sl (.int .i64))] x) [] (retK false .bool) = m14 x.1 x.2.1 := by kernel_rfl
theorem p14 : PmOk Try.prog e14 := pm_ok (E := E14) ok14 ord lm14 Try.func14 ca14 q14

/-! 15: consol/consolref40.Same -/
theorem ca15 : callable Try.prog 15 := ⟨Try.f15, Try.func15, by kernel_rfl, by kernel_rfl⟩
noncomputable def E15 : Env := mkEnv2 Try.prog [e14] []
theorem ok15 : EnvOk (E15) := mkEnv2_ok (by simp only [List.mem_cons, List.not_mem_nil, or_false, forall_eq]; exact p14) (by simp)
/-- a round of a loop of consol/consolref40.Same -/
noncomputable def s15_1 {R : Type} (t0 : (List T42)) (t1 : (List T42)) (kn : Int → Option R) (k1 : Option R) (k2 : Option R) (t5 : Int) : Option R :=
  bif (decide (t5 < (List.length t0 : Int))) then
    (idx t0 t5).bind fun x1 =>
    (idx t1 t5).bind fun x2 =>
    (idxG ((x1.2.1 != x2.2.1) == false) (([] : (List Int)), 0, 0, ()) t0 t5).bind fun x3 =>
    (idxG ((x1.2.1 != x2.2.1) == false) (([] : (List Int)), 0, 0, ()) t1 t5).bind fun x4 =>
    (idxG (((x1.2.1 != x2.2.1) || (x3.2.2.1 != x4.2.2.1)) == false) (([] : (List Int)), 0, 0, ()) t0 t5).bind fun x5 =>
    (idxG (((x1.2.1 != x2.2.1) || (x3.2.2.1 != x4.2.2.1)) == false) (([] : (List Int)), 0, 0, ()) t1 t5).bind fun x6 =>
    (bif (((x1.2.1 != x2.2.1) || (x3.2.2.1 != x4.2.2.1)) == false) then (m14 x5.1 x6.1) else some false).bind fun r7 =>
    bif (((x1.2.1 != x2.2.1) || (x3.2.2.1 != x4.2.2.1)) || (!r7)) then
      k2
    else
      kn (IntKind.i64.wrap (t5 + 1))
  else
    k1
noncomputable def l15_1 {R : Type} (t0 : (List T42)) (t1 : (List T42)) (k1 : Option R) (k2 : Option R) : Nat → Int → Option R
  | 0, _ => none
  | n + 1, t5 => s15_1 t0 t1 (l15_1 t0 t1 k1 k2 n) k1 k2 t5
noncomputable def L15_1 : LE := ⟨5, 0, ⟨[(0, (.dat (.sl G42))), (1, (.dat (.sl G42))), (5, (.dat (.int .i64)))], []⟩, fun R n x k => l15_1 x.1.1 x.1.2.1 (k (.exit 0) ⟨[], []⟩) (k .ret ⟨[(4, (.dat .bool false))], []⟩) n x.1.2.2.1⟩
noncomputable def C15 : Cfg := mkCfg [(5, ⟨[0, 1, 5], [], []⟩)] [(5, (⟨[], [], []⟩, ⟨[4], [], []⟩))] (([(0, L15_1)] : List (Nat × LE)).map (·.2))
theorem ek15_1 : EOk (E15) (C15) Try.f15.ntmps (bodyL Try.f15 0) (L15_1) := eok_of (e := L15_1) (fun R x Kn k => s15_1 x.1.1 x.1.2.1 (fun v0 => Kn ((x.1.1, x.1.2.1, v0, ()), (()))) (k (.exit 0) ⟨[], []⟩) (k .ret ⟨[(4, (.dat .bool false))], []⟩) x.1.2.2.1) (fun _ _ _ => rfl) (fun _ _ _ _ => rfl) (fun R x Kn k => by kernel_rfl)
theorem lm15 : ∀ c, Try.f15.body = some c → LmOk (E15) (C15) Try.f15.ntmps c := lmOk_of (ps := [(0, L15_1)]) (by kernel_rfl) (by kernel_rfl) ⟨ek15_1, trivial⟩
noncomputable def m15 (a0 : (List T42)) (a1 : (List T42)) : Option (Bool) :=
  bif ((List.length a0 : Int) != (List.length a1 : Int)) then
    some false
  else
    l15_1 a0 a1 (
        some true) (
        some false) FUEL 0
noncomputable def e15 : PmE := entry 15 [(.sl G42), (.sl G42)] false .bool (fun x => m15 x.1 x.2.1)
theorem q15 (x : tyL [(.sl G42), (.sl G42)]) : execF E15 C15 Try.f15 (datL [(.sl G42), (.sl G42)] x) [] (retK false .bool) = m15 x.1 x.2.1 := by kernel_rfl
theorem p15 : PmOk Try.prog e15 := pm_ok (E := E15) ok15 ord lm15 Try.func15 ca15 q15

/-! 12: consol/plan.Cost -/
noncomputable def E12i25 : Env := mkEnv2 Try.prog [e36] [c29]
theorem ok12i25 : EnvOk (E12i25) := mkEnv2_ok (by simp only [List.mem_cons, List.not_mem_nil, or_false, forall_eq]; exact p36) (by simp only [List.mem_cons, List.not_mem_nil, or_false, forall_eq]; exact d29)
/-- a round of a loop of consol/plan.open -/
noncomputable def s12_1 {R : Type} (t42 : (List Int)) (t43 : Int) (kn : Int → (List Int) → Option R) (k1 : (List Int) → Option R) (t44 : Int) (o2 : (List Int)) : Option R :=
  bif (decide (t44 < t43)) then
    (idx t42 t44).bind fun x7 =>
    asrt true (decide (0 ≤ t44) && decide (t44 < (List.length o2 : Int))) (
      ((o2)[(t44 : Int).toNat]?).bind fun x8 =>
      asrt true (decide (0 ≤ t44) && decide (t44 < (List.length o2 : Int))) (
        ((o2)[(t44 : Int).toNat]?).bind fun x9 =>
        kn (IntKind.i64.wrap (t44 + 1)) (List.set o2 (t44 : Int).toNat (bif decide (x7 < x8) then x7 else x8))))
  else
    k1 o2
noncomputable def l12_1 {R : Type} (t42 : (List Int)) (t43 : Int) (k1 : (List Int) → Option R) : Nat → Int → (List Int) → Option R
  | 0, _, _ => none
  | n + 1, t44, o2 => s12_1 t42 t43 (l12_1 t42 t43 k1 n) k1 t44 o2
noncomputable def L12_1 : LE := ⟨11, 1, ⟨[(3, (.box 1 [] 0)), (6, (.own 2)), (24, (.dat (.sl (.sl G42)))), (25, (.dat (.int .i64))), (26, (.dat (.int .i64))), (35, (.dat (.sl G42))), (36, (.dat (.int .i64))), (37, (.dat (.int .i64))), (42, (.dat (.sl (.int .i64)))), (43, (.dat (.int .i64))), (44, (.dat (.int .i64)))], [.dead, (.box (.agg (.scons (.dat G24) (.scons (.own 3) (.scons (.own 4) (.scons (.own 5) .snil)))))), (.arr (.int .i64)), (.arr (.sl (.int .i64))), (.arr (.int .i64)), (.arr (.int .i64))]⟩, fun R n x k => l12_1 x.1.2.2.2.2.2.2.2.2.1 x.1.2.2.2.2.2.2.2.2.2.1 (fun y0 => k (.exit 4) ⟨[(3, (.box 1 [] 0)), (6, (.own 2)), (24, (.dat (.sl (.sl G42)) x.1.2.2.1)), (25, (.dat (.int .i64) x.1.2.2.2.1)), (26, (.dat (.int .i64) x.1.2.2.2.2.1)), (35, (.dat (.sl G42) x.1.2.2.2.2.2.1)), (36, (.dat (.int .i64) x.1.2.2.2.2.2.2.1)), (37, (.dat (.int .i64) x.1.2.2.2.2.2.2.2.1))], [.dead, (.box (.agg (.scons (.dat G24 x.2.2.1.1) (.scons (.own 3) (.scons (.own 4) (.scons (.own 5) .snil)))))), (.arr (.int .i64) y0), (.arr (.sl (.int .i64)) x.2.2.2.2.1), (.arr (.int .i64) x.2.2.2.2.2.1), (.arr (.int .i64) x.2.2.2.2.2.2.1)]⟩) n x.1.2.2.2.2.2.2.2.2.2.2.1 x.2.2.2.1⟩
/-- a round of a loop of consol/plan.open -/
noncomputable def s12_2 {R : Type} (t35 : (List T42)) (t36 : Int) (kn : Int → (List Int) → Option R) (k1 : (List Int) → Option R) (t37 : Int) (o2 : (List Int)) : Option R :=
  bif (decide (t37 < t36)) then
    (idx t35 t37).bind fun x6 =>
    l12_1 x6.1 (List.length x6.1 : Int) (fun y10 =>
        kn (IntKind.i64.wrap (t37 + 1)) y10) FUEL 0 o2
  else
    k1 o2
noncomputable def l12_2 {R : Type} (t35 : (List T42)) (t36 : Int) (k1 : (List Int) → Option R) : Nat → Int → (List Int) → Option R
  | 0, _, _ => none
  | n + 1, t37, o2 => s12_2 t35 t36 (l12_2 t35 t36 k1 n) k1 t37 o2
noncomputable def L12_2 : LE := ⟨8, 1, ⟨[(3, (.box 1 [] 0)), (6, (.own 2)), (24, (.dat (.sl (.sl G42)))), (25, (.dat (.int .i64))), (26, (.dat (.int .i64))), (35, (.dat (.sl G42))), (36, (.dat (.int .i64))), (37, (.dat (.int .i64)))], [.dead, (.box (.agg (.scons (.dat G24) (.scons (.own 3) (.scons (.own 4) (.scons (.own 5) .snil)))))), (.arr (.int .i64)), (.arr (.sl (.int .i64))), (.arr (.int .i64)), (.arr (.int .i64))]⟩, fun R n x k => l12_2 x.1.2.2.2.2.2.1 x.1.2.2.2.2.2.2.1 (fun y0 => k (.exit 2) ⟨[(3, (.box 1 [] 0)), (6, (.own 2)), (24, (.dat (.sl (.sl G42)) x.1.2.2.1)), (25, (.dat (.int .i64) x.1.2.2.2.1)), (26, (.dat (.int .i64) x.1.2.2.2.2.1))], [.dead, (.box (.agg (.scons (.dat G24 x.2.2.1.1) (.scons (.own 3) (.scons (.own 4) (.scons (.own 5) .snil)))))), (.arr (.int .i64) y0), (.arr (.sl (.int .i64)) x.2.2.2.2.1), (.arr (.int .i64) x.2.2.2.2.2.1), (.arr (.int .i64) x.2.2.2.2.2.2.1)]⟩) n x.1.2.2.2.2.2.2.2.1 x.2.2.2.1⟩
/-- a round of a loop of consol/plan.open -/
noncomputable def s12_3 {R : Type} (t70 : (List Int)) (t71 : Int) (kn : Int → (List Int) → Option R) (k1 : (List Int) → Option R) (t72 : Int) (o3 : (List Int)) : Option R :=
  bif (decide (t72 < t71)) then
    (idx t70 t72).bind fun x12 =>
    asrt true (decide (0 ≤ t72) && decide (t72 < (List.length o3 : Int))) (
      ((o3)[(t72 : Int).toNat]?).bind fun x13 =>
      asrt true (decide (0 ≤ t72) && decide (t72 < (List.length o3 : Int))) (
        ((o3)[(t72 : Int).toNat]?).bind fun x14 =>
        kn (IntKind.i64.wrap (t72 + 1)) (List.set o3 (t72 : Int).toNat (IntKind.i64.wrap (x13 + x12)))))
  else
    k1 o3
noncomputable def l12_3 {R : Type} (t70 : (List Int)) (t71 : Int) (k1 : (List Int) → Option R) : Nat → Int → (List Int) → Option R
  | 0, _, _ => none
  | n + 1, t72, o3 => s12_3 t70 t71 (l12_3 t70 t71 k1 n) k1 t72 o3
noncomputable def L12_3 : LE := ⟨18, 1, ⟨[(3, (.box 1 [] 0)), (24, (.dat (.sl (.sl G42)))), (25, (.dat (.int .i64))), (26, (.dat (.int .i64))), (70, (.dat (.sl (.int .i64)))), (71, (.dat (.int .i64))), (72, (.dat (.int .i64)))], [.dead, (.box (.agg (.scons (.dat G24) (.scons (.own 2) (.scons (.own 3) (.scons (.own 4) .snil)))))), (.arr (.sl (.int .i64))), (.arr (.int .i64)), (.arr (.int .i64))]⟩, fun R n x k => l12_3 x.1.2.2.2.2.1 x.1.2.2.2.2.2.1 (fun y0 => k (.exit 6) ⟨[(3, (.box 1 [] 0)), (24, (.dat (.sl (.sl G42)) x.1.2.1)), (25, (.dat (.int .i64) x.1.2.2.1)), (26, (.dat (.int .i64) x.1.2.2.2.1))], [.dead, (.box (.agg (.scons (.dat G24 x.2.2.1.1) (.scons (.own 2) (.scons (.own 3) (.scons (.own 4) .snil)))))), (.arr (.sl (.int .i64)) x.2.2.2.1), (.arr (.int .i64) y0), (.arr (.int .i64) x.2.2.2.2.2.1)]⟩) n x.1.2.2.2.2.2.2.1 x.2.2.2.2.1⟩
/-- a round of a loop of consol/plan.open -/
noncomputable def s12_4 {R : Type} (t24 : (List (List T42))) (t25 : Int) (kn : Int → (List (List Int)) → (List Int) → Option R) (k1 : (List (List Int)) → (List Int) → Option R) (t26 : Int) (o2 : (List (List Int))) (o3 : (List Int)) : Option R :=
  bif (decide (t26 < t25)) then
    (idx t24 t26).bind fun x3 =>
    (idx x3 0).bind fun x4 =>
    (cloneM x4.1).bind fun r5 =>
    l12_2 x3 (List.length x3 : Int) (fun y11 =>
        asrt true (decide (List.length (α := (List Int)) o2 + List.length (α := (List Int)) [y11] ≤ LIM)) (
          l12_3 y11 (List.length y11 : Int) (fun y15 =>
              kn (IntKind.i64.wrap (t26 + 1)) (o2 ++ [y11]) y15) FUEL 0 o3)) FUEL 0 r5
  else
    k1 o2 o3
noncomputable def l12_4 {R : Type} (t24 : (List (List T42))) (t25 : Int) (k1 : (List (List Int)) → (List Int) → Option R) : Nat → Int → (List (List Int)) → (List Int) → Option R
  | 0, _, _, _ => none
  | n + 1, t26, o2, o3 => s12_4 t24 t25 (l12_4 t24 t25 k1 n) k1 t26 o2 o3
noncomputable def L12_4 : LE := ⟨4, 1, ⟨[(3, (.box 1 [] 0)), (24, (.dat (.sl (.sl G42)))), (25, (.dat (.int .i64))), (26, (.dat (.int .i64)))], [.dead, (.box (.agg (.scons (.dat G24) (.scons (.own 2) (.scons (.own 3) (.scons (.own 4) .snil)))))), (.arr (.sl (.int .i64))), (.arr (.int .i64)), (.arr (.int .i64))]⟩, fun R n x k => l12_4 x.1.2.1 x.1.2.2.1 (fun y0 y1 => k (.exit 0) ⟨[(3, (.box 1 [] 0))], [.dead, (.box (.agg (.scons (.dat G24 x.2.2.1.1) (.scons (.own 2) (.scons (.own 3) (.scons (.own 4) .snil)))))), (.arr (.sl (.int .i64)) y0), (.arr (.int .i64) y1), (.arr (.int .i64) x.2.2.2.2.2.1)]⟩) n x.1.2.2.2.1 x.2.2.2.1 x.2.2.2.2.1⟩
noncomputable def C12i25 : Cfg := mkCfg [(4, ⟨[3, 24, 25, 26], [(3, [1], (.sl (.int .i64)))], []⟩), (8, ⟨[3, 6, 24, 25, 26, 35, 36, 37], [], []⟩), (11, ⟨[3, 6, 24, 25, 26, 35, 36, 37, 42, 43, 44], [], []⟩), (18, ⟨[3, 24, 25, 26, 70, 71, 72], [], []⟩)] [(4, (⟨[3], [], []⟩, ⟨[2], [], []⟩)), (8, (⟨[3, 6, 24, 25, 26], [], []⟩, ⟨[2], [], []⟩)), (11, (⟨[3, 6, 24, 25, 26, 35, 36, 37], [], []⟩, ⟨[2], [], []⟩)), (18, (⟨[3, 24, 25, 26], [], []⟩, ⟨[2], [], []⟩))] (([(2, L12_1), (1, L12_2), (3, L12_3), (0, L12_4)] : List (Nat × LE)).map (·.2)) [] [(15, [(6, [], (.sl (.int .i64)))]), (22, [(3, [1], (.sl (.sl (.int .i64))))])]
theorem ek12_1 : EOk (E12i25) (C12i25) Try.f25.ntmps (bodyL Try.f25 2) (L12_1) := eok_of (e := L12_1) (fun R x Kn k => s12_1 x.1.2.2.2.2.2.2.2.2.1 x.1.2.2.2.2.2.2.2.2.2.1 (fun v0 v1 => Kn (((), (), x.1.2.2.1, x.1.2.2.2.1, x.1.2.2.2.2.1, x.1.2.2.2.2.2.1, x.1.2.2.2.2.2.2.1, x.1.2.2.2.2.2.2.2.1, x.1.2.2.2.2.2.2.2.2.1, x.1.2.2.2.2.2.2.2.2.2.1, v0, ()), ((), (x.2.2.1.1, (), (), (), ()), v1, x.2.2.2.2.1, x.2.2.2.2.2.1, x.2.2.2.2.2.2.1, ()))) (fun y0 => k (.exit 4) ⟨[(3, (.box 1 [] 0)), (6, (.own 2)), (24, (.dat (.sl (.sl G42)) x.1.2.2.1)), (25, (.dat (.int .i64) x.1.2.2.2.1)), (26, (.dat (.int .i64) x.1.2.2.2.2.1)), (35, (.dat (.sl G42) x.1.2.2.2.2.2.1)), (36, (.dat (.int .i64) x.1.2.2.2.2.2.2.1)), (37, (.dat (.int .i64) x.1.2.2.2.2.2.2.2.1))], [.dead, (.box (.agg (.scons (.dat G24 x.2.2.1.1) (.scons (.own 3) (.scons (.own 4) (.scons (.own 5) .snil)))))), (.arr (.int .i64) y0), (.arr (.sl (.int .i64)) x.2.2.2.2.1), (.arr (.int .i64) x.2.2.2.2.2.1), (.arr (.int .i64) x.2.2.2.2.2.2.1)]⟩) x.1.2.2.2.2.2.2.2.2.2.2.1 x.2.2.2.1) (fun _ _ _ => rfl) (fun _ _ _ _ => rfl) (fun R x Kn k => by kernel_rfl)
theorem ek12_2 : EOk (E12i25) (C12i25) Try.f25.ntmps (bodyL Try.f25 1) (L12_2) := eok_of (e := L12_2) (fun R x Kn k => s12_2 x.1.2.2.2.2.2.1 x.1.2.2.2.2.2.2.1 (fun v0 v1 => Kn (((), (), x.1.2.2.1, x.1.2.2.2.1, x.1.2.2.2.2.1, x.1.2.2.2.2.2.1, x.1.2.2.2.2.2.2.1, v0, ()), ((), (x.2.2.1.1, (), (), (), ()), v1, x.2.2.2.2.1, x.2.2.2.2.2.1, x.2.2.2.2.2.2.1, ()))) (fun y0 => k (.exit 2) ⟨[(3, (.box 1 [] 0)), (6, (.own 2)), (24, (.dat (.sl (.sl G42)) x.1.2.2.1)), (25, (.dat (.int .i64) x.1.2.2.2.1)), (26, (.dat (.int .i64) x.1.2.2.2.2.1))], [.dead, (.box (.agg (.scons (.dat G24 x.2.2.1.1) (.scons (.own 3) (.scons (.own 4) (.scons (.own 5) .snil)))))), (.arr (.int .i64) y0), (.arr (.sl (.int .i64)) x.2.2.2.2.1), (.arr (.int .i64) x.2.2.2.2.2.1), (.arr (.int .i64) x.2.2.2.2.2.2.1)]⟩) x.1.2.2.2.2.2.2.2.1 x.2.2.2.1) (fun _ _ _ => rfl) (fun _ _ _ _ => rfl) (fun R x Kn k => by kernel_rfl)
theorem ek12_3 : EOk (E12i25) (C12i25) Try.f25.ntmps (bodyL Try.f25 3) (L12_3) := eok_of (e := L12_3) (fun R x Kn k => s12_3 x.1.2.2.2.2.1 x.1.2.2.2.2.2.1 (fun v0 v1 => Kn (((), x.1.2.1, x.1.2.2.1, x.1.2.2.2.1, x.1.2.2.2.2.1, x.1.2.2.2.2.2.1, v0, ()), ((), (x.2.2.1.1, (), (), (), ()), x.2.2.2.1, v1, x.2.2.2.2.2.1, ()))) (fun y0 => k (.exit 6) ⟨[(3, (.box 1 [] 0)), (24, (.dat (.sl (.sl G42)) x.1.2.1)), (25, (.dat (.int .i64) x.1.2.2.1)), (26, (.dat (.int .i64) x.1.2.2.2.1))], [.dead, (.box (.agg (.scons (.dat G24 x.2.2.1.1) (.scons (.own 2) (.scons (.own 3) (.scons (.own 4) .snil)))))), (.arr (.sl (.int .i64)) x.2.2.2.1), (.arr (.int .i64) y0), (.arr (.int .i64) x.2.2.2.2.2.1)]⟩) x.1.2.2.2.2.2.2.1 x.2.2.2.2.1) (fun _ _ _ => rfl) (fun _ _ _ _ => rfl) (fun R x Kn k => by kernel_rfl)
theorem ek12_4 : EOk (E12i25) (C12i25) Try.f25.ntmps (bodyL Try.f25 0) (L12_4) := eok_of (e := L12_4) (fun R x Kn k => s12_4 x.1.2.1 x.1.2.2.1 (fun v0 v1 v2 => Kn (((), x.1.2.1, x.1.2.2.1, v0, ()), ((), (x.2.2.1.1, (), (), (), ()), v1, v2, x.2.2.2.2.2.1, ()))) (fun y0 y1 => k (.exit 0) ⟨[(3, (.box 1 [] 0))], [.dead, (.box (.agg (.scons (.dat G24 x.2.2.1.1) (.scons (.own 2) (.scons (.own 3) (.scons (.own 4) .snil)))))), (.arr (.sl (.int .i64)) y0), (.arr (.int .i64) y1), (.arr (.int .i64) x.2.2.2.2.2.1)]⟩) x.1.2.2.2.1 x.2.2.2.1 x.2.2.2.2.1) (fun _ _ _ => rfl) (fun _ _ _ _ => rfl) (fun R x Kn k => by kernel_rfl)
theorem lm12i25 : ∀ c, Try.f25.body = some c → LmOk (E12i25) (C12i25) Try.f25.ntmps c := lmOk_of (ps := [(2, L12_1), (1, L12_2), (3, L12_3), (0, L12_4)]) (by kernel_rfl) (by kernel_rfl) ⟨ek12_1, ek12_2, ek12_3, ek12_4, trivial⟩
noncomputable def c12i25 : CmE := inl E12i25 C12i25 25 Try.f25
theorem d12i25 : CmOk Try.prog c12i25 := inl_ok (E := E12i25) ok12i25 ord lm12i25 Try.func25 ca25

noncomputable def E12i30 : Env := mkEnv2 Try.prog [] []
theorem ok12i30 : EnvOk (E12i30) := mkEnv2_ok (by simp) (by simp)
/-- a round of a loop of (*consol/plan.state).step -/
noncomputable def s12_5 {R : Type} (t1 : Int) (t3 : Int) (t23 : (List Int)) (t24 : Int) (o1_2 : (List (List Int))) (kn : Int → (List Int) → Option R) (k1 : (List Int) → Option R) (t25 : Int) (o2 : (List Int)) : Option R :=
  bif (decide (t25 < t24)) then
    (idx t23 t25).bind fun x23 =>
    asrt true (decide (0 ≤ t25) && decide (t25 < (List.length o2 : Int))) (
      ((o2)[(t25 : Int).toNat]?).bind fun x24 =>
      (idx o1_2 t1).bind fun x25 =>
      (idx x25 t25).bind fun x26 =>
      asrt true (decide (0 ≤ t25) && decide (t25 < (List.length o2 : Int))) (
        ((o2)[(t25 : Int).toNat]?).bind fun x27 =>
        kn (IntKind.i64.wrap (t25 + 1)) (List.set o2 (t25 : Int).toNat (IntKind.i64.wrap (x24 + (IntKind.i64.wrap (t3 * (IntKind.i64.wrap (x23 - x26)))))))))
  else
    k1 o2
noncomputable def l12_5 {R : Type} (t1 : Int) (t3 : Int) (t23 : (List Int)) (t24 : Int) (o1_2 : (List (List Int))) (k1 : (List Int) → Option R) : Nat → Int → (List Int) → Option R
  | 0, _, _ => none
  | n + 1, t25, o2 => s12_5 t1 t3 t23 t24 o1_2 (l12_5 t1 t3 t23 t24 o1_2 k1 n) k1 t25 o2
noncomputable def L12_5 : LE := ⟨3, 5, ⟨[(0, (.box 1 [] 0)), (1, (.dat (.int .i64))), (3, (.dat (.int .i64))), (8, (.box 5 [] 0)), (23, (.dat (.sl (.int .i64)))), (24, (.dat (.int .i64))), (25, (.dat (.int .i64)))], [.dead, (.box (.agg (.scons (.dat G24) (.scons (.dat (.sl (.sl (.int .i64)))) (.scons (.own 2) (.scons (.own 3) .snil)))))), (.arr (.int .i64)), (.arr (.int .i64)), .dead, (.box (.dat G42))]⟩, fun R n x k => l12_5 x.1.2.1 x.1.2.2.1 x.1.2.2.2.2.1 x.1.2.2.2.2.2.1 x.2.2.1.2.1 (fun y0 => k (.exit 0) ⟨[(0, (.box 1 [] 0)), (3, (.dat (.int .i64) x.1.2.2.1)), (8, (.box 5 [] 0))], [.dead, (.box (.agg (.scons (.dat G24 x.2.2.1.1) (.scons (.dat (.sl (.sl (.int .i64))) x.2.2.1.2.1) (.scons (.own 2) (.scons (.own 3) .snil)))))), (.arr (.int .i64) y0), (.arr (.int .i64) x.2.2.2.2.1), .dead, (.box (.dat G42 x.2.2.2.2.2.2.1))]⟩) n x.1.2.2.2.2.2.2.1 x.2.2.2.1⟩
noncomputable def C12i30 : Cfg := mkCfg [(3, ⟨[0, 1, 3, 8, 23, 24, 25], [], []⟩)] [(3, (⟨[0, 3, 8], [], []⟩, ⟨[], [], []⟩))] (([(0, L12_5)] : List (Nat × LE)).map (·.2))
theorem ek12_5 : EOk (E12i30) (C12i30) Try.f30.ntmps (bodyL Try.f30 0) (L12_5) := eok_of (e := L12_5) (fun R x Kn k => s12_5 x.1.2.1 x.1.2.2.1 x.1.2.2.2.2.1 x.1.2.2.2.2.2.1 x.2.2.1.2.1 (fun v0 v1 => Kn (((), x.1.2.1, x.1.2.2.1, (), x.1.2.2.2.2.1, x.1.2.2.2.2.2.1, v0, ()), ((), (x.2.2.1.1, x.2.2.1.2.1, (), (), ()), v1, x.2.2.2.2.1, (), x.2.2.2.2.2.2.1, ()))) (fun y0 => k (.exit 0) ⟨[(0, (.box 1 [] 0)), (3, (.dat (.int .i64) x.1.2.2.1)), (8, (.box 5 [] 0))], [.dead, (.box (.agg (.scons (.dat G24 x.2.2.1.1) (.scons (.dat (.sl (.sl (.int .i64))) x.2.2.1.2.1) (.scons (.own 2) (.scons (.own 3) .snil)))))), (.arr (.int .i64) y0), (.arr (.int .i64) x.2.2.2.2.1), .dead, (.box (.dat G42 x.2.2.2.2.2.2.1))]⟩) x.1.2.2.2.2.2.2.1 x.2.2.2.1) (fun _ _ _ => rfl) (fun _ _ _ _ => rfl) (fun R x Kn k => by kernel_rfl)
theorem lm12i30 : ∀ c, Try.f30.body = some c → LmOk (E12i30) (C12i30) Try.f30.ntmps c := lmOk_of (ps := [(0, L12_5)]) (by kernel_rfl) (by kernel_rfl) ⟨ek12_5, trivial⟩
noncomputable def c12i30 : CmE := inl E12i30 C12i30 30 Try.f30
theorem d12i30 : CmOk Try.prog c12i30 := inl_ok (E := E12i30) ok12i30 ord lm12i30 Try.func30 ca30

theorem ca12 : callable Try.prog 12 := ⟨Try.f12, Try.func12, by kernel_rfl, by kernel_rfl⟩
noncomputable def E12 : Env := mkEnv2 Try.prog [e16, e27, e28, e34] [c12i25, c12i30]
theorem ok12 : EnvOk (E12) := mkEnv2_ok (by simp only [List.mem_cons, List.not_mem_nil, or_false, forall_eq_or_imp, forall_eq]; exact ⟨p16, p27, p28, p34⟩) (by simp only [List.mem_cons, List.not_mem_nil, or_false, forall_eq_or_imp, forall_eq]; exact ⟨d12i25, d12i30⟩)
/-- a round of a loop of consol/plan.Cost -/
noncomputable def s12_6 {R : Type} (t22 : (List Int)) (t23 : Int) (o0 : T24) (o1 : T24) (o1_2 : (List (List Int))) (kn : Int → (List Int) → (List Int) → Option R) (k1 : (List Int) → (List Int) → Option R) (k2 : Option R) (t24 : Int) (o2 : (List Int)) (o3 : (List Int)) : Option R :=
  bif (decide (t24 < t23)) then
    (idx t22 t24).bind fun x18 =>
    (idx o0.1 t24).bind fun x19 =>
    (m34 0 (IntKind.i64.wrap ((List.length x19 : Int) - 1)) [x18]).bind fun r20 =>
    bif (!r20) then
      k2
    else
      (idx o1.1 t24).bind fun x21 =>
      (idx x21 x18).bind fun x22 =>
      l12_5 t24 1 x22.1 (List.length x22.1 : Int) o1_2 (fun y28 =>
          bif (decide (x22.2.1 ≥ 0)) then
            asrt true (decide (0 ≤ x22.2.1) && decide (x22.2.1 < (List.length o3 : Int))) (
              ((o3)[(x22.2.1 : Int).toNat]?).bind fun x29 =>
              asrt true (decide (0 ≤ x22.2.1) && decide (x22.2.1 < (List.length o3 : Int))) (
                ((o3)[(x22.2.1 : Int).toNat]?).bind fun x30 =>
                kn (IntKind.i64.wrap (t24 + 1)) y28 (List.set o3 (x22.2.1 : Int).toNat (IntKind.i64.wrap (x29 + (IntKind.i64.wrap (1 * x22.2.2.1)))))))
          else
            kn (IntKind.i64.wrap (t24 + 1)) y28 o3) FUEL 0 o2
  else
    k1 o2 o3
noncomputable def l12_6 {R : Type} (t22 : (List Int)) (t23 : Int) (o0 : T24) (o1 : T24) (o1_2 : (List (List Int))) (k1 : (List Int) → (List Int) → Option R) (k2 : Option R) : Nat → Int → (List Int) → (List Int) → Option R
  | 0, _, _, _ => none
  | n + 1, t24, o2, o3 => s12_6 t22 t23 o0 o1 o1_2 (l12_6 t22 t23 o0 o1 o1_2 k1 k2 n) k1 k2 t24 o2 o3
noncomputable def L12_6 : LE := ⟨6, 0, ⟨[(2, (.box 0 [] 0)), (6, (.box 1 [] 0)), (22, (.dat (.sl (.int .i64)))), (23, (.dat (.int .i64))), (24, (.dat (.int .i64)))], [(.box (.dat G24)), (.box (.agg (.scons (.dat G24) (.scons (.dat (.sl (.sl (.int .i64)))) (.scons (.own 2) (.scons (.own 3) .snil)))))), (.arr (.int .i64)), (.arr (.int .i64))]⟩, fun R n x k => l12_6 x.1.2.2.1 x.1.2.2.2.1 x.2.1 x.2.2.1.1 x.2.2.1.2.1 (fun y0 y1 => k (.exit 0) ⟨[(6, (.box 0 [] 0))], [(.box (.agg (.scons (.dat G24 x.2.2.1.1) (.scons (.dat (.sl (.sl (.int .i64))) x.2.2.1.2.1) (.scons (.own 1) (.scons (.own 2) .snil)))))), (.arr (.int .i64) y0), (.arr (.int .i64) y1)]⟩) (k .ret ⟨[(4, (.dat (.int .i64) 0)), (5, (.dat .bool false))], []⟩) n x.1.2.2.2.2.1 x.2.2.2.1 x.2.2.2.2.1⟩
noncomputable def C12 : Cfg := mkCfg [(6, ⟨[2, 6, 22, 23, 24], [], []⟩)] [(6, (⟨[6], [], []⟩, ⟨[4, 5], [], []⟩))] (([(0, L12_6)] : List (Nat × LE)).map (·.2))
theorem ek12_6 : EOk (E12) (C12) Try.f12.ntmps (bodyL Try.f12 0) (L12_6) := eok_of (e := L12_6) (fun R x Kn k => s12_6 x.1.2.2.1 x.1.2.2.2.1 x.2.1 x.2.2.1.1 x.2.2.1.2.1 (fun v0 v1 v2 => Kn (((), (), x.1.2.2.1, x.1.2.2.2.1, v0, ()), (x.2.1, (x.2.2.1.1, x.2.2.1.2.1, (), (), ()), v1, v2, ()))) (fun y0 y1 => k (.exit 0) ⟨[(6, (.box 0 [] 0))], [(.box (.agg (.scons (.dat G24 x.2.2.1.1) (.scons (.dat (.sl (.sl (.int .i64))) x.2.2.1.2.1) (.scons (.own 1) (.scons (.own 2) .snil)))))), (.arr (.int .i64) y0), (.arr (.int .i64) y1)]⟩) (k .ret ⟨[(4, (.dat (.int .i64) 0)), (5, (.dat .bool false))], []⟩) x.1.2.2.2.2.1 x.2.2.2.1 x.2.2.2.2.1) (fun _ _ _ => rfl) (fun _ _ _ _ => rfl) (fun R x Kn k => by kernel_rfl)
theorem lm12 : ∀ c, Try.f12.body = some c → LmOk (E12) (C12) Try.f12.ntmps c := lmOk_of (ps := [(0, L12_6)]) (by kernel_rfl) (by kernel_rfl) ⟨ek12_6, trivial⟩
noncomputable def m12 (a0 : T24) (a1 : (List Int)) : Option ((Int × (Bool × Unit))) :=
  (m16 a0).bind fun r1 =>
  bif ((!r1) || ((List.length a1 : Int) != (List.length a0.1 : Int))) then
    some (0, false, ())
  else
    (m36 a0).bind fun r2 =>
    asrt true (decide (0 ≤ r2) && decide (r2 ≤ r2) && decide (r2 ≤ (LIM : Int))) (
      asrt true (decide (0 ≤ (List.length a0.2.1 : Int)) && decide ((List.length a0.2.1 : Int) ≤ (List.length a0.2.1 : Int)) && decide ((List.length a0.2.1 : Int) ≤ (LIM : Int))) (
        l12_4 a0.1 (List.length a0.1 : Int) (fun y16 y17 =>
            l12_6 a1 (List.length a1 : Int) a0 a0 y16 (fun y31 y32 =>
                (m27 (a0, y16, y31, y32, ())).bind fun r33 =>
                bif (decide (r33 ≥ 0)) then
                  some (0, false, ())
                else
                  (m28 (a0, y16, y31, y32, ())).bind fun r34 =>
                  some (r34, true, ())) (
                some (0, false, ())) FUEL 0 y17 (List.replicate ((List.length a0.2.1 : Int) : Int).toNat 0)) FUEL 0 [] (List.replicate (r2 : Int).toNat 0)))
noncomputable def e12 : PmE := entry 12 [G24, (.sl (.int .i64))] true (.cons (.int .i64) (.cons .bool .nil)) (fun x => m12 x.1 x.2.1)
theorem q12 (x : tyL [G24, (.sl (.int .i64))]) : execF E12 C12 Try.f12 (datL [G24, (.sl (.int .i64))] x) [] (retK true (.cons (.int .i64) (.cons .bool .nil))) = m12 x.1 x.2.1 := by kernel_rfl
theorem p12 : PmOk Try.prog e12 := pm_ok (E := E12) ok12 ord lm12 Try.func12 ca12 q12

/-! 51: slices.Equal[[]int,int] -/
theorem ca51 : callable Try.prog 51 := ⟨Try.f51, Try.func51, by kernel_rfl, by kernel_rfl⟩
noncomputable def E51 : Env := mkEnv2 Try.prog [] []
theorem ok51 : EnvOk (E51) := mkEnv2_ok (by simp) (by simp)
/-- a round of a loop of slices.Equal[[]int,int] -/
noncomputable def s51_1 {R : Type} (t0 : (List Int)) (t1 : (List Int)) (t12 : Int) (kn : Int → Option R) (k1 : Option R) (k2 : Option R) (t13 : Int) : Option R :=
  bif (decide (t13 < t12)) then
    (idx t0 t13).bind fun x1 =>
    (idx t1 t13).bind fun x2 =>
    bif (x1 != x2) then
      k2
    else
      kn (IntKind.i64.wrap (t13 + 1))
  else
    k1
noncomputable def l51_1 {R : Type} (t0 : (List Int)) (t1 : (List Int)) (t12 : Int) (k1 : Option R) (k2 : Option R) : Nat → Int → Option R
  | 0, _ => none
  | n + 1, t13 => s51_1 t0 t1 t12 (l51_1 t0 t1 t12 k1 k2 n) k1 k2 t13
noncomputable def L51_1 : LE := ⟨5, 0, ⟨[(0, (.dat (.sl (.int .i64)))), (1, (.dat (.sl (.int .i64)))), (12, (.dat (.int .i64))), (13, (.dat (.int .i64)))], []⟩, fun R n x k => l51_1 x.1.1 x.1.2.1 x.1.2.2.1 (k (.exit 0) ⟨[], []⟩) (k .ret ⟨[(4, (.dat .bool false))], []⟩) n x.1.2.2.2.1⟩
noncomputable def C51 : Cfg := mkCfg [(5, ⟨[0, 1, 12, 13], [], []⟩)] [(5, (⟨[], [], []⟩, ⟨[4], [], []⟩))] (([(0, L51_1)] : List (Nat × LE)).map (·.2))
theorem ek51_1 : EOk (E51) (C51) Try.f51.ntmps (bodyL Try.f51 0) (L51_1) := eok_of (e := L51_1) (fun R x Kn k => s51_1 x.1.1 x.1.2.1 x.1.2.2.1 (fun v0 => Kn ((x.1.1, x.1.2.1, x.1.2.2.1, v0, ()), (()))) (k (.exit 0) ⟨[], []⟩) (k .ret ⟨[(4, (.dat .bool false))], []⟩) x.1.2.2.2.1) (fun _ _ _ => rfl) (fun _ _ _ _ => rfl) (fun R x Kn k => by kernel_rfl)
theorem lm51 : ∀ c, Try.f51.body = some c → LmOk (E51) (C51) Try.f51.ntmps c := lmOk_of (ps := [(0, L51_1)]) (by kernel_rfl) (by kernel_rfl) ⟨ek51_1, trivial⟩
noncomputable def m51 (a0 : (List Int)) (a1 : (List Int)) : Option (Bool) :=
  bif ((List.length a0 : Int) != (List.length a1 : Int)) then
    some false
  else
    l51_1 a0 a1 (List.length a0 : Int) (
        some true) (
        some false) FUEL 0
noncomputable def e51 : PmE := entry 51 [(.sl (.int .i64)), (.sl (.int .i64))] false .bool (fun x => m51 x.1 x.2.1)
theorem q51 (x : tyL [(.sl (.int .i64)), (.sl (.int .i64))]) : execF E51 C51 Try.f51 (datL [(.sl (.int .i64)), (.sl (.int .i64))] x) [] (retK false .bool) = m51 x.1 x.2.1 := by kernel_rfl
theorem p51 : PmOk Try.prog e51 := pm_ok (E := E51) ok51 ord lm51 Try.func51 ca51 q51

/-! 44: consol/plan.covers -/
theorem ca44 : callable Try.prog 44 := ⟨Try.f44, Try.func44, by kernel_rfl, by kernel_rfl⟩
def F44i : ShS := ⟨[(0, (.box 0 [] 0)), (1, (.dat (.sl (.int .i64)))), (2, (.dat (.int .i64))), (3, (.dat (.sl G42)))], [(.box (.agg (.scons (.dat G24) (.scons (.dat (.sl (.sl (.int .i64)))) (.scons (.own 1) (.scons (.own 2) .snil)))))), (.arr (.int .i64)), (.arr (.int .i64))]⟩
def F44o : ShS := ⟨[(0, (.tup (.scons (.dat (.sl G42)) (.scons (.dat .bool) .snil))))], [(.box (.agg (.scons (.dat G24) (.scons (.dat (.sl (.sl (.int .i64)))) (.scons (.own 1) (.scons (.own 2) .snil)))))), (.arr (.int .i64)), (.arr (.int .i64))]⟩
noncomputable def cS44 (mr : (List Int) → Int → (List T42) → T24 → (List (List Int)) → (List Int) → (List Int) → Option F44o.ty) : CmE := stE 44 [(1, [], (.sl (.int .i64)))] [] F44i F44o (fun x => mr x.1.2.1 x.1.2.2.1 x.1.2.2.2.1 x.2.1.1 x.2.1.2.1 x.2.2.1 x.2.2.2.1)
noncomputable def E44i30 : Env := mkEnv2 Try.prog [] []
theorem ok44i30 : EnvOk (E44i30) := mkEnv2_ok (by simp) (by simp)
/-- a round of a loop of (*consol/plan.state).step -/
noncomputable def s44_1 {R : Type} (t1 : Int) (t3 : Int) (t23 : (List Int)) (t24 : Int) (o0_2 : (List (List Int))) (kn : Int → (List Int) → Option R) (k1 : (List Int) → Option R) (t25 : Int) (o1 : (List Int)) : Option R :=
  bif (decide (t25 < t24)) then
    (idx t23 t25).bind fun x10 =>
    asrt true (decide (0 ≤ t25) && decide (t25 < (List.length o1 : Int))) (
      ((o1)[(t25 : Int).toNat]?).bind fun x11 =>
      (idx o0_2 t1).bind fun x12 =>
      (idx x12 t25).bind fun x13 =>
      asrt true (decide (0 ≤ t25) && decide (t25 < (List.length o1 : Int))) (
        ((o1)[(t25 : Int).toNat]?).bind fun x14 =>
        kn (IntKind.i64.wrap (t25 + 1)) (List.set o1 (t25 : Int).toNat (IntKind.i64.wrap (x11 + (IntKind.i64.wrap (t3 * (IntKind.i64.wrap (x10 - x13)))))))))
  else
    k1 o1
noncomputable def l44_1 {R : Type} (t1 : Int) (t3 : Int) (t23 : (List Int)) (t24 : Int) (o0_2 : (List (List Int))) (k1 : (List Int) → Option R) : Nat → Int → (List Int) → Option R
  | 0, _, _ => none
  | n + 1, t25, o1 => s44_1 t1 t3 t23 t24 o0_2 (l44_1 t1 t3 t23 t24 o0_2 k1 n) k1 t25 o1
noncomputable def L44_1 : LE := ⟨3, 3, ⟨[(0, (.box 0 [] 0)), (1, (.dat (.int .i64))), (3, (.dat (.int .i64))), (8, (.box 3 [] 0)), (23, (.dat (.sl (.int .i64)))), (24, (.dat (.int .i64))), (25, (.dat (.int .i64)))], [(.box (.agg (.scons (.dat G24) (.scons (.dat (.sl (.sl (.int .i64)))) (.scons (.own 1) (.scons (.own 2) .snil)))))), (.arr (.int .i64)), (.arr (.int .i64)), (.box (.dat G42))]⟩, fun R n x k => l44_1 x.1.2.1 x.1.2.2.1 x.1.2.2.2.2.1 x.1.2.2.2.2.2.1 x.2.1.2.1 (fun y0 => k (.exit 0) ⟨[(0, (.box 0 [] 0)), (3, (.dat (.int .i64) x.1.2.2.1)), (8, (.box 3 [] 0))], [(.box (.agg (.scons (.dat G24 x.2.1.1) (.scons (.dat (.sl (.sl (.int .i64))) x.2.1.2.1) (.scons (.own 1) (.scons (.own 2) .snil)))))), (.arr (.int .i64) y0), (.arr (.int .i64) x.2.2.2.1), (.box (.dat G42 x.2.2.2.2.1))]⟩) n x.1.2.2.2.2.2.2.1 x.2.2.1⟩
/-- a round of a loop of (*consol/plan.state).step -/
noncomputable def s44_2 {R : Type} (t1 : Int) (t3 : Int) (t23 : (List Int)) (t24 : Int) (o0_2 : (List (List Int))) (kn : Int → (List Int) → Option R) (k1 : (List Int) → Option R) (t25 : Int) (o1 : (List Int)) : Option R :=
  bif (decide (t25 < t24)) then
    (idx t23 t25).bind fun x22 =>
    asrt true (decide (0 ≤ t25) && decide (t25 < (List.length o1 : Int))) (
      ((o1)[(t25 : Int).toNat]?).bind fun x23 =>
      (idx o0_2 t1).bind fun x24 =>
      (idx x24 t25).bind fun x25 =>
      asrt true (decide (0 ≤ t25) && decide (t25 < (List.length o1 : Int))) (
        ((o1)[(t25 : Int).toNat]?).bind fun x26 =>
        kn (IntKind.i64.wrap (t25 + 1)) (List.set o1 (t25 : Int).toNat (IntKind.i64.wrap (x23 + (IntKind.i64.wrap (t3 * (IntKind.i64.wrap (x22 - x25)))))))))
  else
    k1 o1
noncomputable def l44_2 {R : Type} (t1 : Int) (t3 : Int) (t23 : (List Int)) (t24 : Int) (o0_2 : (List (List Int))) (k1 : (List Int) → Option R) : Nat → Int → (List Int) → Option R
  | 0, _, _ => none
  | n + 1, t25, o1 => s44_2 t1 t3 t23 t24 o0_2 (l44_2 t1 t3 t23 t24 o0_2 k1 n) k1 t25 o1
noncomputable def L44_2 : LE := ⟨3, 7, ⟨[(0, (.box 0 [] 0)), (1, (.dat (.int .i64))), (3, (.dat (.int .i64))), (8, (.box 7 [] 0)), (23, (.dat (.sl (.int .i64)))), (24, (.dat (.int .i64))), (25, (.dat (.int .i64)))], [(.box (.agg (.scons (.dat G24) (.scons (.dat (.sl (.sl (.int .i64)))) (.scons (.own 1) (.scons (.own 2) .snil)))))), (.arr (.int .i64)), (.arr (.int .i64)), .dead, .dead, .dead, .dead, (.box (.dat G42))]⟩, fun R n x k => l44_2 x.1.2.1 x.1.2.2.1 x.1.2.2.2.2.1 x.1.2.2.2.2.2.1 x.2.1.2.1 (fun y0 => k (.exit 0) ⟨[(0, (.box 0 [] 0)), (3, (.dat (.int .i64) x.1.2.2.1)), (8, (.box 7 [] 0))], [(.box (.agg (.scons (.dat G24 x.2.1.1) (.scons (.dat (.sl (.sl (.int .i64))) x.2.1.2.1) (.scons (.own 1) (.scons (.own 2) .snil)))))), (.arr (.int .i64) y0), (.arr (.int .i64) x.2.2.2.1), .dead, .dead, .dead, .dead, (.box (.dat G42 x.2.2.2.2.2.2.2.2.1))]⟩) n x.1.2.2.2.2.2.2.1 x.2.2.1⟩
noncomputable def C44i30 : Cfg := mkCfg [(3, ⟨[0, 1, 3, 8, 23, 24, 25], [], []⟩)] [(3, (⟨[0, 3, 8], [], []⟩, ⟨[], [], []⟩))] (([(0, L44_1), (0, L44_2)] : List (Nat × LE)).map (·.2))
theorem ek44_1 : EOk (E44i30) (C44i30) Try.f30.ntmps (bodyL Try.f30 0) (L44_1) := eok_of (e := L44_1) (fun R x Kn k => s44_1 x.1.2.1 x.1.2.2.1 x.1.2.2.2.2.1 x.1.2.2.2.2.2.1 x.2.1.2.1 (fun v0 v1 => Kn (((), x.1.2.1, x.1.2.2.1, (), x.1.2.2.2.2.1, x.1.2.2.2.2.2.1, v0, ()), ((x.2.1.1, x.2.1.2.1, (), (), ()), v1, x.2.2.2.1, x.2.2.2.2.1, ()))) (fun y0 => k (.exit 0) ⟨[(0, (.box 0 [] 0)), (3, (.dat (.int .i64) x.1.2.2.1)), (8, (.box 3 [] 0))], [(.box (.agg (.scons (.dat G24 x.2.1.1) (.scons (.dat (.sl (.sl (.int .i64))) x.2.1.2.1) (.scons (.own 1) (.scons (.own 2) .snil)))))), (.arr (.int .i64) y0), (.arr (.int .i64) x.2.2.2.1), (.box (.dat G42 x.2.2.2.2.1))]⟩) x.1.2.2.2.2.2.2.1 x.2.2.1) (fun _ _ _ => rfl) (fun _ _ _ _ => rfl) (fun R x Kn k => by kernel_rfl)
theorem ek44_2 : EOk (E44i30) (C44i30) Try.f30.ntmps (bodyL Try.f30 0) (L44_2) := eok_of (e := L44_2) (fun R x Kn k => s44_2 x.1.2.1 x.1.2.2.1 x.1.2.2.2.2.1 x.1.2.2.2.2.2.1 x.2.1.2.1 (fun v0 v1 => Kn (((), x.1.2.1, x.1.2.2.1, (), x.1.2.2.2.2.1, x.1.2.2.2.2.2.1, v0, ()), ((x.2.1.1, x.2.1.2.1, (), (), ()), v1, x.2.2.2.1, (), (), (), (), x.2.2.2.2.2.2.2.2.1, ()))) (fun y0 => k (.exit 0) ⟨[(0, (.box 0 [] 0)), (3, (.dat (.int .i64) x.1.2.2.1)), (8, (.box 7 [] 0))], [(.box (.agg (.scons (.dat G24 x.2.1.1) (.scons (.dat (.sl (.sl (.int .i64))) x.2.1.2.1) (.scons (.own 1) (.scons (.own 2) .snil)))))), (.arr (.int .i64) y0), (.arr (.int .i64) x.2.2.2.1), .dead, .dead, .dead, .dead, (.box (.dat G42 x.2.2.2.2.2.2.2.2.1))]⟩) x.1.2.2.2.2.2.2.1 x.2.2.1) (fun _ _ _ => rfl) (fun _ _ _ _ => rfl) (fun R x Kn k => by kernel_rfl)
theorem lm44i30 : ∀ c, Try.f30.body = some c → LmOk (E44i30) (C44i30) Try.f30.ntmps c := lmOk_of (ps := [(0, L44_1), (0, L44_2)]) (by kernel_rfl) (by kernel_rfl) ⟨ek44_1, ek44_2, trivial⟩
noncomputable def c44i30 : CmE := inl E44i30 C44i30 30 Try.f30
theorem d44i30 : CmOk Try.prog c44i30 := inl_ok (E := E44i30) ok44i30 ord lm44i30 Try.func30 ca30

noncomputable def E44 (mr : (List Int) → Int → (List T42) → T24 → (List (List Int)) → (List Int) → (List Int) → Option F44o.ty) : Env := mkEnv2 Try.prog [e28, e34, e51] [c29, c44i30, cS44 mr]
theorem ok44 (mr : (List Int) → Int → (List T42) → T24 → (List (List Int)) → (List Int) → (List Int) → Option F44o.ty) (hmr : CmOk Try.prog (cS44 mr)) : EnvOk (E44 mr) := mkEnv2_ok (by simp only [List.mem_cons, List.not_mem_nil, or_false, forall_eq_or_imp, forall_eq]; exact ⟨p28, p34, p51⟩) (by simp only [List.mem_cons, List.not_mem_nil, or_false, forall_eq_or_imp, forall_eq]; exact ⟨d29, d44i30, hmr⟩)
/-- a round of a loop of consol/plan.covers -/
noncomputable def s44_3 {R : Type} (mr : (List Int) → Int → (List T42) → T24 → (List (List Int)) → (List Int) → (List Int) → Option F44o.ty) (t1 : (List Int)) (t2 : Int) (t11 : Int) (t91 : Int) (kn : (List T42) → Int → T24 → (List (List Int)) → (List Int) → (List Int) → Option R) (k1 : (List T42) → T24 → (List (List Int)) → (List Int) → (List Int) → Option R) (k2 : T24 → (List (List Int)) → (List Int) → (List Int) → Option R) (t3 : (List T42)) (t92 : Int) (o0 : T24) (o0_2 : (List (List Int))) (o1 : (List Int)) (o2 : (List Int)) : Option R :=
  bif (decide (t92 < t91)) then
    (idx o0.1 t11).bind fun x8 =>
    (idx x8 t92).bind fun x9 =>
    l44_1 t11 1 x9.1 (List.length x9.1 : Int) o0_2 (fun y15 =>
        bif (decide (x9.2.1 ≥ 0)) then
          asrt true (decide (0 ≤ x9.2.1) && decide (x9.2.1 < (List.length o2 : Int))) (
            ((o2)[(x9.2.1 : Int).toNat]?).bind fun x16 =>
            asrt true (decide (0 ≤ x9.2.1) && decide (x9.2.1 < (List.length o2 : Int))) (
              ((o2)[(x9.2.1 : Int).toNat]?).bind fun x17 =>
              (cloneM t1).bind fun r18 =>
              asrt true (decide (List.length (α := Int) r18 + List.length (α := Int) [t92] ≤ LIM)) (
                (mr (r18 ++ [t92]) t2 t3 o0 o0_2 y15 (List.set o2 (x9.2.1 : Int).toNat (IntKind.i64.wrap (x16 + (IntKind.i64.wrap (1 * x9.2.2.1)))))).bind fun r19 =>
                (idx r19.2.1.1.1 t11).bind fun x20 =>
                (idx x20 t92).bind fun x21 =>
                l44_2 t11 (-1) x21.1 (List.length x21.1 : Int) r19.2.1.2.1 (fun y27 =>
                    bif (decide (x21.2.1 ≥ 0)) then
                      asrt true (decide (0 ≤ x21.2.1) && decide (x21.2.1 < (List.length r19.2.2.2.1 : Int))) (
                        ((r19.2.2.2.1)[(x21.2.1 : Int).toNat]?).bind fun x28 =>
                        asrt true (decide (0 ≤ x21.2.1) && decide (x21.2.1 < (List.length r19.2.2.2.1 : Int))) (
                          ((r19.2.2.2.1)[(x21.2.1 : Int).toNat]?).bind fun x29 =>
                          bif (!r19.1.1.2.1) then
                            k2 r19.2.1.1 r19.2.1.2.1 y27 (List.set r19.2.2.2.1 (x21.2.1 : Int).toNat (IntKind.i64.wrap (x28 + (IntKind.i64.wrap ((-1) * x21.2.2.1)))))
                          else
                            kn r19.1.1.1 (IntKind.i64.wrap (t92 + 1)) r19.2.1.1 r19.2.1.2.1 y27 (List.set r19.2.2.2.1 (x21.2.1 : Int).toNat (IntKind.i64.wrap (x28 + (IntKind.i64.wrap ((-1) * x21.2.2.1)))))))
                    else
                      bif (!r19.1.1.2.1) then
                        k2 r19.2.1.1 r19.2.1.2.1 y27 r19.2.2.2.1
                      else
                        kn r19.1.1.1 (IntKind.i64.wrap (t92 + 1)) r19.2.1.1 r19.2.1.2.1 y27 r19.2.2.2.1) FUEL 0 r19.2.2.1)))
        else
          (cloneM t1).bind fun r30 =>
          asrt true (decide (List.length (α := Int) r30 + List.length (α := Int) [t92] ≤ LIM)) (
            (mr (r30 ++ [t92]) t2 t3 o0 o0_2 y15 o2).bind fun r31 =>
            (idx r31.2.1.1.1 t11).bind fun x32 =>
            (idx x32 t92).bind fun x33 =>
            l44_2 t11 (-1) x33.1 (List.length x33.1 : Int) r31.2.1.2.1 (fun y34 =>
                bif (decide (x33.2.1 ≥ 0)) then
                  asrt true (decide (0 ≤ x33.2.1) && decide (x33.2.1 < (List.length r31.2.2.2.1 : Int))) (
                    ((r31.2.2.2.1)[(x33.2.1 : Int).toNat]?).bind fun x35 =>
                    asrt true (decide (0 ≤ x33.2.1) && decide (x33.2.1 < (List.length r31.2.2.2.1 : Int))) (
                      ((r31.2.2.2.1)[(x33.2.1 : Int).toNat]?).bind fun x36 =>
                      bif (!r31.1.1.2.1) then
                        k2 r31.2.1.1 r31.2.1.2.1 y34 (List.set r31.2.2.2.1 (x33.2.1 : Int).toNat (IntKind.i64.wrap (x35 + (IntKind.i64.wrap ((-1) * x33.2.2.1)))))
                      else
                        kn r31.1.1.1 (IntKind.i64.wrap (t92 + 1)) r31.2.1.1 r31.2.1.2.1 y34 (List.set r31.2.2.2.1 (x33.2.1 : Int).toNat (IntKind.i64.wrap (x35 + (IntKind.i64.wrap ((-1) * x33.2.2.1)))))))
                else
                  bif (!r31.1.1.2.1) then
                    k2 r31.2.1.1 r31.2.1.2.1 y34 r31.2.2.2.1
                  else
                    kn r31.1.1.1 (IntKind.i64.wrap (t92 + 1)) r31.2.1.1 r31.2.1.2.1 y34 r31.2.2.2.1) FUEL 0 r31.2.2.1)) FUEL 0 o1
  else
    k1 t3 o0 o0_2 o1 o2
noncomputable def l44_3 {R : Type} (mr : (List Int) → Int → (List T42) → T24 → (List (List Int)) → (List Int) → (List Int) → Option F44o.ty) (t1 : (List Int)) (t2 : Int) (t11 : Int) (t91 : Int) (k1 : (List T42) → T24 → (List (List Int)) → (List Int) → (List Int) → Option R) (k2 : T24 → (List (List Int)) → (List Int) → (List Int) → Option R) : Nat → (List T42) → Int → T24 → (List (List Int)) → (List Int) → (List Int) → Option R
  | 0, _, _, _, _, _, _ => none
  | n + 1, t3, t92, o0, o0_2, o1, o2 => s44_3 mr t1 t2 t11 t91 (l44_3 mr t1 t2 t11 t91 k1 k2 n) k1 k2 t3 t92 o0 o0_2 o1 o2
noncomputable def L44_3 (mr : (List Int) → Int → (List T42) → T24 → (List (List Int)) → (List Int) → (List Int) → Option F44o.ty) : LE := ⟨13, 3, ⟨[(0, (.box 0 [] 0)), (1, (.dat (.sl (.int .i64)))), (2, (.dat (.int .i64))), (3, (.dat (.sl G42))), (11, (.dat (.int .i64))), (91, (.dat (.int .i64))), (92, (.dat (.int .i64)))], [(.box (.agg (.scons (.dat G24) (.scons (.dat (.sl (.sl (.int .i64)))) (.scons (.own 1) (.scons (.own 2) .snil)))))), (.arr (.int .i64)), (.arr (.int .i64))]⟩, fun R n x k => l44_3 mr x.1.2.1 x.1.2.2.1 x.1.2.2.2.2.1 x.1.2.2.2.2.2.1 (fun y0 y1 y2 y3 y4 => k (.exit 0) ⟨[(3, (.dat (.sl G42) y0))], [(.box (.agg (.scons (.dat G24 y1) (.scons (.dat (.sl (.sl (.int .i64))) y2) (.scons (.own 1) (.scons (.own 2) .snil)))))), (.arr (.int .i64) y3), (.arr (.int .i64) y4)]⟩) (fun y0 y1 y2 y3 => k .ret ⟨[(8, .nils), (9, (.dat .bool false))], [(.box (.agg (.scons (.dat G24 y0) (.scons (.dat (.sl (.sl (.int .i64))) y1) (.scons (.own 1) (.scons (.own 2) .snil)))))), (.arr (.int .i64) y2), (.arr (.int .i64) y3)]⟩) n x.1.2.2.2.1 x.1.2.2.2.2.2.2.1 x.2.1.1 x.2.1.2.1 x.2.2.1 x.2.2.2.1⟩
noncomputable def C44 (mr : (List Int) → Int → (List T42) → T24 → (List (List Int)) → (List Int) → (List Int) → Option F44o.ty) : Cfg := mkCfg [(13, ⟨[0, 1, 2, 3, 11, 91, 92], [], []⟩)] [(13, (⟨[3], [], []⟩, ⟨[8, 9], [], []⟩))] (([(0, L44_3 mr)] : List (Nat × LE)).map (·.2))
theorem ek44_3 (mr : (List Int) → Int → (List T42) → T24 → (List (List Int)) → (List Int) → (List Int) → Option F44o.ty) : EOk (E44 mr) (C44 mr) Try.f44.ntmps (bodyL Try.f44 0) (L44_3 mr) := eok_of (e := L44_3 mr) (fun R x Kn k => s44_3 mr x.1.2.1 x.1.2.2.1 x.1.2.2.2.2.1 x.1.2.2.2.2.2.1 (fun v0 v1 v2 v3 v4 v5 => Kn (((), x.1.2.1, x.1.2.2.1, v0, x.1.2.2.2.2.1, x.1.2.2.2.2.2.1, v1, ()), ((v2, v3, (), (), ()), v4, v5, ()))) (fun y0 y1 y2 y3 y4 => k (.exit 0) ⟨[(3, (.dat (.sl G42) y0))], [(.box (.agg (.scons (.dat G24 y1) (.scons (.dat (.sl (.sl (.int .i64))) y2) (.scons (.own 1) (.scons (.own 2) .snil)))))), (.arr (.int .i64) y3), (.arr (.int .i64) y4)]⟩) (fun y0 y1 y2 y3 => k .ret ⟨[(8, .nils), (9, (.dat .bool false))], [(.box (.agg (.scons (.dat G24 y0) (.scons (.dat (.sl (.sl (.int .i64))) y1) (.scons (.own 1) (.scons (.own 2) .snil)))))), (.arr (.int .i64) y2), (.arr (.int .i64) y3)]⟩) x.1.2.2.2.1 x.1.2.2.2.2.2.2.1 x.2.1.1 x.2.1.2.1 x.2.2.1 x.2.2.2.1) (fun _ _ _ => rfl) (fun _ _ _ _ => rfl) (fun R x Kn k => by kernel_rfl)
theorem lm44 (mr : (List Int) → Int → (List T42) → T24 → (List (List Int)) → (List Int) → (List Int) → Option F44o.ty) : ∀ c, Try.f44.body = some c → LmOk (E44 mr) (C44 mr) Try.f44.ntmps c := lmOk_of (ps := [(0, L44_3 mr)]) (by kernel_rfl) (by kernel_rfl) ⟨ek44_3 mr, trivial⟩
noncomputable def M44 (mr : (List Int) → Int → (List T42) → T24 → (List (List Int)) → (List Int) → (List Int) → Option F44o.ty) (a0 : (List Int)) (a1 : Int) (a2 : (List T42)) (a3 : T24) (a4 : (List (List Int))) (a5 : (List Int)) (a6 : (List Int)) : Option F44o.ty :=
  bif ((List.length a2 : Int) == 0) then
    some ((([], false, ()), ()), ((a3, a4, (), (), ()), a5, a6, ()))
  else
    (idx a2 0).bind fun x1 =>
    (m51 x1.1 a0).bind fun r2 =>
    bif r2 then
      bif (x1.2.2.1 == (-1)) then
        asrt true (bounds true (List.length a2) 1 (List.length a2 : Int)) (
          (m28 (a3, a4, a5, a6, ())).bind fun r3 =>
          some ((((subl a2 1 (List.length a2 : Int)), ((decide (x1.2.1 ≤ r3)) && (decide (x1.2.1 ≥ a1))), ()), ()), ((a3, a4, (), (), ()), a5, a6, ())))
      else
        asrt true (bounds true (List.length a2) 1 (List.length a2 : Int)) (
          (m34 0 (IntKind.i64.wrap ((List.length a6 : Int) - 1)) [x1.2.2.1]).bind fun r4 =>
          asrt (r4 == true) (decide (0 ≤ x1.2.2.1) && decide (x1.2.2.1 < (List.length a6 : Int))) (
            ((bif (r4 == true) then (a6)[(x1.2.2.1 : Int).toNat]? else some 0)).bind fun x5 =>
            (idxG (r4 == true) 0 a3.2.1 x1.2.2.1).bind fun x6 =>
            some ((((subl a2 1 (List.length a2 : Int)), (r4 && (decide (x5 > x6))), ()), ()), ((a3, a4, (), (), ()), a5, a6, ()))))
    else
      bif ((List.length a0 : Int) == (List.length a3.1 : Int)) then
        some ((([], false, ()), ()), ((a3, a4, (), (), ()), a5, a6, ()))
      else
        (idx a3.1 (List.length a0 : Int)).bind fun x7 =>
        l44_3 mr a0 a1 (List.length a0 : Int) (List.length x7 : Int) (fun y37 y38 y39 y40 y41 =>
            some (((y37, true, ()), ()), ((y38, y39, (), (), ()), y40, y41, ()))) (fun y42 y43 y44 y45 =>
            some ((([], false, ()), ()), ((y42, y43, (), (), ()), y44, y45, ()))) FUEL a2 0 a3 a4 a5 a6
theorem q44 (mr : (List Int) → Int → (List T42) → T24 → (List (List Int)) → (List Int) → (List Int) → Option F44o.ty) (x : F44i.ty) : execF (E44 mr) (C44 mr) Try.f44 ((F44i.enc x).regs.map (·.2)) (F44i.enc x).heap (retS [(0, [0], (.sl G42))] [] 3 F44o) = M44 mr x.1.2.1 x.1.2.2.1 x.1.2.2.2.1 x.2.1.1 x.2.1.2.1 x.2.2.1 x.2.2.2.1 := by kernel_rfl
theorem R44 (mr : (List Int) → Int → (List T42) → T24 → (List (List Int)) → (List Int) → (List Int) → Option F44o.ty) (hmr : CmOk Try.prog (cS44 mr)) : CRun Try.prog 44 F44i F44o (fun x => M44 mr x.1.2.1 x.1.2.2.1 x.1.2.2.2.1 x.2.1.1 x.2.1.2.1 x.2.2.1 x.2.2.2.1) := st_run (E := E44 mr) (ok44 mr hmr) ord (lm44 mr) Try.func44 (q44 mr)
noncomputable def m44N : Nat → (List Int) → Int → (List T42) → T24 → (List (List Int)) → (List Int) → (List Int) → Option F44o.ty
  | 0, _, _, _, _, _, _, _ => none
  | n + 1, a0, a1, a2, a3, a4, a5, a6 => M44 (m44N n) a0 a1 a2 a3 a4 a5 a6
theorem dS44 : ∀ n, CmOk Try.prog (cS44 (m44N n))
  | 0 => st_ok ca44 (fun _ _ h => by cases h)
  | n + 1 => st_ok ca44 (R44 (m44N n) (dS44 n))
noncomputable def m44 (a0 : (List Int)) (a1 : Int) (a2 : (List T42)) (a3 : T24) (a4 : (List (List Int))) (a5 : (List Int)) (a6 : (List Int)) : Option F44o.ty := m44N FUEL a0 a1 a2 a3 a4 a5 a6
noncomputable def c44 : CmE := cS44 (fun a0 a1 a2 a3 a4 a5 a6 => m44 a0 a1 a2 a3 a4 a5 a6)
theorem d44 : CmOk Try.prog c44 := dS44 FUEL

/-! 18: consol/plan.Check -/
noncomputable def E18i25 : Env := mkEnv2 Try.prog [e36] [c29]
theorem ok18i25 : EnvOk (E18i25) := mkEnv2_ok (by simp only [List.mem_cons, List.not_mem_nil, or_false, forall_eq]; exact p36) (by simp only [List.mem_cons, List.not_mem_nil, or_false, forall_eq]; exact d29)
/-- a round of a loop of consol/plan.open -/
noncomputable def s18_1 {R : Type} (t42 : (List Int)) (t43 : Int) (kn : Int → (List Int) → Option R) (k1 : (List Int) → Option R) (t44 : Int) (o2 : (List Int)) : Option R :=
  bif (decide (t44 < t43)) then
    (idx t42 t44).bind fun x8 =>
    asrt true (decide (0 ≤ t44) && decide (t44 < (List.length o2 : Int))) (
      ((o2)[(t44 : Int).toNat]?).bind fun x9 =>
      asrt true (decide (0 ≤ t44) && decide (t44 < (List.length o2 : Int))) (
        ((o2)[(t44 : Int).toNat]?).bind fun x10 =>
        kn (IntKind.i64.wrap (t44 + 1)) (List.set o2 (t44 : Int).toNat (bif decide (x8 < x9) then x8 else x9))))
  else
    k1 o2
noncomputable def l18_1 {R : Type} (t42 : (List Int)) (t43 : Int) (k1 : (List Int) → Option R) : Nat → Int → (List Int) → Option R
  | 0, _, _ => none
  | n + 1, t44, o2 => s18_1 t42 t43 (l18_1 t42 t43 k1 n) k1 t44 o2
noncomputable def L18_1 : LE := ⟨11, 1, ⟨[(3, (.box 1 [] 0)), (6, (.own 2)), (24, (.dat (.sl (.sl G42)))), (25, (.dat (.int .i64))), (26, (.dat (.int .i64))), (35, (.dat (.sl G42))), (36, (.dat (.int .i64))), (37, (.dat (.int .i64))), (42, (.dat (.sl (.int .i64)))), (43, (.dat (.int .i64))), (44, (.dat (.int .i64)))], [.dead, (.box (.agg (.scons (.dat G24) (.scons (.own 3) (.scons (.own 4) (.scons (.own 5) .snil)))))), (.arr (.int .i64)), (.arr (.sl (.int .i64))), (.arr (.int .i64)), (.arr (.int .i64))]⟩, fun R n x k => l18_1 x.1.2.2.2.2.2.2.2.2.1 x.1.2.2.2.2.2.2.2.2.2.1 (fun y0 => k (.exit 4) ⟨[(3, (.box 1 [] 0)), (6, (.own 2)), (24, (.dat (.sl (.sl G42)) x.1.2.2.1)), (25, (.dat (.int .i64) x.1.2.2.2.1)), (26, (.dat (.int .i64) x.1.2.2.2.2.1)), (35, (.dat (.sl G42) x.1.2.2.2.2.2.1)), (36, (.dat (.int .i64) x.1.2.2.2.2.2.2.1)), (37, (.dat (.int .i64) x.1.2.2.2.2.2.2.2.1))], [.dead, (.box (.agg (.scons (.dat G24 x.2.2.1.1) (.scons (.own 3) (.scons (.own 4) (.scons (.own 5) .snil)))))), (.arr (.int .i64) y0), (.arr (.sl (.int .i64)) x.2.2.2.2.1), (.arr (.int .i64) x.2.2.2.2.2.1), (.arr (.int .i64) x.2.2.2.2.2.2.1)]⟩) n x.1.2.2.2.2.2.2.2.2.2.2.1 x.2.2.2.1⟩
/-- a round of a loop of consol/plan.open -/
noncomputable def s18_2 {R : Type} (t35 : (List T42)) (t36 : Int) (kn : Int → (List Int) → Option R) (k1 : (List Int) → Option R) (t37 : Int) (o2 : (List Int)) : Option R :=
  bif (decide (t37 < t36)) then
    (idx t35 t37).bind fun x7 =>
    l18_1 x7.1 (List.length x7.1 : Int) (fun y11 =>
        kn (IntKind.i64.wrap (t37 + 1)) y11) FUEL 0 o2
  else
    k1 o2
noncomputable def l18_2 {R : Type} (t35 : (List T42)) (t36 : Int) (k1 : (List Int) → Option R) : Nat → Int → (List Int) → Option R
  | 0, _, _ => none
  | n + 1, t37, o2 => s18_2 t35 t36 (l18_2 t35 t36 k1 n) k1 t37 o2
noncomputable def L18_2 : LE := ⟨8, 1, ⟨[(3, (.box 1 [] 0)), (6, (.own 2)), (24, (.dat (.sl (.sl G42)))), (25, (.dat (.int .i64))), (26, (.dat (.int .i64))), (35, (.dat (.sl G42))), (36, (.dat (.int .i64))), (37, (.dat (.int .i64)))], [.dead, (.box (.agg (.scons (.dat G24) (.scons (.own 3) (.scons (.own 4) (.scons (.own 5) .snil)))))), (.arr (.int .i64)), (.arr (.sl (.int .i64))), (.arr (.int .i64)), (.arr (.int .i64))]⟩, fun R n x k => l18_2 x.1.2.2.2.2.2.1 x.1.2.2.2.2.2.2.1 (fun y0 => k (.exit 2) ⟨[(3, (.box 1 [] 0)), (6, (.own 2)), (24, (.dat (.sl (.sl G42)) x.1.2.2.1)), (25, (.dat (.int .i64) x.1.2.2.2.1)), (26, (.dat (.int .i64) x.1.2.2.2.2.1))], [.dead, (.box (.agg (.scons (.dat G24 x.2.2.1.1) (.scons (.own 3) (.scons (.own 4) (.scons (.own 5) .snil)))))), (.arr (.int .i64) y0), (.arr (.sl (.int .i64)) x.2.2.2.2.1), (.arr (.int .i64) x.2.2.2.2.2.1), (.arr (.int .i64) x.2.2.2.2.2.2.1)]⟩) n x.1.2.2.2.2.2.2.2.1 x.2.2.2.1⟩
/-- a round of a loop of consol/plan.open -/
noncomputable def s18_3 {R : Type} (t70 : (List Int)) (t71 : Int) (kn : Int → (List Int) → Option R) (k1 : (List Int) → Option R) (t72 : Int) (o3 : (List Int)) : Option R :=
  bif (decide (t72 < t71)) then
    (idx t70 t72).bind fun x13 =>
    asrt true (decide (0 ≤ t72) && decide (t72 < (List.length o3 : Int))) (
      ((o3)[(t72 : Int).toNat]?).bind fun x14 =>
      asrt true (decide (0 ≤ t72) && decide (t72 < (List.length o3 : Int))) (
        ((o3)[(t72 : Int).toNat]?).bind fun x15 =>
        kn (IntKind.i64.wrap (t72 + 1)) (List.set o3 (t72 : Int).toNat (IntKind.i64.wrap (x14 + x13)))))
  else
    k1 o3
noncomputable def l18_3 {R : Type} (t70 : (List Int)) (t71 : Int) (k1 : (List Int) → Option R) : Nat → Int → (List Int) → Option R
  | 0, _, _ => none
  | n + 1, t72, o3 => s18_3 t70 t71 (l18_3 t70 t71 k1 n) k1 t72 o3
noncomputable def L18_3 : LE := ⟨18, 1, ⟨[(3, (.box 1 [] 0)), (24, (.dat (.sl (.sl G42)))), (25, (.dat (.int .i64))), (26, (.dat (.int .i64))), (70, (.dat (.sl (.int .i64)))), (71, (.dat (.int .i64))), (72, (.dat (.int .i64)))], [.dead, (.box (.agg (.scons (.dat G24) (.scons (.own 2) (.scons (.own 3) (.scons (.own 4) .snil)))))), (.arr (.sl (.int .i64))), (.arr (.int .i64)), (.arr (.int .i64))]⟩, fun R n x k => l18_3 x.1.2.2.2.2.1 x.1.2.2.2.2.2.1 (fun y0 => k (.exit 6) ⟨[(3, (.box 1 [] 0)), (24, (.dat (.sl (.sl G42)) x.1.2.1)), (25, (.dat (.int .i64) x.1.2.2.1)), (26, (.dat (.int .i64) x.1.2.2.2.1))], [.dead, (.box (.agg (.scons (.dat G24 x.2.2.1.1) (.scons (.own 2) (.scons (.own 3) (.scons (.own 4) .snil)))))), (.arr (.sl (.int .i64)) x.2.2.2.1), (.arr (.int .i64) y0), (.arr (.int .i64) x.2.2.2.2.2.1)]⟩) n x.1.2.2.2.2.2.2.1 x.2.2.2.2.1⟩
/-- a round of a loop of consol/plan.open -/
noncomputable def s18_4 {R : Type} (t24 : (List (List T42))) (t25 : Int) (kn : Int → (List (List Int)) → (List Int) → Option R) (k1 : (List (List Int)) → (List Int) → Option R) (t26 : Int) (o2 : (List (List Int))) (o3 : (List Int)) : Option R :=
  bif (decide (t26 < t25)) then
    (idx t24 t26).bind fun x4 =>
    (idx x4 0).bind fun x5 =>
    (cloneM x5.1).bind fun r6 =>
    l18_2 x4 (List.length x4 : Int) (fun y12 =>
        asrt true (decide (List.length (α := (List Int)) o2 + List.length (α := (List Int)) [y12] ≤ LIM)) (
          l18_3 y12 (List.length y12 : Int) (fun y16 =>
              kn (IntKind.i64.wrap (t26 + 1)) (o2 ++ [y12]) y16) FUEL 0 o3)) FUEL 0 r6
  else
    k1 o2 o3
noncomputable def l18_4 {R : Type} (t24 : (List (List T42))) (t25 : Int) (k1 : (List (List Int)) → (List Int) → Option R) : Nat → Int → (List (List Int)) → (List Int) → Option R
  | 0, _, _, _ => none
  | n + 1, t26, o2, o3 => s18_4 t24 t25 (l18_4 t24 t25 k1 n) k1 t26 o2 o3
noncomputable def L18_4 : LE := ⟨4, 1, ⟨[(3, (.box 1 [] 0)), (24, (.dat (.sl (.sl G42)))), (25, (.dat (.int .i64))), (26, (.dat (.int .i64)))], [.dead, (.box (.agg (.scons (.dat G24) (.scons (.own 2) (.scons (.own 3) (.scons (.own 4) .snil)))))), (.arr (.sl (.int .i64))), (.arr (.int .i64)), (.arr (.int .i64))]⟩, fun R n x k => l18_4 x.1.2.1 x.1.2.2.1 (fun y0 y1 => k (.exit 0) ⟨[(3, (.box 1 [] 0))], [.dead, (.box (.agg (.scons (.dat G24 x.2.2.1.1) (.scons (.own 2) (.scons (.own 3) (.scons (.own 4) .snil)))))), (.arr (.sl (.int .i64)) y0), (.arr (.int .i64) y1), (.arr (.int .i64) x.2.2.2.2.2.1)]⟩) n x.1.2.2.2.1 x.2.2.2.1 x.2.2.2.2.1⟩
noncomputable def C18i25 : Cfg := mkCfg [(4, ⟨[3, 24, 25, 26], [(3, [1], (.sl (.int .i64)))], []⟩), (8, ⟨[3, 6, 24, 25, 26, 35, 36, 37], [], []⟩), (11, ⟨[3, 6, 24, 25, 26, 35, 36, 37, 42, 43, 44], [], []⟩), (18, ⟨[3, 24, 25, 26, 70, 71, 72], [], []⟩)] [(4, (⟨[3], [], []⟩, ⟨[2], [], []⟩)), (8, (⟨[3, 6, 24, 25, 26], [], []⟩, ⟨[2], [], []⟩)), (11, (⟨[3, 6, 24, 25, 26, 35, 36, 37], [], []⟩, ⟨[2], [], []⟩)), (18, (⟨[3, 24, 25, 26], [], []⟩, ⟨[2], [], []⟩))] (([(2, L18_1), (1, L18_2), (3, L18_3), (0, L18_4)] : List (Nat × LE)).map (·.2)) [] [(15, [(6, [], (.sl (.int .i64)))]), (22, [(3, [1], (.sl (.sl (.int .i64))))])]
theorem ek18_1 : EOk (E18i25) (C18i25) Try.f25.ntmps (bodyL Try.f25 2) (L18_1) := eok_of (e := L18_1) (fun R x Kn k => s18_1 x.1.2.2.2.2.2.2.2.2.1 x.1.2.2.2.2.2.2.2.2.2.1 (fun v0 v1 => Kn (((), (), x.1.2.2.1, x.1.2.2.2.1, x.1.2.2.2.2.1, x.1.2.2.2.2.2.1, x.1.2.2.2.2.2.2.1, x.1.2.2.2.2.2.2.2.1, x.1.2.2.2.2.2.2.2.2.1, x.1.2.2.2.2.2.2.2.2.2.1, v0, ()), ((), (x.2.2.1.1, (), (), (), ()), v1, x.2.2.2.2.1, x.2.2.2.2.2.1, x.2.2.2.2.2.2.1, ()))) (fun y0 => k (.exit 4) ⟨[(3, (.box 1 [] 0)), (6, (.own 2)), (24, (.dat (.sl (.sl G42)) x.1.2.2.1)), (25, (.dat (.int .i64) x.1.2.2.2.1)), (26, (.dat (.int .i64) x.1.2.2.2.2.1)), (35, (.dat (.sl G42) x.1.2.2.2.2.2.1)), (36, (.dat (.int .i64) x.1.2.2.2.2.2.2.1)), (37, (.dat (.int .i64) x.1.2.2.2.2.2.2.2.1))], [.dead, (.box (.agg (.scons (.dat G24 x.2.2.1.1) (.scons (.own 3) (.scons (.own 4) (.scons (.own 5) .snil)))))), (.arr (.int .i64) y0), (.arr (.sl (.int .i64)) x.2.2.2.2.1), (.arr (.int .i64) x.2.2.2.2.2.1), (.arr (.int .i64) x.2.2.2.2.2.2.1)]⟩) x.1.2.2.2.2.2.2.2.2.2.2.1 x.2.2.2.1) (fun _ _ _ => rfl) (fun _ _ _ _ => rfl) (fun R x Kn k => by kernel_rfl)
theorem ek18_2 : EOk (E18i25) (C18i25) Try.f25.ntmps (bodyL Try.f25 1) (L18_2) := eok_of (e := L18_2) (fun R x Kn k => s18_2 x.1.2.2.2.2.2.1 x.1.2.2.2.2.2.2.1 (fun v0 v1 => Kn (((), (), x.1.2.2.1, x.1.2.2.2.1, x.1.2.2.2.2.1, x.1.2.2.2.2.2.1, x.1.2.2.2.2.2.2.1, v0, ()), ((), (x.2.2.1.1, (), (), (), ()), v1, x.2.2.2.2.1, x.2.2.2.2.2.1, x.2.2.2.2.2.2.1, ()))) (fun y0 => k (.exit 2) ⟨[(3, (.box 1 [] 0)), (6, (.own 2)), (24, (.dat (.sl (.sl G42)) x.1.2.2.1)), (25, (.dat (.int .i64) x.1.2.2.2.1)), (26, (.dat (.int .i64) x.1.2.2.2.2.1))], [.dead, (.box (.agg (.scons (.dat G24 x.2.2.1.1) (.scons (.own 3) (.scons (.own 4) (.scons (.own 5) .snil)))))), (.arr (.int .i64) y0), (.arr (.sl (.int .i64)) x.2.2.2.2.1), (.arr (.int .i64) x.2.2.2.2.2.1), (.arr (.int .i64) x.2.2.2.2.2.2.1)]⟩) x.1.2.2.2.2.2.2.2.1 x.2.2.2.1) (fun _ _ _ => rfl) (fun _ _ _ _ => rfl) (fun R x Kn k => by kernel_rfl)
theorem ek18_3 : EOk (E18i25) (C18i25) Try.f25.ntmps (bodyL Try.f25 3) (L18_3) := eok_of (e := L18_3) (fun R x Kn k => s18_3 x.1.2.2.2.2.1 x.1.2.2.2.2.2.1 (fun v0 v1 => Kn (((), x.1.2.1, x.1.2.2.1, x.1.2.2.2.1, x.1.2.2.2.2.1, x.1.2.2.2.2.2.1, v0, ()), ((), (x.2.2.1.1, (), (), (), ()), x.2.2.2.1, v1, x.2.2.2.2.2.1, ()))) (fun y0 => k (.exit 6) ⟨[(3, (.box 1 [] 0)), (24, (.dat (.sl (.sl G42)) x.1.2.1)), (25, (.dat (.int .i64) x.1.2.2.1)), (26, (.dat (.int .i64) x.1.2.2.2.1))], [.dead, (.box (.agg (.scons (.dat G24 x.2.2.1.1) (.scons (.own 2) (.scons (.own 3) (.scons (.own 4) .snil)))))), (.arr (.sl (.int .i64)) x.2.2.2.1), (.arr (.int .i64) y0), (.arr (.int .i64) x.2.2.2.2.2.1)]⟩) x.1.2.2.2.2.2.2.1 x.2.2.2.2.1) (fun _ _ _ => rfl) (fun _ _ _ _ => rfl) (fun R x Kn k => by kernel_rfl)
theorem ek18_4 : EOk (E18i25) (C18i25) Try.f25.ntmps (bodyL Try.f25 0) (L18_4) := eok_of (e := L18_4) (fun R x Kn k => s18_4 x.1.2.1 x.1.2.2.1 (fun v0 v1 v2 => Kn (((), x.1.2.1, x.1.2.2.1, v0, ()), ((), (x.2.2.1.1, (), (), (), ()), v1, v2, x.2.2.2.2.2.1, ()))) (fun y0 y1 => k (.exit 0) ⟨[(3, (.box 1 [] 0))], [.dead, (.box (.agg (.scons (.dat G24 x.2.2.1.1) (.scons (.own 2) (.scons (.own 3) (.scons (.own 4) .snil)))))), (.arr (.sl (.int .i64)) y0), (.arr (.int .i64) y1), (.arr (.int .i64) x.2.2.2.2.2.1)]⟩) x.1.2.2.2.1 x.2.2.2.1 x.2.2.2.2.1) (fun _ _ _ => rfl) (fun _ _ _ _ => rfl) (fun R x Kn k => by kernel_rfl)
theorem lm18i25 : ∀ c, Try.f25.body = some c → LmOk (E18i25) (C18i25) Try.f25.ntmps c := lmOk_of (ps := [(2, L18_1), (1, L18_2), (3, L18_3), (0, L18_4)]) (by kernel_rfl) (by kernel_rfl) ⟨ek18_1, ek18_2, ek18_3, ek18_4, trivial⟩
noncomputable def c18i25 : CmE := inl E18i25 C18i25 25 Try.f25
theorem d18i25 : CmOk Try.prog c18i25 := inl_ok (E := E18i25) ok18i25 ord lm18i25 Try.func25 ca25

theorem ca18 : callable Try.prog 18 := ⟨Try.f18, Try.func18, by kernel_rfl, by kernel_rfl⟩
noncomputable def E18 : Env := mkEnv2 Try.prog [e12, e16] [c18i25, c44]
theorem ok18 : EnvOk (E18) := mkEnv2_ok (by simp only [List.mem_cons, List.not_mem_nil, or_false, forall_eq_or_imp, forall_eq]; exact ⟨p12, p16⟩) (by simp only [List.mem_cons, List.not_mem_nil, or_false, forall_eq_or_imp, forall_eq]; exact ⟨d18i25, d44⟩)
noncomputable def C18 : Cfg := noCfg
theorem lm18 : ∀ c, Try.f18.body = some c → LmOk (E18) (C18) Try.f18.ntmps c := fun _ _ => noCfg_lm
noncomputable def m18 (a0 : T24) (a1 : (List Int)) (a2 : Int) (a3 : (List T42)) : Option (Int) :=
  (m16 a0).bind fun r1 =>
  bif (!r1) then
    some 1
  else
    (m12 a0 a1).bind fun r2 =>
    bif ((!r2.2.1) || (r2.1 != a2)) then
      some 24
    else
      (m36 a0).bind fun r3 =>
      asrt true (decide (0 ≤ r3) && decide (r3 ≤ r3) && decide (r3 ≤ (LIM : Int))) (
        asrt true (decide (0 ≤ (List.length a0.2.1 : Int)) && decide ((List.length a0.2.1 : Int) ≤ (List.length a0.2.1 : Int)) && decide ((List.length a0.2.1 : Int) ≤ (LIM : Int))) (
          l18_4 a0.1 (List.length a0.1 : Int) (fun y17 y18 =>
              (m44 [] a2 a3 a0 y17 y18 (List.replicate ((List.length a0.2.1 : Int) : Int).toNat 0)).bind fun r19 =>
              bif ((!r19.1.1.2.1) || (decide ((List.length r19.1.1.1 : Int) > 0))) then
                some 24
              else
                some 0) FUEL 0 [] (List.replicate (r3 : Int).toNat 0)))
noncomputable def e18 : PmE := entry 18 [G24, (.sl (.int .i64)), (.int .i64), (.sl G42)] false (.int .i64) (fun x => m18 x.1 x.2.1 x.2.2.1 x.2.2.2.1)
theorem q18 (x : tyL [G24, (.sl (.int .i64)), (.int .i64), (.sl G42)]) : execF E18 C18 Try.f18 (datL [G24, (.sl (.int .i64)), (.int .i64), (.sl G42)] x) [] (retK false (.int .i64)) = m18 x.1 x.2.1 x.2.2.1 x.2.2.2.1 := by kernel_rfl
theorem p18 : PmOk Try.prog e18 := pm_ok (E := E18) ok18 ord lm18 Try.func18 ca18 q18

/-! 8: consol/consollaw40.small -/
noncomputable def c24 : CmE := inl E24 C24 24 Try.f24
theorem d24 : CmOk Try.prog c24 := inl_ok (E := E24) ok24 ord lm24 Try.func24 ca24

theorem ca8 : callable Try.prog 8 := ⟨Try.f8, Try.func8, by kernel_rfl, by kernel_rfl⟩
noncomputable def E8 : Env := mkEnv2 Try.prog [e10, e12, e14, e15, e18, e24] [c24]
theorem ok8 : EnvOk (E8) := mkEnv2_ok (by simp only [List.mem_cons, List.not_mem_nil, or_false, forall_eq_or_imp, forall_eq]; exact ⟨p10, p12, p14, p15, p18, p24⟩) (by simp only [List.mem_cons, List.not_mem_nil, or_false, forall_eq]; exact d24)
noncomputable def C8 : Cfg := mkCfg [] [] (([] : List (Nat × LE)).map (·.2)) [(6, 24)] [(8, [(15, [], G24)])]
theorem lm8 : ∀ c, Try.f8.body = some c → LmOk (E8) (C8) Try.f8.ntmps c := lmOk_of (ps := []) (by kernel_rfl) (by kernel_rfl) trivial
noncomputable def m8  : Option (Bool) :=
  (m24 100).bind fun r1 =>
  (m10 r1).bind fun r2 =>
  (m24 50).bind fun r3 =>
  (m10 r3).bind fun r4 =>
  (m24 20).bind fun r5 =>
  (m10 r5).bind fun r6 =>
  bif (((r2.2.2.2.1 == 0) && (r2.2.1 == 5)) == true) then
    (bif (((r2.2.2.2.1 == 0) && (r2.2.1 == 5)) == true) then (m14 r2.1 [1, 1]) else some false).bind fun r7 =>
    bif ((((((r2.2.2.2.1 == 0) && (r2.2.1 == 5)) && r7) && (r4.2.2.2.1 == 0)) && (r4.2.1 == 7)) == true) then
      (bif ((((((r2.2.2.2.1 == 0) && (r2.2.1 == 5)) && r7) && (r4.2.2.2.1 == 0)) && (r4.2.1 == 7)) == true) then (m14 r4.1 [0, 1]) else some false).bind fun r8 =>
      (bif (((((((r2.2.2.2.1 == 0) && (r2.2.1 == 5)) && r7) && (r4.2.2.2.1 == 0)) && (r4.2.1 == 7)) && r8) == true) then (m15 r4.2.2.1 [([0], 7, (-1), ()), ([1, 0], 10, (-1), ()), ([1, 1], 0, 0, ())]) else some false).bind fun r9 =>
      bif ((((((((((r2.2.2.2.1 == 0) && (r2.2.1 == 5)) && r7) && (r4.2.2.2.1 == 0)) && (r4.2.1 == 7)) && r8) && r9) && (r6.2.2.2.1 == 0)) && (r6.2.1 == 12)) == true) then
        (bif ((((((((((r2.2.2.2.1 == 0) && (r2.2.1 == 5)) && r7) && (r4.2.2.2.1 == 0)) && (r4.2.1 == 7)) && r8) && r9) && (r6.2.2.2.1 == 0)) && (r6.2.1 == 12)) == true) then (m14 r6.1 [0, 0]) else some false).bind fun r10 =>
        asrt true (decide (0 ≤ 0) && decide (0 < (List.length [[([5], (-1), 0, ()), ([3], 0, 40, ())], [([7], (-1), 0, ()), ([2], 0, 30, ())]] : Int))) (
          (([[([5], (-1), 0, ()), ([3], 0, 40, ())], [([7], (-1), 0, ()), ([2], 0, 30, ())]])[(0 : Int).toNat]?).bind fun x11 =>
          asrt true (bounds true (List.length x11) 1 (List.length x11 : Int)) (
            asrt true (decide (0 ≤ 0) && decide (0 < (List.length [[([5], (-1), 0, ()), ([3], 0, 40, ())], [([7], (-1), 0, ()), ([2], 0, 30, ())]] : Int))) (
              (([[([5], (-1), 0, ()), ([3], 0, 40, ())], [([7], (-1), 0, ()), ([2], 0, 30, ())]])[(0 : Int).toNat]?).bind fun x12 =>
              (m10 ((List.set [[([5], (-1), 0, ()), ([3], 0, 40, ())], [([7], (-1), 0, ()), ([2], 0, 30, ())]] (0 : Int).toNat (subl x11 1 (List.length x11 : Int))), [20], ())).bind fun r13 =>
              (m24 50).bind fun r14 =>
              (m12 r14 [1, 0]).bind fun r15 =>
              (bif ((((((((((((((r2.2.2.2.1 == 0) && (r2.2.1 == 5)) && r7) && (r4.2.2.2.1 == 0)) && (r4.2.1 == 7)) && r8) && r9) && (r6.2.2.2.1 == 0)) && (r6.2.1 == 12)) && r10) && (r13.2.2.2.1 == 4)) && (r15.1 == 10)) && r15.2.1) == true) then (m24 50) else some (([] : (List (List T42))), ([] : (List Int)), ())).bind fun r16 =>
              (bif ((((((((((((((r2.2.2.2.1 == 0) && (r2.2.1 == 5)) && r7) && (r4.2.2.2.1 == 0)) && (r4.2.1 == 7)) && r8) && r9) && (r6.2.2.2.1 == 0)) && (r6.2.1 == 12)) && r10) && (r13.2.2.2.1 == 4)) && (r15.1 == 10)) && r15.2.1) == true) then (m18 r16 r4.1 r4.2.1 r4.2.2.1) else some 0).bind fun r17 =>
              (bif (((((((((((((((r2.2.2.2.1 == 0) && (r2.2.1 == 5)) && r7) && (r4.2.2.2.1 == 0)) && (r4.2.1 == 7)) && r8) && r9) && (r6.2.2.2.1 == 0)) && (r6.2.1 == 12)) && r10) && (r13.2.2.2.1 == 4)) && (r15.1 == 10)) && r15.2.1) && (r17 == 0)) == true) then (m24 50) else some (([] : (List (List T42))), ([] : (List Int)), ())).bind fun r18 =>
              bif (((((((((((((((r2.2.2.2.1 == 0) && (r2.2.1 == 5)) && r7) && (r4.2.2.2.1 == 0)) && (r4.2.1 == 7)) && r8) && r9) && (r6.2.2.2.1 == 0)) && (r6.2.1 == 12)) && r10) && (r13.2.2.2.1 == 4)) && (r15.1 == 10)) && r15.2.1) && (r17 == 0)) == true) then
                (bif (((((((((((((((r2.2.2.2.1 == 0) && (r2.2.1 == 5)) && r7) && (r4.2.2.2.1 == 0)) && (r4.2.1 == 7)) && r8) && r9) && (r6.2.2.2.1 == 0)) && (r6.2.1 == 12)) && r10) && (r13.2.2.2.1 == 4)) && (r15.1 == 10)) && r15.2.1) && (r17 == 0)) == true) then (m18 r18 [1, 0] 10 r4.2.2.1) else some 0).bind fun r19 =>
                some (((((((((((((((r2.2.2.2.1 == 0) && (r2.2.1 == 5)) && r7) && (r4.2.2.2.1 == 0)) && (r4.2.1 == 7)) && r8) && r9) && (r6.2.2.2.1 == 0)) && (r6.2.1 == 12)) && r10) && (r13.2.2.2.1 == 4)) && (r15.1 == 10)) && r15.2.1) && (r17 == 0)) && (r19 == 24))
              else
                (bif (((((((((((((((r2.2.2.2.1 == 0) && (r2.2.1 == 5)) && r7) && (r4.2.2.2.1 == 0)) && (r4.2.1 == 7)) && r8) && r9) && (r6.2.2.2.1 == 0)) && (r6.2.1 == 12)) && r10) && (r13.2.2.2.1 == 4)) && (r15.1 == 10)) && r15.2.1) && (r17 == 0)) == true) then (m18 r18 [] 10 r4.2.2.1) else some 0).bind fun r20 =>
                some (((((((((((((((r2.2.2.2.1 == 0) && (r2.2.1 == 5)) && r7) && (r4.2.2.2.1 == 0)) && (r4.2.1 == 7)) && r8) && r9) && (r6.2.2.2.1 == 0)) && (r6.2.1 == 12)) && r10) && (r13.2.2.2.1 == 4)) && (r15.1 == 10)) && r15.2.1) && (r17 == 0)) && (r20 == 24)))))
      else
        (bif ((((((((((r2.2.2.2.1 == 0) && (r2.2.1 == 5)) && r7) && (r4.2.2.2.1 == 0)) && (r4.2.1 == 7)) && r8) && r9) && (r6.2.2.2.1 == 0)) && (r6.2.1 == 12)) == true) then (m14 r6.1 []) else some false).bind fun r21 =>
        asrt true (decide (0 ≤ 0) && decide (0 < (List.length [[([5], (-1), 0, ()), ([3], 0, 40, ())], [([7], (-1), 0, ()), ([2], 0, 30, ())]] : Int))) (
          (([[([5], (-1), 0, ()), ([3], 0, 40, ())], [([7], (-1), 0, ()), ([2], 0, 30, ())]])[(0 : Int).toNat]?).bind fun x22 =>
          asrt true (bounds true (List.length x22) 1 (List.length x22 : Int)) (
            asrt true (decide (0 ≤ 0) && decide (0 < (List.length [[([5], (-1), 0, ()), ([3], 0, 40, ())], [([7], (-1), 0, ()), ([2], 0, 30, ())]] : Int))) (
              (([[([5], (-1), 0, ()), ([3], 0, 40, ())], [([7], (-1), 0, ()), ([2], 0, 30, ())]])[(0 : Int).toNat]?).bind fun x23 =>
              (m10 ((List.set [[([5], (-1), 0, ()), ([3], 0, 40, ())], [([7], (-1), 0, ()), ([2], 0, 30, ())]] (0 : Int).toNat (subl x22 1 (List.length x22 : Int))), [20], ())).bind fun r24 =>
              (m24 50).bind fun r25 =>
              (m12 r25 [1, 0]).bind fun r26 =>
              (bif ((((((((((((((r2.2.2.2.1 == 0) && (r2.2.1 == 5)) && r7) && (r4.2.2.2.1 == 0)) && (r4.2.1 == 7)) && r8) && r9) && (r6.2.2.2.1 == 0)) && (r6.2.1 == 12)) && r21) && (r24.2.2.2.1 == 4)) && (r26.1 == 10)) && r26.2.1) == true) then (m24 50) else some (([] : (List (List T42))), ([] : (List Int)), ())).bind fun r27 =>
              (bif ((((((((((((((r2.2.2.2.1 == 0) && (r2.2.1 == 5)) && r7) && (r4.2.2.2.1 == 0)) && (r4.2.1 == 7)) && r8) && r9) && (r6.2.2.2.1 == 0)) && (r6.2.1 == 12)) && r21) && (r24.2.2.2.1 == 4)) && (r26.1 == 10)) && r26.2.1) == true) then (m18 r27 r4.1 r4.2.1 r4.2.2.1) else some 0).bind fun r28 =>
              (bif (((((((((((((((r2.2.2.2.1 == 0) && (r2.2.1 == 5)) && r7) && (r4.2.2.2.1 == 0)) && (r4.2.1 == 7)) && r8) && r9) && (r6.2.2.2.1 == 0)) && (r6.2.1 == 12)) && r21) && (r24.2.2.2.1 == 4)) && (r26.1 == 10)) && r26.2.1) && (r28 == 0)) == true) then (m24 50) else some (([] : (List (List T42))), ([] : (List Int)), ())).bind fun r29 =>
              bif (((((((((((((((r2.2.2.2.1 == 0) && (r2.2.1 == 5)) && r7) && (r4.2.2.2.1 == 0)) && (r4.2.1 == 7)) && r8) && r9) && (r6.2.2.2.1 == 0)) && (r6.2.1 == 12)) && r21) && (r24.2.2.2.1 == 4)) && (r26.1 == 10)) && r26.2.1) && (r28 == 0)) == true) then
                (bif (((((((((((((((r2.2.2.2.1 == 0) && (r2.2.1 == 5)) && r7) && (r4.2.2.2.1 == 0)) && (r4.2.1 == 7)) && r8) && r9) && (r6.2.2.2.1 == 0)) && (r6.2.1 == 12)) && r21) && (r24.2.2.2.1 == 4)) && (r26.1 == 10)) && r26.2.1) && (r28 == 0)) == true) then (m18 r29 [1, 0] 10 r4.2.2.1) else some 0).bind fun r30 =>
                some (((((((((((((((r2.2.2.2.1 == 0) && (r2.2.1 == 5)) && r7) && (r4.2.2.2.1 == 0)) && (r4.2.1 == 7)) && r8) && r9) && (r6.2.2.2.1 == 0)) && (r6.2.1 == 12)) && r21) && (r24.2.2.2.1 == 4)) && (r26.1 == 10)) && r26.2.1) && (r28 == 0)) && (r30 == 24))
              else
                (bif (((((((((((((((r2.2.2.2.1 == 0) && (r2.2.1 == 5)) && r7) && (r4.2.2.2.1 == 0)) && (r4.2.1 == 7)) && r8) && r9) && (r6.2.2.2.1 == 0)) && (r6.2.1 == 12)) && r21) && (r24.2.2.2.1 == 4)) && (r26.1 == 10)) && r26.2.1) && (r28 == 0)) == true) then (m18 r29 [] 10 r4.2.2.1) else some 0).bind fun r31 =>
                some (((((((((((((((r2.2.2.2.1 == 0) && (r2.2.1 == 5)) && r7) && (r4.2.2.2.1 == 0)) && (r4.2.1 == 7)) && r8) && r9) && (r6.2.2.2.1 == 0)) && (r6.2.1 == 12)) && r21) && (r24.2.2.2.1 == 4)) && (r26.1 == 10)) && r26.2.1) && (r28 == 0)) && (r31 == 24)))))
    else
      (bif ((((((r2.2.2.2.1 == 0) && (r2.2.1 == 5)) && r7) && (r4.2.2.2.1 == 0)) && (r4.2.1 == 7)) == true) then (m14 r4.1 []) else some false).bind fun r32 =>
      (bif (((((((r2.2.2.2.1 == 0) && (r2.2.1 == 5)) && r7) && (r4.2.2.2.1 == 0)) && (r4.2.1 == 7)) && r32) == true) then (m15 r4.2.2.1 [([0], 7, (-1), ()), ([1, 0], 10, (-1), ()), ([1, 1], 0, 0, ())]) else some false).bind fun r33 =>
      bif ((((((((((r2.2.2.2.1 == 0) && (r2.2.1 == 5)) && r7) && (r4.2.2.2.1 == 0)) && (r4.2.1 == 7)) && r32) && r33) && (r6.2.2.2.1 == 0)) && (r6.2.1 == 12)) == true) then
        (bif ((((((((((r2.2.2.2.1 == 0) && (r2.2.1 == 5)) && r7) && (r4.2.2.2.1 == 0)) && (r4.2.1 == 7)) && r32) && r33) && (r6.2.2.2.1 == 0)) && (r6.2.1 == 12)) == true) then (m14 r6.1 [0, 0]) else some false).bind fun r34 =>
        asrt true (decide (0 ≤ 0) && decide (0 < (List.length [[([5], (-1), 0, ()), ([3], 0, 40, ())], [([7], (-1), 0, ()), ([2], 0, 30, ())]] : Int))) (
          (([[([5], (-1), 0, ()), ([3], 0, 40, ())], [([7], (-1), 0, ()), ([2], 0, 30, ())]])[(0 : Int).toNat]?).bind fun x35 =>
          asrt true (bounds true (List.length x35) 1 (List.length x35 : Int)) (
            asrt true (decide (0 ≤ 0) && decide (0 < (List.length [[([5], (-1), 0, ()), ([3], 0, 40, ())], [([7], (-1), 0, ()), ([2], 0, 30, ())]] : Int))) (
              (([[([5], (-1), 0, ()), ([3], 0, 40, ())], [([7], (-1), 0, ()), ([2], 0, 30, ())]])[(0 : Int).toNat]?).bind fun x36 =>
              (m10 ((List.set [[([5], (-1), 0, ()), ([3], 0, 40, ())], [([7], (-1), 0, ()), ([2], 0, 30, ())]] (0 : Int).toNat (subl x35 1 (List.length x35 : Int))), [20], ())).bind fun r37 =>
              (m24 50).bind fun r38 =>
              (m12 r38 [1, 0]).bind fun r39 =>
              (bif ((((((((((((((r2.2.2.2.1 == 0) && (r2.2.1 == 5)) && r7) && (r4.2.2.2.1 == 0)) && (r4.2.1 == 7)) && r32) && r33) && (r6.2.2.2.1 == 0)) && (r6.2.1 == 12)) && r34) && (r37.2.2.2.1 == 4)) && (r39.1 == 10)) && r39.2.1) == true) then (m24 50) else some (([] : (List (List T42))), ([] : (List Int)), ())).bind fun r40 =>
              (bif ((((((((((((((r2.2.2.2.1 == 0) && (r2.2.1 == 5)) && r7) && (r4.2.2.2.1 == 0)) && (r4.2.1 == 7)) && r32) && r33) && (r6.2.2.2.1 == 0)) && (r6.2.1 == 12)) && r34) && (r37.2.2.2.1 == 4)) && (r39.1 == 10)) && r39.2.1) == true) then (m18 r40 r4.1 r4.2.1 r4.2.2.1) else some 0).bind fun r41 =>
              (bif (((((((((((((((r2.2.2.2.1 == 0) && (r2.2.1 == 5)) && r7) && (r4.2.2.2.1 == 0)) && (r4.2.1 == 7)) && r32) && r33) && (r6.2.2.2.1 == 0)) && (r6.2.1 == 12)) && r34) && (r37.2.2.2.1 == 4)) && (r39.1 == 10)) && r39.2.1) && (r41 == 0)) == true) then (m24 50) else some (([] : (List (List T42))), ([] : (List Int)), ())).bind fun r42 =>
              bif (((((((((((((((r2.2.2.2.1 == 0) && (r2.2.1 == 5)) && r7) && (r4.2.2.2.1 == 0)) && (r4.2.1 == 7)) && r32) && r33) && (r6.2.2.2.1 == 0)) && (r6.2.1 == 12)) && r34) && (r37.2.2.2.1 == 4)) && (r39.1 == 10)) && r39.2.1) && (r41 == 0)) == true) then
                (bif (((((((((((((((r2.2.2.2.1 == 0) && (r2.2.1 == 5)) && r7) && (r4.2.2.2.1 == 0)) && (r4.2.1 == 7)) && r32) && r33) && (r6.2.2.2.1 == 0)) && (r6.2.1 == 12)) && r34) && (r37.2.2.2.1 == 4)) && (r39.1 == 10)) && r39.2.1) && (r41 == 0)) == true) then (m18 r42 [1, 0] 10 r4.2.2.1) else some 0).bind fun r43 =>
                some (((((((((((((((r2.2.2.2.1 == 0) && (r2.2.1 == 5)) && r7) && (r4.2.2.2.1 == 0)) && (r4.2.1 == 7)) && r32) && r33) && (r6.2.2.2.1 == 0)) && (r6.2.1 == 12)) && r34) && (r37.2.2.2.1 == 4)) && (r39.1 == 10)) && r39.2.1) && (r41 == 0)) && (r43 == 24))
              else
                (bif (((((((((((((((r2.2.2.2.1 == 0) && (r2.2.1 == 5)) && r7) && (r4.2.2.2.1 == 0)) && (r4.2.1 == 7)) && r32) && r33) && (r6.2.2.2.1 == 0)) && (r6.2.1 == 12)) && r34) && (r37.2.2.2.1 == 4)) && (r39.1 == 10)) && r39.2.1) && (r41 == 0)) == true) then (m18 r42 [] 10 r4.2.2.1) else some 0).bind fun r44 =>
                some (((((((((((((((r2.2.2.2.1 == 0) && (r2.2.1 == 5)) && r7) && (r4.2.2.2.1 == 0)) && (r4.2.1 == 7)) && r32) && r33) && (r6.2.2.2.1 == 0)) && (r6.2.1 == 12)) && r34) && (r37.2.2.2.1 == 4)) && (r39.1 == 10)) && r39.2.1) && (r41 == 0)) && (r44 == 24)))))
      else
        (bif ((((((((((r2.2.2.2.1 == 0) && (r2.2.1 == 5)) && r7) && (r4.2.2.2.1 == 0)) && (r4.2.1 == 7)) && r32) && r33) && (r6.2.2.2.1 == 0)) && (r6.2.1 == 12)) == true) then (m14 r6.1 []) else some false).bind fun r45 =>
        asrt true (decide (0 ≤ 0) && decide (0 < (List.length [[([5], (-1), 0, ()), ([3], 0, 40, ())], [([7], (-1), 0, ()), ([2], 0, 30, ())]] : Int))) (
          (([[([5], (-1), 0, ()), ([3], 0, 40, ())], [([7], (-1), 0, ()), ([2], 0, 30, ())]])[(0 : Int).toNat]?).bind fun x46 =>
          asrt true (bounds true (List.length x46) 1 (List.length x46 : Int)) (
            asrt true (decide (0 ≤ 0) && decide (0 < (List.length [[([5], (-1), 0, ()), ([3], 0, 40, ())], [([7], (-1), 0, ()), ([2], 0, 30, ())]] : Int))) (
              (([[([5], (-1), 0, ()), ([3], 0, 40, ())], [([7], (-1), 0, ()), ([2], 0, 30, ())]])[(0 : Int).toNat]?).bind fun x47 =>
              (m10 ((List.set [[([5], (-1), 0, ()), ([3], 0, 40, ())], [([7], (-1), 0, ()), ([2], 0, 30, ())]] (0 : Int).toNat (subl x46 1 (List.length x46 : Int))), [20], ())).bind fun r48 =>
              (m24 50).bind fun r49 =>
              (m12 r49 [1, 0]).bind fun r50 =>
              (bif ((((((((((((((r2.2.2.2.1 == 0) && (r2.2.1 == 5)) && r7) && (r4.2.2.2.1 == 0)) && (r4.2.1 == 7)) && r32) && r33) && (r6.2.2.2.1 == 0)) && (r6.2.1 == 12)) && r45) && (r48.2.2.2.1 == 4)) && (r50.1 == 10)) && r50.2.1) == true) then (m24 50) else some (([] : (List (List T42))), ([] : (List Int)), ())).bind fun r51 =>
              (bif ((((((((((((((r2.2.2.2.1 == 0) && (r2.2.1 == 5)) && r7) && (r4.2.2.2.1 == 0)) && (r4.2.1 == 7)) && r32) && r33) && (r6.2.2.2.1 == 0)) && (r6.2.1 == 12)) && r45) && (r48.2.2.2.1 == 4)) && (r50.1 == 10)) && r50.2.1) == true) then (m18 r51 r4.1 r4.2.1 r4.2.2.1) else some 0).bind fun r52 =>
              (bif (((((((((((((((r2.2.2.2.1 == 0) && (r2.2.1 == 5)) && r7) && (r4.2.2.2.1 == 0)) && (r4.2.1 == 7)) && r32) && r33) && (r6.2.2.2.1 == 0)) && (r6.2.1 == 12)) && r45) && (r48.2.2.2.1 == 4)) && (r50.1 == 10)) && r50.2.1) && (r52 == 0)) == true) then (m24 50) else some (([] : (List (List T42))), ([] : (List Int)), ())).bind fun r53 =>
              bif (((((((((((((((r2.2.2.2.1 == 0) && (r2.2.1 == 5)) && r7) && (r4.2.2.2.1 == 0)) && (r4.2.1 == 7)) && r32) && r33) && (r6.2.2.2.1 == 0)) && (r6.2.1 == 12)) && r45) && (r48.2.2.2.1 == 4)) && (r50.1 == 10)) && r50.2.1) && (r52 == 0)) == true) then
                (bif (((((((((((((((r2.2.2.2.1 == 0) && (r2.2.1 == 5)) && r7) && (r4.2.2.2.1 == 0)) && (r4.2.1 == 7)) && r32) && r33) && (r6.2.2.2.1 == 0)) && (r6.2.1 == 12)) && r45) && (r48.2.2.2.1 == 4)) && (r50.1 == 10)) && r50.2.1) && (r52 == 0)) == true) then (m18 r53 [1, 0] 10 r4.2.2.1) else some 0).bind fun r54 =>
                some (((((((((((((((r2.2.2.2.1 == 0) && (r2.2.1 == 5)) && r7) && (r4.2.2.2.1 == 0)) && (r4.2.1 == 7)) && r32) && r33) && (r6.2.2.2.1 == 0)) && (r6.2.1 == 12)) && r45) && (r48.2.2.2.1 == 4)) && (r50.1 == 10)) && r50.2.1) && (r52 == 0)) && (r54 == 24))
              else
                (bif (((((((((((((((r2.2.2.2.1 == 0) && (r2.2.1 == 5)) && r7) && (r4.2.2.2.1 == 0)) && (r4.2.1 == 7)) && r32) && r33) && (r6.2.2.2.1 == 0)) && (r6.2.1 == 12)) && r45) && (r48.2.2.2.1 == 4)) && (r50.1 == 10)) && r50.2.1) && (r52 == 0)) == true) then (m18 r53 [] 10 r4.2.2.1) else some 0).bind fun r55 =>
                some (((((((((((((((r2.2.2.2.1 == 0) && (r2.2.1 == 5)) && r7) && (r4.2.2.2.1 == 0)) && (r4.2.1 == 7)) && r32) && r33) && (r6.2.2.2.1 == 0)) && (r6.2.1 == 12)) && r45) && (r48.2.2.2.1 == 4)) && (r50.1 == 10)) && r50.2.1) && (r52 == 0)) && (r55 == 24)))))
  else
    (bif (((r2.2.2.2.1 == 0) && (r2.2.1 == 5)) == true) then (m14 r2.1 []) else some false).bind fun r56 =>
    bif ((((((r2.2.2.2.1 == 0) && (r2.2.1 == 5)) && r56) && (r4.2.2.2.1 == 0)) && (r4.2.1 == 7)) == true) then
      (bif ((((((r2.2.2.2.1 == 0) && (r2.2.1 == 5)) && r56) && (r4.2.2.2.1 == 0)) && (r4.2.1 == 7)) == true) then (m14 r4.1 [0, 1]) else some false).bind fun r57 =>
      (bif (((((((r2.2.2.2.1 == 0) && (r2.2.1 == 5)) && r56) && (r4.2.2.2.1 == 0)) && (r4.2.1 == 7)) && r57) == true) then (m15 r4.2.2.1 [([0], 7, (-1), ()), ([1, 0], 10, (-1), ()), ([1, 1], 0, 0, ())]) else some false).bind fun r58 =>
      bif ((((((((((r2.2.2.2.1 == 0) && (r2.2.1 == 5)) && r56) && (r4.2.2.2.1 == 0)) && (r4.2.1 == 7)) && r57) && r58) && (r6.2.2.2.1 == 0)) && (r6.2.1 == 12)) == true) then
        (bif ((((((((((r2.2.2.2.1 == 0) && (r2.2.1 == 5)) && r56) && (r4.2.2.2.1 == 0)) && (r4.2.1 == 7)) && r57) && r58) && (r6.2.2.2.1 == 0)) && (r6.2.1 == 12)) == true) then (m14 r6.1 [0, 0]) else some false).bind fun r59 =>
        asrt true (decide (0 ≤ 0) && decide (0 < (List.length [[([5], (-1), 0, ()), ([3], 0, 40, ())], [([7], (-1), 0, ()), ([2], 0, 30, ())]] : Int))) (
          (([[([5], (-1), 0, ()), ([3], 0, 40, ())], [([7], (-1), 0, ()), ([2], 0, 30, ())]])[(0 : Int).toNat]?).bind fun x60 =>
          asrt true (bounds true (List.length x60) 1 (List.length x60 : Int)) (
            asrt true (decide (0 ≤ 0) && decide (0 < (List.length [[([5], (-1), 0, ()), ([3], 0, 40, ())], [([7], (-1), 0, ()), ([2], 0, 30, ())]] : Int))) (
              (([[([5], (-1), 0, ()), ([3], 0, 40, ())], [([7], (-1), 0, ()), ([2], 0, 30, ())]])[(0 : Int).toNat]?).bind fun x61 =>
              (m10 ((List.set [[([5], (-1), 0, ()), ([3], 0, 40, ())], [([7], (-1), 0, ()), ([2], 0, 30, ())]] (0 : Int).toNat (subl x60 1 (List.length x60 : Int))), [20], ())).bind fun r62 =>
              (m24 50).bind fun r63 =>
              (m12 r63 [1, 0]).bind fun r64 =>
              (bif ((((((((((((((r2.2.2.2.1 == 0) && (r2.2.1 == 5)) && r56) && (r4.2.2.2.1 == 0)) && (r4.2.1 == 7)) && r57) && r58) && (r6.2.2.2.1 == 0)) && (r6.2.1 == 12)) && r59) && (r62.2.2.2.1 == 4)) && (r64.1 == 10)) && r64.2.1) == true) then (m24 50) else some (([] : (List (List T42))), ([] : (List Int)), ())).bind fun r65 =>
              (bif ((((((((((((((r2.2.2.2.1 == 0) && (r2.2.1 == 5)) && r56) && (r4.2.2.2.1 == 0)) && (r4.2.1 == 7)) && r57) && r58) && (r6.2.2.2.1 == 0)) && (r6.2.1 == 12)) && r59) && (r62.2.2.2.1 == 4)) && (r64.1 == 10)) && r64.2.1) == true) then (m18 r65 r4.1 r4.2.1 r4.2.2.1) else some 0).bind fun r66 =>
              (bif (((((((((((((((r2.2.2.2.1 == 0) && (r2.2.1 == 5)) && r56) && (r4.2.2.2.1 == 0)) && (r4.2.1 == 7)) && r57) && r58) && (r6.2.2.2.1 == 0)) && (r6.2.1 == 12)) && r59) && (r62.2.2.2.1 == 4)) && (r64.1 == 10)) && r64.2.1) && (r66 == 0)) == true) then (m24 50) else some (([] : (List (List T42))), ([] : (List Int)), ())).bind fun r67 =>
              bif (((((((((((((((r2.2.2.2.1 == 0) && (r2.2.1 == 5)) && r56) && (r4.2.2.2.1 == 0)) && (r4.2.1 == 7)) && r57) && r58) && (r6.2.2.2.1 == 0)) && (r6.2.1 == 12)) && r59) && (r62.2.2.2.1 == 4)) && (r64.1 == 10)) && r64.2.1) && (r66 == 0)) == true) then
                (bif (((((((((((((((r2.2.2.2.1 == 0) && (r2.2.1 == 5)) && r56) && (r4.2.2.2.1 == 0)) && (r4.2.1 == 7)) && r57) && r58) && (r6.2.2.2.1 == 0)) && (r6.2.1 == 12)) && r59) && (r62.2.2.2.1 == 4)) && (r64.1 == 10)) && r64.2.1) && (r66 == 0)) == true) then (m18 r67 [1, 0] 10 r4.2.2.1) else some 0).bind fun r68 =>
                some (((((((((((((((r2.2.2.2.1 == 0) && (r2.2.1 == 5)) && r56) && (r4.2.2.2.1 == 0)) && (r4.2.1 == 7)) && r57) && r58) && (r6.2.2.2.1 == 0)) && (r6.2.1 == 12)) && r59) && (r62.2.2.2.1 == 4)) && (r64.1 == 10)) && r64.2.1) && (r66 == 0)) && (r68 == 24))
              else
                (bif (((((((((((((((r2.2.2.2.1 == 0) && (r2.2.1 == 5)) && r56) && (r4.2.2.2.1 == 0)) && (r4.2.1 == 7)) && r57) && r58) && (r6.2.2.2.1 == 0)) && (r6.2.1 == 12)) && r59) && (r62.2.2.2.1 == 4)) && (r64.1 == 10)) && r64.2.1) && (r66 == 0)) == true) then (m18 r67 [] 10 r4.2.2.1) else some 0).bind fun r69 =>
                some (((((((((((((((r2.2.2.2.1 == 0) && (r2.2.1 == 5)) && r56) && (r4.2.2.2.1 == 0)) && (r4.2.1 == 7)) && r57) && r58) && (r6.2.2.2.1 == 0)) && (r6.2.1 == 12)) && r59) && (r62.2.2.2.1 == 4)) && (r64.1 == 10)) && r64.2.1) && (r66 == 0)) && (r69 == 24)))))
      else
        (bif ((((((((((r2.2.2.2.1 == 0) && (r2.2.1 == 5)) && r56) && (r4.2.2.2.1 == 0)) && (r4.2.1 == 7)) && r57) && r58) && (r6.2.2.2.1 == 0)) && (r6.2.1 == 12)) == true) then (m14 r6.1 []) else some false).bind fun r70 =>
        asrt true (decide (0 ≤ 0) && decide (0 < (List.length [[([5], (-1), 0, ()), ([3], 0, 40, ())], [([7], (-1), 0, ()), ([2], 0, 30, ())]] : Int))) (
          (([[([5], (-1), 0, ()), ([3], 0, 40, ())], [([7], (-1), 0, ()), ([2], 0, 30, ())]])[(0 : Int).toNat]?).bind fun x71 =>
          asrt true (bounds true (List.length x71) 1 (List.length x71 : Int)) (
            asrt true (decide (0 ≤ 0) && decide (0 < (List.length [[([5], (-1), 0, ()), ([3], 0, 40, ())], [([7], (-1), 0, ()), ([2], 0, 30, ())]] : Int))) (
              (([[([5], (-1), 0, ()), ([3], 0, 40, ())], [([7], (-1), 0, ()), ([2], 0, 30, ())]])[(0 : Int).toNat]?).bind fun x72 =>
              (m10 ((List.set [[([5], (-1), 0, ()), ([3], 0, 40, ())], [([7], (-1), 0, ()), ([2], 0, 30, ())]] (0 : Int).toNat (subl x71 1 (List.length x71 : Int))), [20], ())).bind fun r73 =>
              (m24 50).bind fun r74 =>
              (m12 r74 [1, 0]).bind fun r75 =>
              (bif ((((((((((((((r2.2.2.2.1 == 0) && (r2.2.1 == 5)) && r56) && (r4.2.2.2.1 == 0)) && (r4.2.1 == 7)) && r57) && r58) && (r6.2.2.2.1 == 0)) && (r6.2.1 == 12)) && r70) && (r73.2.2.2.1 == 4)) && (r75.1 == 10)) && r75.2.1) == true) then (m24 50) else some (([] : (List (List T42))), ([] : (List Int)), ())).bind fun r76 =>
              (bif ((((((((((((((r2.2.2.2.1 == 0) && (r2.2.1 == 5)) && r56) && (r4.2.2.2.1 == 0)) && (r4.2.1 == 7)) && r57) && r58) && (r6.2.2.2.1 == 0)) && (r6.2.1 == 12)) && r70) && (r73.2.2.2.1 == 4)) && (r75.1 == 10)) && r75.2.1) == true) then (m18 r76 r4.1 r4.2.1 r4.2.2.1) else some 0).bind fun r77 =>
              (bif (((((((((((((((r2.2.2.2.1 == 0) && (r2.2.1 == 5)) && r56) && (r4.2.2.2.1 == 0)) && (r4.2.1 == 7)) && r57) && r58) && (r6.2.2.2.1 == 0)) && (r6.2.1 == 12)) && r70) && (r73.2.2.2.1 == 4)) && (r75.1 == 10)) && r75.2.1) && (r77 == 0)) == true) then (m24 50) else some (([] : (List (List T42))), ([] : (List Int)), ())).bind fun r78 =>
              bif (((((((((((((((r2.2.2.2.1 == 0) && (r2.2.1 == 5)) && r56) && (r4.2.2.2.1 == 0)) && (r4.2.1 == 7)) && r57) && r58) && (r6.2.2.2.1 == 0)) && (r6.2.1 == 12)) && r70) && (r73.2.2.2.1 == 4)) && (r75.1 == 10)) && r75.2.1) && (r77 == 0)) == true) then
                (bif (((((((((((((((r2.2.2.2.1 == 0) && (r2.2.1 == 5)) && r56) && (r4.2.2.2.1 == 0)) && (r4.2.1 == 7)) && r57) && r58) && (r6.2.2.2.1 == 0)) && (r6.2.1 == 12)) && r70) && (r73.2.2.2.1 == 4)) && (r75.1 == 10)) && r75.2.1) && (r77 == 0)) == true) then (m18 r78 [1, 0] 10 r4.2.2.1) else some 0).bind fun r79 =>
                some (((((((((((((((r2.2.2.2.1 == 0) && (r2.2.1 == 5)) && r56) && (r4.2.2.2.1 == 0)) && (r4.2.1 == 7)) && r57) && r58) && (r6.2.2.2.1 == 0)) && (r6.2.1 == 12)) && r70) && (r73.2.2.2.1 == 4)) && (r75.1 == 10)) && r75.2.1) && (r77 == 0)) && (r79 == 24))
              else
                (bif (((((((((((((((r2.2.2.2.1 == 0) && (r2.2.1 == 5)) && r56) && (r4.2.2.2.1 == 0)) && (r4.2.1 == 7)) && r57) && r58) && (r6.2.2.2.1 == 0)) && (r6.2.1 == 12)) && r70) && (r73.2.2.2.1 == 4)) && (r75.1 == 10)) && r75.2.1) && (r77 == 0)) == true) then (m18 r78 [] 10 r4.2.2.1) else some 0).bind fun r80 =>
                some (((((((((((((((r2.2.2.2.1 == 0) && (r2.2.1 == 5)) && r56) && (r4.2.2.2.1 == 0)) && (r4.2.1 == 7)) && r57) && r58) && (r6.2.2.2.1 == 0)) && (r6.2.1 == 12)) && r70) && (r73.2.2.2.1 == 4)) && (r75.1 == 10)) && r75.2.1) && (r77 == 0)) && (r80 == 24)))))
    else
      (bif ((((((r2.2.2.2.1 == 0) && (r2.2.1 == 5)) && r56) && (r4.2.2.2.1 == 0)) && (r4.2.1 == 7)) == true) then (m14 r4.1 []) else some false).bind fun r81 =>
      (bif (((((((r2.2.2.2.1 == 0) && (r2.2.1 == 5)) && r56) && (r4.2.2.2.1 == 0)) && (r4.2.1 == 7)) && r81) == true) then (m15 r4.2.2.1 [([0], 7, (-1), ()), ([1, 0], 10, (-1), ()), ([1, 1], 0, 0, ())]) else some false).bind fun r82 =>
      bif ((((((((((r2.2.2.2.1 == 0) && (r2.2.1 == 5)) && r56) && (r4.2.2.2.1 == 0)) && (r4.2.1 == 7)) && r81) && r82) && (r6.2.2.2.1 == 0)) && (r6.2.1 == 12)) == true) then
        (bif ((((((((((r2.2.2.2.1 == 0) && (r2.2.1 == 5)) && r56) && (r4.2.2.2.1 == 0)) && (r4.2.1 == 7)) && r81) && r82) && (r6.2.2.2.1 == 0)) && (r6.2.1 == 12)) == true) then (m14 r6.1 [0, 0]) else some false).bind fun r83 =>
        asrt true (decide (0 ≤ 0) && decide (0 < (List.length [[([5], (-1), 0, ()), ([3], 0, 40, ())], [([7], (-1), 0, ()), ([2], 0, 30, ())]] : Int))) (
          (([[([5], (-1), 0, ()), ([3], 0, 40, ())], [([7], (-1), 0, ()), ([2], 0, 30, ())]])[(0 : Int).toNat]?).bind fun x84 =>
          asrt true (bounds true (List.length x84) 1 (List.length x84 : Int)) (
            asrt true (decide (0 ≤ 0) && decide (0 < (List.length [[([5], (-1), 0, ()), ([3], 0, 40, ())], [([7], (-1), 0, ()), ([2], 0, 30, ())]] : Int))) (
              (([[([5], (-1), 0, ()), ([3], 0, 40, ())], [([7], (-1), 0, ()), ([2], 0, 30, ())]])[(0 : Int).toNat]?).bind fun x85 =>
              (m10 ((List.set [[([5], (-1), 0, ()), ([3], 0, 40, ())], [([7], (-1), 0, ()), ([2], 0, 30, ())]] (0 : Int).toNat (subl x84 1 (List.length x84 : Int))), [20], ())).bind fun r86 =>
              (m24 50).bind fun r87 =>
              (m12 r87 [1, 0]).bind fun r88 =>
              (bif ((((((((((((((r2.2.2.2.1 == 0) && (r2.2.1 == 5)) && r56) && (r4.2.2.2.1 == 0)) && (r4.2.1 == 7)) && r81) && r82) && (r6.2.2.2.1 == 0)) && (r6.2.1 == 12)) && r83) && (r86.2.2.2.1 == 4)) && (r88.1 == 10)) && r88.2.1) == true) then (m24 50) else some (([] : (List (List T42))), ([] : (List Int)), ())).bind fun r89 =>
              (bif ((((((((((((((r2.2.2.2.1 == 0) && (r2.2.1 == 5)) && r56) && (r4.2.2.2.1 == 0)) && (r4.2.1 == 7)) && r81) && r82) && (r6.2.2.2.1 == 0)) && (r6.2.1 == 12)) && r83) && (r86.2.2.2.1 == 4)) && (r88.1 == 10)) && r88.2.1) == true) then (m18 r89 r4.1 r4.2.1 r4.2.2.1) else some 0).bind fun r90 =>
              (bif (((((((((((((((r2.2.2.2.1 == 0) && (r2.2.1 == 5)) && r56) && (r4.2.2.2.1 == 0)) && (r4.2.1 == 7)) && r81) && r82) && (r6.2.2.2.1 == 0)) && (r6.2.1 == 12)) && r83) && (r86.2.2.2.1 == 4)) && (r88.1 == 10)) && r88.2.1) && (r90 == 0)) == true) then (m24 50) else some (([] : (List (List T42))), ([] : (List Int)), ())).bind fun r91 =>
              bif (((((((((((((((r2.2.2.2.1 == 0) && (r2.2.1 == 5)) && r56) && (r4.2.2.2.1 == 0)) && (r4.2.1 == 7)) && r81) && r82) && (r6.2.2.2.1 == 0)) && (r6.2.1 == 12)) && r83) && (r86.2.2.2.1 == 4)) && (r88.1 == 10)) && r88.2.1) && (r90 == 0)) == true) then
                (bif (((((((((((((((r2.2.2.2.1 == 0) && (r2.2.1 == 5)) && r56) && (r4.2.2.2.1 == 0)) && (r4.2.1 == 7)) && r81) && r82) && (r6.2.2.2.1 == 0)) && (r6.2.1 == 12)) && r83) && (r86.2.2.2.1 == 4)) && (r88.1 == 10)) && r88.2.1) && (r90 == 0)) == true) then (m18 r91 [1, 0] 10 r4.2.2.1) else some 0).bind fun r92 =>
                some (((((((((((((((r2.2.2.2.1 == 0) && (r2.2.1 == 5)) && r56) && (r4.2.2.2.1 == 0)) && (r4.2.1 == 7)) && r81) && r82) && (r6.2.2.2.1 == 0)) && (r6.2.1 == 12)) && r83) && (r86.2.2.2.1 == 4)) && (r88.1 == 10)) && r88.2.1) && (r90 == 0)) && (r92 == 24))
              else
                (bif (((((((((((((((r2.2.2.2.1 == 0) && (r2.2.1 == 5)) && r56) && (r4.2.2.2.1 == 0)) && (r4.2.1 == 7)) && r81) && r82) && (r6.2.2.2.1 == 0)) && (r6.2.1 == 12)) && r83) && (r86.2.2.2.1 == 4)) && (r88.1 == 10)) && r88.2.1) && (r90 == 0)) == true) then (m18 r91 [] 10 r4.2.2.1) else some 0).bind fun r93 =>
                some (((((((((((((((r2.2.2.2.1 == 0) && (r2.2.1 == 5)) && r56) && (r4.2.2.2.1 == 0)) && (r4.2.1 == 7)) && r81) && r82) && (r6.2.2.2.1 == 0)) && (r6.2.1 == 12)) && r83) && (r86.2.2.2.1 == 4)) && (r88.1 == 10)) && r88.2.1) && (r90 == 0)) && (r93 == 24)))))
      else
        (bif ((((((((((r2.2.2.2.1 == 0) && (r2.2.1 == 5)) && r56) && (r4.2.2.2.1 == 0)) && (r4.2.1 == 7)) && r81) && r82) && (r6.2.2.2.1 == 0)) && (r6.2.1 == 12)) == true) then (m14 r6.1 []) else some false).bind fun r94 =>
        asrt true (decide (0 ≤ 0) && decide (0 < (List.length [[([5], (-1), 0, ()), ([3], 0, 40, ())], [([7], (-1), 0, ()), ([2], 0, 30, ())]] : Int))) (
          (([[([5], (-1), 0, ()), ([3], 0, 40, ())], [([7], (-1), 0, ()), ([2], 0, 30, ())]])[(0 : Int).toNat]?).bind fun x95 =>
          asrt true (bounds true (List.length x95) 1 (List.length x95 : Int)) (
            asrt true (decide (0 ≤ 0) && decide (0 < (List.length [[([5], (-1), 0, ()), ([3], 0, 40, ())], [([7], (-1), 0, ()), ([2], 0, 30, ())]] : Int))) (
              (([[([5], (-1), 0, ()), ([3], 0, 40, ())], [([7], (-1), 0, ()), ([2], 0, 30, ())]])[(0 : Int).toNat]?).bind fun x96 =>
              (m10 ((List.set [[([5], (-1), 0, ()), ([3], 0, 40, ())], [([7], (-1), 0, ()), ([2], 0, 30, ())]] (0 : Int).toNat (subl x95 1 (List.length x95 : Int))), [20], ())).bind fun r97 =>
              (m24 50).bind fun r98 =>
              (m12 r98 [1, 0]).bind fun r99 =>
              (bif ((((((((((((((r2.2.2.2.1 == 0) && (r2.2.1 == 5)) && r56) && (r4.2.2.2.1 == 0)) && (r4.2.1 == 7)) && r81) && r82) && (r6.2.2.2.1 == 0)) && (r6.2.1 == 12)) && r94) && (r97.2.2.2.1 == 4)) && (r99.1 == 10)) && r99.2.1) == true) then (m24 50) else some (([] : (List (List T42))), ([] : (List Int)), ())).bind fun r100 =>
              (bif ((((((((((((((r2.2.2.2.1 == 0) && (r2.2.1 == 5)) && r56) && (r4.2.2.2.1 == 0)) && (r4.2.1 == 7)) && r81) && r82) && (r6.2.2.2.1 == 0)) && (r6.2.1 == 12)) && r94) && (r97.2.2.2.1 == 4)) && (r99.1 == 10)) && r99.2.1) == true) then (m18 r100 r4.1 r4.2.1 r4.2.2.1) else some 0).bind fun r101 =>
              (bif (((((((((((((((r2.2.2.2.1 == 0) && (r2.2.1 == 5)) && r56) && (r4.2.2.2.1 == 0)) && (r4.2.1 == 7)) && r81) && r82) && (r6.2.2.2.1 == 0)) && (r6.2.1 == 12)) && r94) && (r97.2.2.2.1 == 4)) && (r99.1 == 10)) && r99.2.1) && (r101 == 0)) == true) then (m24 50) else some (([] : (List (List T42))), ([] : (List Int)), ())).bind fun r102 =>
              bif (((((((((((((((r2.2.2.2.1 == 0) && (r2.2.1 == 5)) && r56) && (r4.2.2.2.1 == 0)) && (r4.2.1 == 7)) && r81) && r82) && (r6.2.2.2.1 == 0)) && (r6.2.1 == 12)) && r94) && (r97.2.2.2.1 == 4)) && (r99.1 == 10)) && r99.2.1) && (r101 == 0)) == true) then
                (bif (((((((((((((((r2.2.2.2.1 == 0) && (r2.2.1 == 5)) && r56) && (r4.2.2.2.1 == 0)) && (r4.2.1 == 7)) && r81) && r82) && (r6.2.2.2.1 == 0)) && (r6.2.1 == 12)) && r94) && (r97.2.2.2.1 == 4)) && (r99.1 == 10)) && r99.2.1) && (r101 == 0)) == true) then (m18 r102 [1, 0] 10 r4.2.2.1) else some 0).bind fun r103 =>
                some (((((((((((((((r2.2.2.2.1 == 0) && (r2.2.1 == 5)) && r56) && (r4.2.2.2.1 == 0)) && (r4.2.1 == 7)) && r81) && r82) && (r6.2.2.2.1 == 0)) && (r6.2.1 == 12)) && r94) && (r97.2.2.2.1 == 4)) && (r99.1 == 10)) && r99.2.1) && (r101 == 0)) && (r103 == 24))
              else
                (bif (((((((((((((((r2.2.2.2.1 == 0) && (r2.2.1 == 5)) && r56) && (r4.2.2.2.1 == 0)) && (r4.2.1 == 7)) && r81) && r82) && (r6.2.2.2.1 == 0)) && (r6.2.1 == 12)) && r94) && (r97.2.2.2.1 == 4)) && (r99.1 == 10)) && r99.2.1) && (r101 == 0)) == true) then (m18 r102 [] 10 r4.2.2.1) else some 0).bind fun r104 =>
                some (((((((((((((((r2.2.2.2.1 == 0) && (r2.2.1 == 5)) && r56) && (r4.2.2.2.1 == 0)) && (r4.2.1 == 7)) && r81) && r82) && (r6.2.2.2.1 == 0)) && (r6.2.1 == 12)) && r94) && (r97.2.2.2.1 == 4)) && (r99.1 == 10)) && r99.2.1) && (r101 == 0)) && (r104 == 24)))))
noncomputable def e8 : PmE := entry 8 [] false .bool (fun x => m8 )
theorem q8 (x : tyL []) : execF E8 C8 Try.f8 (datL [] x) [] (retK false .bool) = m8  := by kernel_rfl
theorem p8 : PmOk Try.prog e8 := pm_ok (E := E8) ok8 ord lm8 Try.func8 ca8 q8

/-! 9: consol/consolref40.Few -/
theorem ca9 : callable Try.prog 9 := ⟨Try.f9, Try.func9, by kernel_rfl, by kernel_rfl⟩
noncomputable def E9 : Env := mkEnv2 Try.prog [] []
theorem ok9 : EnvOk (E9) := mkEnv2_ok (by simp) (by simp)
/-- a round of a loop of consol/consolref40.Few -/
noncomputable def s9_1 {R : Type} (t5 : Int) (o0 : T24) (kn : Int → Option R) (k1 : Option R) (k2 : Option R) (t6 : Int) : Option R :=
  (idx o0.1 t5).bind fun x2 =>
  bif (decide (t6 < (List.length x2 : Int))) then
    (idx o0.1 t5).bind fun x3 =>
    (idx x3 t6).bind fun x4 =>
    bif (decide ((List.length x4.1 : Int) > 3)) then
      k2
    else
      kn (IntKind.i64.wrap (t6 + 1))
  else
    k1
noncomputable def l9_1 {R : Type} (t5 : Int) (o0 : T24) (k1 : Option R) (k2 : Option R) : Nat → Int → Option R
  | 0, _ => none
  | n + 1, t6 => s9_1 t5 o0 (l9_1 t5 o0 k1 k2 n) k1 k2 t6
noncomputable def L9_1 : LE := ⟨10, 0, ⟨[(1, (.dat (.sl G42))), (2, (.box 0 [] 0)), (5, (.dat (.int .i64))), (6, (.dat (.int .i64)))], [(.box (.dat G24))]⟩, fun R n x k => l9_1 x.1.2.2.1 x.2.1 (k (.exit 2) ⟨[(1, (.dat (.sl G42) x.1.1)), (2, (.box 0 [] 0)), (5, (.dat (.int .i64) x.1.2.2.1))], [(.box (.dat G24 x.2.1))]⟩) (k .ret ⟨[(4, (.dat .bool false))], []⟩) n x.1.2.2.2.1⟩
/-- a round of a loop of consol/consolref40.Few -/
noncomputable def s9_2 {R : Type} (o0 : T24) (kn : Int → Option R) (k1 : Option R) (k2 : Option R) (t5 : Int) : Option R :=
  bif (decide (t5 < (List.length o0.1 : Int))) then
    (idx o0.1 t5).bind fun x1 =>
    bif (decide ((List.length x1 : Int) > 4)) then
      k2
    else
      l9_1 t5 o0 (
          kn (IntKind.i64.wrap (t5 + 1))) (
          k2) FUEL 0
  else
    k1
noncomputable def l9_2 {R : Type} (o0 : T24) (k1 : Option R) (k2 : Option R) : Nat → Int → Option R
  | 0, _ => none
  | n + 1, t5 => s9_2 o0 (l9_2 o0 k1 k2 n) k1 k2 t5
noncomputable def L9_2 : LE := ⟨5, 0, ⟨[(1, (.dat (.sl G42))), (2, (.box 0 [] 0)), (5, (.dat (.int .i64)))], [(.box (.dat G24))]⟩, fun R n x k => l9_2 x.2.1 (k (.exit 0) ⟨[(1, (.dat (.sl G42) x.1.1))], []⟩) (k .ret ⟨[(4, (.dat .bool false))], []⟩) n x.1.2.2.1⟩
/-- a round of a loop of consol/consolref40.Few -/
noncomputable def s9_3 {R : Type} (t1 : (List T42)) (kn : Int → Option R) (k1 : Option R) (k2 : Option R) (t7 : Int) : Option R :=
  bif (decide (t7 < (List.length t1 : Int))) then
    (idx t1 t7).bind fun x5 =>
    bif (decide ((List.length x5.1 : Int) > 6)) then
      k2
    else
      kn (IntKind.i64.wrap (t7 + 1))
  else
    k1
noncomputable def l9_3 {R : Type} (t1 : (List T42)) (k1 : Option R) (k2 : Option R) : Nat → Int → Option R
  | 0, _ => none
  | n + 1, t7 => s9_3 t1 (l9_3 t1 k1 k2 n) k1 k2 t7
noncomputable def L9_3 : LE := ⟨15, 0, ⟨[(1, (.dat (.sl G42))), (7, (.dat (.int .i64)))], []⟩, fun R n x k => l9_3 x.1.1 (k (.exit 4) ⟨[], []⟩) (k .ret ⟨[(4, (.dat .bool false))], []⟩) n x.1.2.1⟩
noncomputable def C9 : Cfg := mkCfg [(5, ⟨[1, 2, 5], [], []⟩), (10, ⟨[1, 2, 5, 6], [], []⟩), (15, ⟨[1, 7], [], []⟩)] [(5, (⟨[1], [], []⟩, ⟨[4], [], []⟩)), (10, (⟨[1, 2, 5], [], []⟩, ⟨[4], [], []⟩)), (15, (⟨[], [], []⟩, ⟨[4], [], []⟩))] (([(1, L9_1), (0, L9_2), (2, L9_3)] : List (Nat × LE)).map (·.2))
theorem ek9_1 : EOk (E9) (C9) Try.f9.ntmps (bodyL Try.f9 1) (L9_1) := eok_of (e := L9_1) (fun R x Kn k => s9_1 x.1.2.2.1 x.2.1 (fun v0 => Kn ((x.1.1, (), x.1.2.2.1, v0, ()), (x.2.1, ()))) (k (.exit 2) ⟨[(1, (.dat (.sl G42) x.1.1)), (2, (.box 0 [] 0)), (5, (.dat (.int .i64) x.1.2.2.1))], [(.box (.dat G24 x.2.1))]⟩) (k .ret ⟨[(4, (.dat .bool false))], []⟩) x.1.2.2.2.1) (fun _ _ _ => rfl) (fun _ _ _ _ => rfl) (fun R x Kn k => by kernel_rfl)
theorem ek9_2 : EOk (E9) (C9) Try.f9.ntmps (bodyL Try.f9 0) (L9_2) := eok_of (e := L9_2) (fun R x Kn k => s9_2 x.2.1 (fun v0 => Kn ((x.1.1, (), v0, ()), (x.2.1, ()))) (k (.exit 0) ⟨[(1, (.dat (.sl G42) x.1.1))], []⟩) (k .ret ⟨[(4, (.dat .bool false))], []⟩) x.1.2.2.1) (fun _ _ _ => rfl) (fun _ _ _ _ => rfl) (fun R x Kn k => by kernel_rfl)
theorem ek9_3 : EOk (E9) (C9) Try.f9.ntmps (bodyL Try.f9 2) (L9_3) := eok_of (e := L9_3) (fun R x Kn k => s9_3 x.1.1 (fun v0 => Kn ((x.1.1, v0, ()), (()))) (k (.exit 4) ⟨[], []⟩) (k .ret ⟨[(4, (.dat .bool false))], []⟩) x.1.2.1) (fun _ _ _ => rfl) (fun _ _ _ _ => rfl) (fun R x Kn k => by kernel_rfl)
theorem lm9 : ∀ c, Try.f9.body = some c → LmOk (E9) (C9) Try.f9.ntmps c := lmOk_of (ps := [(1, L9_1), (0, L9_2), (2, L9_3)]) (by kernel_rfl) (by kernel_rfl) ⟨ek9_1, ek9_2, ek9_3, trivial⟩
noncomputable def m9 (a0 : T24) (a1 : (List T42)) : Option (Bool) :=
  bif (((decide ((List.length a0.1 : Int) > 5)) || (decide ((List.length a0.2.1 : Int) > 4))) || (decide ((List.length a1 : Int) > 600))) then
    some false
  else
    l9_2 a0 (
        l9_3 a1 (
            some true) (
            some false) FUEL 0) (
        some false) FUEL 0
noncomputable def e9 : PmE := entry 9 [G24, (.sl G42)] false .bool (fun x => m9 x.1 x.2.1)
theorem q9 (x : tyL [G24, (.sl G42)]) : execF E9 C9 Try.f9 (datL [G24, (.sl G42)] x) [] (retK false .bool) = m9 x.1 x.2.1 := by kernel_rfl
theorem p9 : PmOk Try.prog e9 := pm_ok (E := E9) ok9 ord lm9 Try.func9 ca9 q9

/-! 41: consol/consolref40.scenarios -/
theorem ca41 : callable Try.prog 41 := ⟨Try.f41, Try.func41, by kernel_rfl, by kernel_rfl⟩
noncomputable def E41 : Env := mkEnv2 Try.prog [] []
theorem ok41 : EnvOk (E41) := mkEnv2_ok (by simp) (by simp)
noncomputable def C41 : Cfg := noCfg
theorem lm41 : ∀ c, Try.f41.body = some c → LmOk (E41) (C41) Try.f41.ntmps c := fun _ _ => noCfg_lm
noncomputable def m41 (a0 : T24) : Option (Int) :=
  (idxG (((List.length a0.1 : Int) == 0) == false) ([] : (List T42)) a0.1 0).bind fun x1 =>
  bif (((List.length a0.1 : Int) == 0) || ((List.length x1 : Int) == 0)) then
    some 0
  else
    (idx a0.1 0).bind fun x2 =>
    (idx x2 0).bind fun x3 =>
    some (List.length x3.1 : Int)
noncomputable def e41 : PmE := entry 41 [G24] false (.int .i64) (fun x => m41 x.1)
theorem q41 (x : tyL [G24]) : execF E41 C41 Try.f41 (datL [G24] x) [] (retK false (.int .i64)) = m41 x.1 := by kernel_rfl
theorem p41 : PmOk Try.prog e41 := pm_ok (E := E41) ok41 ord lm41 Try.func41 ca41 q41

/-! 42: consol/consolref40.in -/
theorem ca42 : callable Try.prog 42 := ⟨Try.f42, Try.func42, by kernel_rfl, by kernel_rfl⟩
noncomputable def E42 : Env := mkEnv2 Try.prog [] []
theorem ok42 : EnvOk (E42) := mkEnv2_ok (by simp) (by simp)
noncomputable def C42 : Cfg := noCfg
theorem lm42 : ∀ c, Try.f42.body = some c → LmOk (E42) (C42) Try.f42.ntmps c := fun _ _ => noCfg_lm
noncomputable def m42 (a0 : Int) (a1 : Int) (a2 : Int) : Option (Bool) :=
  some ((decide (a0 ≥ a1)) && (decide (a0 ≤ a2)))
noncomputable def e42 : PmE := entry 42 [(.int .i64), (.int .i64), (.int .i64)] false .bool (fun x => m42 x.1 x.2.1 x.2.2.1)
theorem q42 (x : tyL [(.int .i64), (.int .i64), (.int .i64)]) : execF E42 C42 Try.f42 (datL [(.int .i64), (.int .i64), (.int .i64)] x) [] (retK false .bool) = m42 x.1 x.2.1 x.2.2.1 := by kernel_rfl
theorem p42 : PmOk Try.prog e42 := pm_ok (E := E42) ok42 ord lm42 Try.func42 ca42 q42

/-! 43: consol/consolref40.option -/
theorem ca43 : callable Try.prog 43 := ⟨Try.f43, Try.func43, by kernel_rfl, by kernel_rfl⟩
noncomputable def E43 : Env := mkEnv2 Try.prog [e42] []
theorem ok43 : EnvOk (E43) := mkEnv2_ok (by simp only [List.mem_cons, List.not_mem_nil, or_false, forall_eq]; exact p42) (by simp)
/-- a round of a loop of consol/consolref40.option -/
noncomputable def s43_1 {R : Type} (t1 : Int) (o0 : T42) (kn : Int → Option R) (k1 : Option R) (k2 : Option R) (t7 : Int) : Option R :=
  bif (decide (t7 < t1)) then
    (idx o0.1 t7).bind fun x3 =>
    (m42 x3 0 1000000000000000).bind fun r4 =>
    bif (!r4) then
      k2
    else
      kn (IntKind.i64.wrap (t7 + 1))
  else
    k1
noncomputable def l43_1 {R : Type} (t1 : Int) (o0 : T42) (k1 : Option R) (k2 : Option R) : Nat → Int → Option R
  | 0, _ => none
  | n + 1, t7 => s43_1 t1 o0 (l43_1 t1 o0 k1 k2 n) k1 k2 t7
noncomputable def L43_1 : LE := ⟨5, 0, ⟨[(1, (.dat (.int .i64))), (3, (.box 0 [] 0)), (7, (.dat (.int .i64)))], [(.box (.dat G42))]⟩, fun R n x k => l43_1 x.1.1 x.2.1 (k (.exit 0) ⟨[], []⟩) (k .ret ⟨[(6, (.dat .bool false))], []⟩) n x.1.2.2.1⟩
noncomputable def C43 : Cfg := mkCfg [(5, ⟨[1, 3, 7], [], []⟩)] [(5, (⟨[], [], []⟩, ⟨[6], [], []⟩))] (([(0, L43_1)] : List (Nat × LE)).map (·.2))
theorem ek43_1 : EOk (E43) (C43) Try.f43.ntmps (bodyL Try.f43 0) (L43_1) := eok_of (e := L43_1) (fun R x Kn k => s43_1 x.1.1 x.2.1 (fun v0 => Kn ((x.1.1, (), v0, ()), (x.2.1, ()))) (k (.exit 0) ⟨[], []⟩) (k .ret ⟨[(6, (.dat .bool false))], []⟩) x.1.2.2.1) (fun _ _ _ => rfl) (fun _ _ _ _ => rfl) (fun R x Kn k => by kernel_rfl)
theorem lm43 : ∀ c, Try.f43.body = some c → LmOk (E43) (C43) Try.f43.ntmps c := lmOk_of (ps := [(0, L43_1)]) (by kernel_rfl) (by kernel_rfl) ⟨ek43_1, trivial⟩
noncomputable def m43 (a0 : T42) (a1 : Int) (a2 : Int) : Option (Bool) :=
  (bif (((List.length a0.1 : Int) != a1) == false) then (m42 a0.2.1 (-1) (IntKind.i64.wrap (a2 - 1))) else some false).bind fun r1 =>
  (bif ((((List.length a0.1 : Int) != a1) || (!r1)) == false) then (m42 a0.2.2.1 0 1000000000000000) else some false).bind fun r2 =>
  bif ((((List.length a0.1 : Int) != a1) || (!r1)) || (!r2)) then
    some false
  else
    l43_1 a1 a0 (
        some true) (
        some false) FUEL 0
noncomputable def e43 : PmE := entry 43 [G42, (.int .i64), (.int .i64)] false .bool (fun x => m43 x.1 x.2.1 x.2.2.1)
theorem q43 (x : tyL [G42, (.int .i64), (.int .i64)]) : execF E43 C43 Try.f43 (datL [G42, (.int .i64), (.int .i64)] x) [] (retK false .bool) = m43 x.1 x.2.1 x.2.2.1 := by kernel_rfl
theorem p43 : PmOk Try.prog e43 := pm_ok (E := E43) ok43 ord lm43 Try.func43 ca43 q43

/-! 17: consol/consolref40.Right -/
theorem ca17 : callable Try.prog 17 := ⟨Try.f17, Try.func17, by kernel_rfl, by kernel_rfl⟩
noncomputable def E17 : Env := mkEnv2 Try.prog [e41, e42, e43] []
theorem ok17 : EnvOk (E17) := mkEnv2_ok (by simp only [List.mem_cons, List.not_mem_nil, or_false, forall_eq_or_imp, forall_eq]; exact ⟨p41, p42, p43⟩) (by simp)
/-- a round of a loop of consol/consolref40.Right -/
noncomputable def s17_1 {R : Type} (o0 : T24) (kn : Int → Option R) (k1 : Option R) (k2 : Option R) (t4 : Int) : Option R :=
  bif (decide (t4 < (List.length o0.2.1 : Int))) then
    (idx o0.2.1 t4).bind fun x4 =>
    (m42 x4 0 1000000000000000).bind fun r5 =>
    bif (!r5) then
      k2
    else
      kn (IntKind.i64.wrap (t4 + 1))
  else
    k1
noncomputable def l17_1 {R : Type} (o0 : T24) (k1 : Option R) (k2 : Option R) : Nat → Int → Option R
  | 0, _ => none
  | n + 1, t4 => s17_1 o0 (l17_1 o0 k1 k2 n) k1 k2 t4
noncomputable def L17_1 : LE := ⟨6, 0, ⟨[(1, (.box 0 [] 0)), (3, (.dat (.int .i64))), (4, (.dat (.int .i64)))], [(.box (.dat G24))]⟩, fun R n x k => l17_1 x.2.1 (k (.exit 0) ⟨[(1, (.box 0 [] 0)), (3, (.dat (.int .i64) x.1.2.1))], [(.box (.dat G24 x.2.1))]⟩) (k .ret ⟨[(2, (.dat .bool false))], []⟩) n x.1.2.2.1⟩
/-- a round of a loop of consol/consolref40.Right -/
noncomputable def s17_2 {R : Type} (t3 : Int) (t5 : Int) (o0 : T24) (kn : Int → Option R) (k1 : Option R) (k2 : Option R) (t6 : Int) : Option R :=
  (idx o0.1 t5).bind fun x8 =>
  bif (decide (t6 < (List.length x8 : Int))) then
    (idx o0.1 t5).bind fun x9 =>
    (idx x9 t6).bind fun x10 =>
    (m43 x10 t3 (List.length o0.2.1 : Int)).bind fun r11 =>
    bif (!r11) then
      k2
    else
      kn (IntKind.i64.wrap (t6 + 1))
  else
    k1
noncomputable def l17_2 {R : Type} (t3 : Int) (t5 : Int) (o0 : T24) (k1 : Option R) (k2 : Option R) : Nat → Int → Option R
  | 0, _ => none
  | n + 1, t6 => s17_2 t3 t5 o0 (l17_2 t3 t5 o0 k1 k2 n) k1 k2 t6
noncomputable def L17_2 : LE := ⟨16, 0, ⟨[(1, (.box 0 [] 0)), (3, (.dat (.int .i64))), (5, (.dat (.int .i64))), (6, (.dat (.int .i64)))], [(.box (.dat G24))]⟩, fun R n x k => l17_2 x.1.2.1 x.1.2.2.1 x.2.1 (k (.exit 4) ⟨[(1, (.box 0 [] 0)), (3, (.dat (.int .i64) x.1.2.1)), (5, (.dat (.int .i64) x.1.2.2.1))], [(.box (.dat G24 x.2.1))]⟩) (k .ret ⟨[(2, (.dat .bool false))], []⟩) n x.1.2.2.2.1⟩
/-- a round of a loop of consol/consolref40.Right -/
noncomputable def s17_3 {R : Type} (t3 : Int) (o0 : T24) (kn : Int → Option R) (k1 : Option R) (k2 : Option R) (t5 : Int) : Option R :=
  bif (decide (t5 < (List.length o0.1 : Int))) then
    (idx o0.1 t5).bind fun x6 =>
    (m42 (List.length x6 : Int) 1 6).bind fun r7 =>
    bif (!r7) then
      k2
    else
      l17_2 t3 t5 o0 (
          kn (IntKind.i64.wrap (t5 + 1))) (
          k2) FUEL 0
  else
    k1
noncomputable def l17_3 {R : Type} (t3 : Int) (o0 : T24) (k1 : Option R) (k2 : Option R) : Nat → Int → Option R
  | 0, _ => none
  | n + 1, t5 => s17_3 t3 o0 (l17_3 t3 o0 k1 k2 n) k1 k2 t5
noncomputable def L17_3 : LE := ⟨11, 0, ⟨[(1, (.box 0 [] 0)), (3, (.dat (.int .i64))), (5, (.dat (.int .i64)))], [(.box (.dat G24))]⟩, fun R n x k => l17_3 x.1.2.1 x.2.1 (k (.exit 2) ⟨[], []⟩) (k .ret ⟨[(2, (.dat .bool false))], []⟩) n x.1.2.2.1⟩
noncomputable def C17 : Cfg := mkCfg [(6, ⟨[1, 3, 4], [], []⟩), (11, ⟨[1, 3, 5], [], []⟩), (16, ⟨[1, 3, 5, 6], [], []⟩)] [(6, (⟨[1, 3], [], []⟩, ⟨[2], [], []⟩)), (11, (⟨[], [], []⟩, ⟨[2], [], []⟩)), (16, (⟨[1, 3, 5], [], []⟩, ⟨[2], [], []⟩))] (([(0, L17_1), (2, L17_2), (1, L17_3)] : List (Nat × LE)).map (·.2))
theorem ek17_1 : EOk (E17) (C17) Try.f17.ntmps (bodyL Try.f17 0) (L17_1) := eok_of (e := L17_1) (fun R x Kn k => s17_1 x.2.1 (fun v0 => Kn (((), x.1.2.1, v0, ()), (x.2.1, ()))) (k (.exit 0) ⟨[(1, (.box 0 [] 0)), (3, (.dat (.int .i64) x.1.2.1))], [(.box (.dat G24 x.2.1))]⟩) (k .ret ⟨[(2, (.dat .bool false))], []⟩) x.1.2.2.1) (fun _ _ _ => rfl) (fun _ _ _ _ => rfl) (fun R x Kn k => by kernel_rfl)
theorem ek17_2 : EOk (E17) (C17) Try.f17.ntmps (bodyL Try.f17 2) (L17_2) := eok_of (e := L17_2) (fun R x Kn k => s17_2 x.1.2.1 x.1.2.2.1 x.2.1 (fun v0 => Kn (((), x.1.2.1, x.1.2.2.1, v0, ()), (x.2.1, ()))) (k (.exit 4) ⟨[(1, (.box 0 [] 0)), (3, (.dat (.int .i64) x.1.2.1)), (5, (.dat (.int .i64) x.1.2.2.1))], [(.box (.dat G24 x.2.1))]⟩) (k .ret ⟨[(2, (.dat .bool false))], []⟩) x.1.2.2.2.1) (fun _ _ _ => rfl) (fun _ _ _ _ => rfl) (fun R x Kn k => by kernel_rfl)
theorem ek17_3 : EOk (E17) (C17) Try.f17.ntmps (bodyL Try.f17 1) (L17_3) := eok_of (e := L17_3) (fun R x Kn k => s17_3 x.1.2.1 x.2.1 (fun v0 => Kn (((), x.1.2.1, v0, ()), (x.2.1, ()))) (k (.exit 2) ⟨[], []⟩) (k .ret ⟨[(2, (.dat .bool false))], []⟩) x.1.2.2.1) (fun _ _ _ => rfl) (fun _ _ _ _ => rfl) (fun R x Kn k => by kernel_rfl)
theorem lm17 : ∀ c, Try.f17.body = some c → LmOk (E17) (C17) Try.f17.ntmps c := lmOk_of (ps := [(0, L17_1), (2, L17_2), (1, L17_3)]) (by kernel_rfl) (by kernel_rfl) ⟨ek17_1, ek17_2, ek17_3, trivial⟩
noncomputable def m17 (a0 : T24) : Option (Bool) :=
  (m41 a0).bind fun r1 =>
  (m42 (List.length a0.1 : Int) 1 40).bind fun r2 =>
  (bif ((!r2) == false) then (m42 r1 1 10) else some false).bind fun r3 =>
  bif (((!r2) || (!r3)) || (decide ((List.length a0.2.1 : Int) > 60))) then
    some false
  else
    l17_1 a0 (
        l17_3 r1 a0 (
            some true) (
            some false) FUEL 0) (
        some false) FUEL 0
noncomputable def e17 : PmE := entry 17 [G24] false .bool (fun x => m17 x.1)
theorem q17 (x : tyL [G24]) : execF E17 C17 Try.f17 (datL [G24] x) [] (retK false .bool) = m17 x.1 := by kernel_rfl
theorem p17 : PmOk Try.prog e17 := pm_ok (E := E17) ok17 ord lm17 Try.func17 ca17 q17

/-! 35: consol/consolref40.Over -/
theorem ca35 : callable Try.prog 35 := ⟨Try.f35, Try.func35, by kernel_rfl, by kernel_rfl⟩
noncomputable def E35 : Env := mkEnv2 Try.prog [] []
theorem ok35 : EnvOk (E35) := mkEnv2_ok (by simp) (by simp)
/-- a round of a loop of consol/consolref40.Over -/
noncomputable def s35_1 {R : Type} (t1 : (List Int)) (t5 : Int) (o0 : T24) (kn : Int → Int → Option R) (k1 : Int → Option R) (t6 : Int) (t7 : Int) : Option R :=
  bif (decide (t7 < (List.length t1 : Int))) then
    cont (fun (k7 : Int → _) =>
      (idx o0.1 t7).bind fun x1 =>
      (idx t1 t7).bind fun x2 =>
      (idx x1 x2).bind fun x3 =>
      bif (x3.2.1 == t5) then
        (idx o0.1 t7).bind fun x4 =>
        (idx t1 t7).bind fun x5 =>
        (idx x4 x5).bind fun x6 =>
        k7 (IntKind.i64.wrap (t6 + x6.2.2.1))
      else
        k7 t6) fun y7 =>
    kn y7 (IntKind.i64.wrap (t7 + 1))
  else
    k1 t6
noncomputable def l35_1 {R : Type} (t1 : (List Int)) (t5 : Int) (o0 : T24) (k1 : Int → Option R) : Nat → Int → Int → Option R
  | 0, _, _ => none
  | n + 1, t6, t7 => s35_1 t1 t5 o0 (l35_1 t1 t5 o0 k1 n) k1 t6 t7
noncomputable def L35_1 : LE := ⟨7, 0, ⟨[(1, (.dat (.sl (.int .i64)))), (2, (.box 0 [] 0)), (5, (.dat (.int .i64))), (6, (.dat (.int .i64))), (7, (.dat (.int .i64)))], [(.box (.dat G24))]⟩, fun R n x k => l35_1 x.1.1 x.1.2.2.1 x.2.1 (fun y0 => k (.exit 2) ⟨[(1, (.dat (.sl (.int .i64)) x.1.1)), (2, (.box 0 [] 0)), (5, (.dat (.int .i64) x.1.2.2.1)), (6, (.dat (.int .i64) y0))], [(.box (.dat G24 x.2.1))]⟩) n x.1.2.2.2.1 x.1.2.2.2.2.1⟩
/-- a round of a loop of consol/consolref40.Over -/
noncomputable def s35_2 {R : Type} (t1 : (List Int)) (o0 : T24) (kn : Int → Option R) (k1 : Option R) (k2 : Int → Option R) (t5 : Int) : Option R :=
  bif (decide (t5 < (List.length o0.2.1 : Int))) then
    l35_1 t1 t5 o0 (fun y8 =>
        (idx o0.2.1 t5).bind fun x9 =>
        bif (decide (y8 > x9)) then
          k2 t5
        else
          kn (IntKind.i64.wrap (t5 + 1))) FUEL 0 0
  else
    k1
noncomputable def l35_2 {R : Type} (t1 : (List Int)) (o0 : T24) (k1 : Option R) (k2 : Int → Option R) : Nat → Int → Option R
  | 0, _ => none
  | n + 1, t5 => s35_2 t1 o0 (l35_2 t1 o0 k1 k2 n) k1 k2 t5
noncomputable def L35_2 : LE := ⟨3, 0, ⟨[(1, (.dat (.sl (.int .i64)))), (2, (.box 0 [] 0)), (5, (.dat (.int .i64)))], [(.box (.dat G24))]⟩, fun R n x k => l35_2 x.1.1 x.2.1 (k (.exit 0) ⟨[], []⟩) (fun y0 => k .ret ⟨[(4, (.dat (.int .i64) y0))], []⟩) n x.1.2.2.1⟩
noncomputable def C35 : Cfg := mkCfg [(3, ⟨[1, 2, 5], [], []⟩), (7, ⟨[1, 2, 5, 6, 7], [], []⟩), (8, ⟨[1, 2, 5, 6, 7], [], []⟩)] [(3, (⟨[], [], []⟩, ⟨[4], [], []⟩)), (7, (⟨[1, 2, 5, 6], [], []⟩, ⟨[4], [], []⟩))] (([(1, L35_1), (0, L35_2)] : List (Nat × LE)).map (·.2))
theorem ek35_1 : EOk (E35) (C35) Try.f35.ntmps (bodyL Try.f35 1) (L35_1) := eok_of (e := L35_1) (fun R x Kn k => s35_1 x.1.1 x.1.2.2.1 x.2.1 (fun v0 v1 => Kn ((x.1.1, (), x.1.2.2.1, v0, v1, ()), (x.2.1, ()))) (fun y0 => k (.exit 2) ⟨[(1, (.dat (.sl (.int .i64)) x.1.1)), (2, (.box 0 [] 0)), (5, (.dat (.int .i64) x.1.2.2.1)), (6, (.dat (.int .i64) y0))], [(.box (.dat G24 x.2.1))]⟩) x.1.2.2.2.1 x.1.2.2.2.2.1) (fun _ _ _ => rfl) (fun _ _ _ _ => rfl) (fun R x Kn k => by kernel_rfl)
theorem ek35_2 : EOk (E35) (C35) Try.f35.ntmps (bodyL Try.f35 0) (L35_2) := eok_of (e := L35_2) (fun R x Kn k => s35_2 x.1.1 x.2.1 (fun v0 => Kn ((x.1.1, (), v0, ()), (x.2.1, ()))) (k (.exit 0) ⟨[], []⟩) (fun y0 => k .ret ⟨[(4, (.dat (.int .i64) y0))], []⟩) x.1.2.2.1) (fun _ _ _ => rfl) (fun _ _ _ _ => rfl) (fun R x Kn k => by kernel_rfl)
theorem lm35 : ∀ c, Try.f35.body = some c → LmOk (E35) (C35) Try.f35.ntmps c := lmOk_of (ps := [(1, L35_1), (0, L35_2)]) (by kernel_rfl) (by kernel_rfl) ⟨ek35_1, ek35_2, trivial⟩
noncomputable def m35 (a0 : T24) (a1 : (List Int)) : Option (Int) :=
  l35_2 a1 a0 (
      some (-1)) (fun y10 =>
      some y10) FUEL 0
noncomputable def e35 : PmE := entry 35 [G24, (.sl (.int .i64))] false (.int .i64) (fun x => m35 x.1 x.2.1)
theorem q35 (x : tyL [G24, (.sl (.int .i64))]) : execF E35 C35 Try.f35 (datL [G24, (.sl (.int .i64))] x) [] (retK false (.int .i64)) = m35 x.1 x.2.1 := by kernel_rfl
theorem p35 : PmOk Try.prog e35 := pm_ok (E := E35) ok35 ord lm35 Try.func35 ca35 q35

/-! 22: consol/consolref40.Floor -/
theorem ca22 : callable Try.prog 22 := ⟨Try.f22, Try.func22, by kernel_rfl, by kernel_rfl⟩
noncomputable def E22 : Env := mkEnv2 Try.prog [e41] []
theorem ok22 : EnvOk (E22) := mkEnv2_ok (by simp only [List.mem_cons, List.not_mem_nil, or_false, forall_eq]; exact p41) (by simp)
/-- a round of a loop of consol/consolref40.Floor -/
noncomputable def s22_1 {R : Type} (t6 : Int) (t8 : Int) (o0 : T24) (kn : Int → Int → Option R) (k1 : Int → Option R) (t9 : Int) (t10 : Int) : Option R :=
  (idx o0.1 t8).bind fun x9 =>
  bif (decide (t10 < (List.length x9 : Int))) then
    (idx o0.1 t8).bind fun x10 =>
    (idx x10 t10).bind fun x11 =>
    (idx x11.1 t6).bind fun x12 =>
    kn (bif decide (x12 < t9) then x12 else t9) (IntKind.i64.wrap (t10 + 1))
  else
    k1 t9
noncomputable def l22_1 {R : Type} (t6 : Int) (t8 : Int) (o0 : T24) (k1 : Int → Option R) : Nat → Int → Int → Option R
  | 0, _, _ => none
  | n + 1, t9, t10 => s22_1 t6 t8 o0 (l22_1 t6 t8 o0 k1 n) k1 t9 t10
noncomputable def L22_1 : LE := ⟨14, 0, ⟨[(1, (.dat (.sl (.int .i64)))), (2, (.box 0 [] 0)), (5, (.dat (.int .i64))), (6, (.dat (.int .i64))), (7, (.dat (.int .i64))), (8, (.dat (.int .i64))), (9, (.dat (.int .i64))), (10, (.dat (.int .i64)))], [(.box (.dat G24))]⟩, fun R n x k => l22_1 x.1.2.2.2.1 x.1.2.2.2.2.2.1 x.2.1 (fun y0 => k (.exit 4) ⟨[(1, (.dat (.sl (.int .i64)) x.1.1)), (2, (.box 0 [] 0)), (5, (.dat (.int .i64) x.1.2.2.1)), (6, (.dat (.int .i64) x.1.2.2.2.1)), (7, (.dat (.int .i64) x.1.2.2.2.2.1)), (8, (.dat (.int .i64) x.1.2.2.2.2.2.1)), (9, (.dat (.int .i64) y0))], [(.box (.dat G24 x.2.1))]⟩) n x.1.2.2.2.2.2.2.1 x.1.2.2.2.2.2.2.2.1⟩
/-- a round of a loop of consol/consolref40.Floor -/
noncomputable def s22_2 {R : Type} (t1 : (List Int)) (t6 : Int) (o0 : T24) (kn : Int → Int → Option R) (k1 : Int → Option R) (t7 : Int) (t8 : Int) : Option R :=
  bif (decide (t8 < (List.length o0.1 : Int))) then
    cont (fun (k14 : Int → _) =>
      bif (decide (t8 < (List.length t1 : Int))) then
        (idx o0.1 t8).bind fun x2 =>
        (idx t1 t8).bind fun x3 =>
        (idx x2 x3).bind fun x4 =>
        (idx x4.1 t6).bind fun x5 =>
        k14 (IntKind.i64.wrap (t7 + x5))
      else
        (idx o0.1 t8).bind fun x6 =>
        (idx x6 0).bind fun x7 =>
        (idx x7.1 t6).bind fun x8 =>
        l22_1 t6 t8 o0 (fun y13 =>
            k14 (IntKind.i64.wrap (t7 + y13))) FUEL x8 0) fun y14 =>
    kn y14 (IntKind.i64.wrap (t8 + 1))
  else
    k1 t7
noncomputable def l22_2 {R : Type} (t1 : (List Int)) (t6 : Int) (o0 : T24) (k1 : Int → Option R) : Nat → Int → Int → Option R
  | 0, _, _ => none
  | n + 1, t7, t8 => s22_2 t1 t6 o0 (l22_2 t1 t6 o0 k1 n) k1 t7 t8
noncomputable def L22_2 : LE := ⟨8, 0, ⟨[(1, (.dat (.sl (.int .i64)))), (2, (.box 0 [] 0)), (5, (.dat (.int .i64))), (6, (.dat (.int .i64))), (7, (.dat (.int .i64))), (8, (.dat (.int .i64)))], [(.box (.dat G24))]⟩, fun R n x k => l22_2 x.1.1 x.1.2.2.2.1 x.2.1 (fun y0 => k (.exit 2) ⟨[(1, (.dat (.sl (.int .i64)) x.1.1)), (2, (.box 0 [] 0)), (5, (.dat (.int .i64) x.1.2.2.1)), (6, (.dat (.int .i64) x.1.2.2.2.1)), (7, (.dat (.int .i64) y0))], [(.box (.dat G24 x.2.1))]⟩) n x.1.2.2.2.2.1 x.1.2.2.2.2.2.1⟩
/-- a round of a loop of consol/consolref40.Floor -/
noncomputable def s22_3 {R : Type} (t1 : (List Int)) (o0 : T24) (kn : Int → Int → Option R) (k1 : Int → Option R) (t5 : Int) (t6 : Int) : Option R :=
  (m41 o0).bind fun r1 =>
  bif (decide (t6 < r1)) then
    l22_2 t1 t6 o0 (fun y15 =>
        kn (bif decide (y15 > t5) then y15 else t5) (IntKind.i64.wrap (t6 + 1))) FUEL 0 0
  else
    k1 t5
noncomputable def l22_3 {R : Type} (t1 : (List Int)) (o0 : T24) (k1 : Int → Option R) : Nat → Int → Int → Option R
  | 0, _, _ => none
  | n + 1, t5, t6 => s22_3 t1 o0 (l22_3 t1 o0 k1 n) k1 t5 t6
noncomputable def L22_3 : LE := ⟨4, 0, ⟨[(1, (.dat (.sl (.int .i64)))), (2, (.box 0 [] 0)), (5, (.dat (.int .i64))), (6, (.dat (.int .i64)))], [(.box (.dat G24))]⟩, fun R n x k => l22_3 x.1.1 x.2.1 (fun y0 => k (.exit 0) ⟨[(5, (.dat (.int .i64) y0))], []⟩) n x.1.2.2.1 x.1.2.2.2.1⟩
noncomputable def C22 : Cfg := mkCfg [(4, ⟨[1, 2, 5, 6], [], []⟩), (8, ⟨[1, 2, 5, 6, 7, 8], [], []⟩), (9, ⟨[1, 2, 5, 6, 7, 8], [], []⟩), (14, ⟨[1, 2, 5, 6, 7, 8, 9, 10], [], []⟩)] [(4, (⟨[5], [], []⟩, ⟨[4], [], []⟩)), (8, (⟨[1, 2, 5, 6, 7], [], []⟩, ⟨[4], [], []⟩)), (14, (⟨[1, 2, 5, 6, 7, 8, 9], [], []⟩, ⟨[4], [], []⟩))] (([(2, L22_1), (1, L22_2), (0, L22_3)] : List (Nat × LE)).map (·.2))
theorem ek22_1 : EOk (E22) (C22) Try.f22.ntmps (bodyL Try.f22 2) (L22_1) := eok_of (e := L22_1) (fun R x Kn k => s22_1 x.1.2.2.2.1 x.1.2.2.2.2.2.1 x.2.1 (fun v0 v1 => Kn ((x.1.1, (), x.1.2.2.1, x.1.2.2.2.1, x.1.2.2.2.2.1, x.1.2.2.2.2.2.1, v0, v1, ()), (x.2.1, ()))) (fun y0 => k (.exit 4) ⟨[(1, (.dat (.sl (.int .i64)) x.1.1)), (2, (.box 0 [] 0)), (5, (.dat (.int .i64) x.1.2.2.1)), (6, (.dat (.int .i64) x.1.2.2.2.1)), (7, (.dat (.int .i64) x.1.2.2.2.2.1)), (8, (.dat (.int .i64) x.1.2.2.2.2.2.1)), (9, (.dat (.int .i64) y0))], [(.box (.dat G24 x.2.1))]⟩) x.1.2.2.2.2.2.2.1 x.1.2.2.2.2.2.2.2.1) (fun _ _ _ => rfl) (fun _ _ _ _ => rfl) (fun R x Kn k => by kernel_rfl)
theorem ek22_2 : EOk (E22) (C22) Try.f22.ntmps (bodyL Try.f22 1) (L22_2) := eok_of (e := L22_2) (fun R x Kn k => s22_2 x.1.1 x.1.2.2.2.1 x.2.1 (fun v0 v1 => Kn ((x.1.1, (), x.1.2.2.1, x.1.2.2.2.1, v0, v1, ()), (x.2.1, ()))) (fun y0 => k (.exit 2) ⟨[(1, (.dat (.sl (.int .i64)) x.1.1)), (2, (.box 0 [] 0)), (5, (.dat (.int .i64) x.1.2.2.1)), (6, (.dat (.int .i64) x.1.2.2.2.1)), (7, (.dat (.int .i64) y0))], [(.box (.dat G24 x.2.1))]⟩) x.1.2.2.2.2.1 x.1.2.2.2.2.2.1) (fun _ _ _ => rfl) (fun _ _ _ _ => rfl) (fun R x Kn k => by kernel_rfl)
theorem ek22_3 : EOk (E22) (C22) Try.f22.ntmps (bodyL Try.f22 0) (L22_3) := eok_of (e := L22_3) (fun R x Kn k => s22_3 x.1.1 x.2.1 (fun v0 v1 => Kn ((x.1.1, (), v0, v1, ()), (x.2.1, ()))) (fun y0 => k (.exit 0) ⟨[(5, (.dat (.int .i64) y0))], []⟩) x.1.2.2.1 x.1.2.2.2.1) (fun _ _ _ => rfl) (fun _ _ _ _ => rfl) (fun R x Kn k => by kernel_rfl)
theorem lm22 : ∀ c, Try.f22.body = some c → LmOk (E22) (C22) Try.f22.ntmps c := lmOk_of (ps := [(2, L22_1), (1, L22_2), (0, L22_3)]) (by kernel_rfl) (by kernel_rfl) ⟨ek22_1, ek22_2, ek22_3, trivial⟩
noncomputable def m22 (a0 : T24) (a1 : (List Int)) : Option (Int) :=
  l22_3 a1 a0 (fun y16 =>
      some y16) FUEL 0 0
noncomputable def e22 : PmE := entry 22 [G24, (.sl (.int .i64))] false (.int .i64) (fun x => m22 x.1 x.2.1)
theorem q22 (x : tyL [G24, (.sl (.int .i64))]) : execF E22 C22 Try.f22 (datL [G24, (.sl (.int .i64))] x) [] (retK false (.int .i64)) = m22 x.1 x.2.1 := by kernel_rfl
theorem p22 : PmOk Try.prog e22 := pm_ok (E := E22) ok22 ord lm22 Try.func22 ca22 q22

/-! 32: (*consol/consolref40.search).look -/
theorem ca32 : callable Try.prog 32 := ⟨Try.f32, Try.func32, by kernel_rfl, by kernel_rfl⟩
def F32i : ShS := ⟨[(0, (.box 0 [] 0)), (1, (.dat (.sl (.int .i64))))], [(.box (.agg (.scons (.dat G24) (.scons (.dat (.int .i64)) (.scons (.nsl (.int .i64)) (.scons (.dat (.int .i64)) .snil))))))]⟩
def F32o : ShS := ⟨[(0, (.tup .snil))], [(.box (.agg (.scons (.dat G24) (.scons (.dat (.int .i64)) (.scons (.nsl (.int .i64)) (.scons (.dat (.int .i64)) .snil))))))]⟩
noncomputable def cS32 (mr : (List Int) → T24 → Int → (List Int) → Int → Option F32o.ty) : CmE := stE 32 [(0, [2], (.cons (.sl (.int .i64)) .opq)), (1, [], (.sl (.int .i64)))] [] F32i F32o (fun x => mr x.1.2.1 x.2.1.1 x.2.1.2.1 x.2.1.2.2.1 x.2.1.2.2.2.1)
noncomputable def E32 (mr : (List Int) → T24 → Int → (List Int) → Int → Option F32o.ty) : Env := mkEnv2 Try.prog [e22, e35] [cS32 mr]
theorem ok32 (mr : (List Int) → T24 → Int → (List Int) → Int → Option F32o.ty) (hmr : CmOk Try.prog (cS32 mr)) : EnvOk (E32 mr) := mkEnv2_ok (by simp only [List.mem_cons, List.not_mem_nil, or_false, forall_eq_or_imp, forall_eq]; exact ⟨p22, p35⟩) (by simp only [List.mem_cons, List.not_mem_nil, or_false, forall_eq]; exact hmr)
/-- a round of a loop of (*consol/consolref40.search).look -/
noncomputable def s32_1 {R : Type} (mr : (List Int) → T24 → Int → (List Int) → Int → Option F32o.ty) (t1 : (List Int)) (kn : Int → T24 → Int → (List Int) → Int → Option R) (k1 : T24 → Int → (List Int) → Int → Option R) (t4 : Int) (o0 : T24) (o0_2 : Int) (o0_3 : (List Int)) (o0_4 : Int) : Option R :=
  (idx o0.1 (List.length t1 : Int)).bind fun x4 =>
  bif (decide (t4 < (List.length x4 : Int))) then
    asrt true (decide (List.length (α := Int) t1 ≤ LIM)) (
      asrt true (decide (List.length (α := Int) t1 + List.length (α := Int) [t4] ≤ LIM)) (
        (mr (t1 ++ [t4]) o0 o0_2 o0_3 o0_4).bind fun r5 =>
        kn (IntKind.i64.wrap (t4 + 1)) r5.2.1.1 r5.2.1.2.1 r5.2.1.2.2.1 r5.2.1.2.2.2.1))
  else
    k1 o0 o0_2 o0_3 o0_4
noncomputable def l32_1 {R : Type} (mr : (List Int) → T24 → Int → (List Int) → Int → Option F32o.ty) (t1 : (List Int)) (k1 : T24 → Int → (List Int) → Int → Option R) : Nat → Int → T24 → Int → (List Int) → Int → Option R
  | 0, _, _, _, _, _ => none
  | n + 1, t4, o0, o0_2, o0_3, o0_4 => s32_1 mr t1 (l32_1 mr t1 k1 n) k1 t4 o0 o0_2 o0_3 o0_4
noncomputable def L32_1 (mr : (List Int) → T24 → Int → (List Int) → Int → Option F32o.ty) : LE := ⟨7, 1, ⟨[(0, (.box 0 [] 0)), (1, (.dat (.sl (.int .i64)))), (4, (.dat (.int .i64)))], [(.box (.agg (.scons (.dat G24) (.scons (.dat (.int .i64)) (.scons (.nsl (.int .i64)) (.scons (.dat (.int .i64)) .snil))))))]⟩, fun R n x k => l32_1 mr x.1.2.1 (fun y0 y1 y2 y3 => k (.exit 0) ⟨[], [(.box (.agg (.scons (.dat G24 y0) (.scons (.dat (.int .i64) y1) (.scons (.nsl (.int .i64) y2) (.scons (.dat (.int .i64) y3) .snil))))))]⟩) n x.1.2.2.1 x.2.1.1 x.2.1.2.1 x.2.1.2.2.1 x.2.1.2.2.2.1⟩
noncomputable def C32 (mr : (List Int) → T24 → Int → (List Int) → Int → Option F32o.ty) : Cfg := mkCfg [(7, ⟨[0, 1, 4], [], []⟩)] [(7, (⟨[], [], []⟩, ⟨[], [], []⟩))] (([(0, L32_1 mr)] : List (Nat × LE)).map (·.2))
theorem ek32_1 (mr : (List Int) → T24 → Int → (List Int) → Int → Option F32o.ty) : EOk (E32 mr) (C32 mr) Try.f32.ntmps (bodyL Try.f32 0) (L32_1 mr) := eok_of (e := L32_1 mr) (fun R x Kn k => s32_1 mr x.1.2.1 (fun v0 v1 v2 v3 v4 => Kn (((), x.1.2.1, v0, ()), ((v1, v2, v3, v4, ()), ()))) (fun y0 y1 y2 y3 => k (.exit 0) ⟨[], [(.box (.agg (.scons (.dat G24 y0) (.scons (.dat (.int .i64) y1) (.scons (.nsl (.int .i64) y2) (.scons (.dat (.int .i64) y3) .snil))))))]⟩) x.1.2.2.1 x.2.1.1 x.2.1.2.1 x.2.1.2.2.1 x.2.1.2.2.2.1) (fun _ _ _ => rfl) (fun _ _ _ _ => rfl) (fun R x Kn k => by kernel_rfl)
theorem lm32 (mr : (List Int) → T24 → Int → (List Int) → Int → Option F32o.ty) : ∀ c, Try.f32.body = some c → LmOk (E32 mr) (C32 mr) Try.f32.ntmps c := lmOk_of (ps := [(0, L32_1 mr)]) (by kernel_rfl) (by kernel_rfl) ⟨ek32_1 mr, trivial⟩
noncomputable def M32 (mr : (List Int) → T24 → Int → (List Int) → Int → Option F32o.ty) (a0 : (List Int)) (a1 : T24) (a2 : Int) (a3 : (List Int)) (a4 : Int) : Option F32o.ty :=
  (bif ((decide ((IntKind.i64.wrap (a2 + 1)) > 100000)) == false) then (m35 a1 a0) else some 0).bind fun r1 =>
  (bif ((((decide ((IntKind.i64.wrap (a2 + 1)) > 100000)) || (r1 != (-1))) == false) && ((!(List.isEmpty (α := Int) a3)) == true)) then (m22 a1 a0) else some 0).bind fun r2 =>
  bif (((decide ((IntKind.i64.wrap (a2 + 1)) > 100000)) || (r1 != (-1))) || ((!(List.isEmpty (α := Int) a3)) && (decide (r2 ≥ a4)))) then
    some (((()), ()), ((a1, (IntKind.i64.wrap (a2 + 1)), a3, a4, ()), ()))
  else
    bif ((List.length a0 : Int) == (List.length a1.1 : Int)) then
      asrt true (decide (List.length (α := Int) a0 ≤ LIM)) (
        asrt true (!(List.isEmpty (α := Int) a0)) (
          (m22 a1 a0).bind fun r3 =>
          some (((()), ()), ((a1, (IntKind.i64.wrap (a2 + 1)), a0, r3, ()), ()))))
    else
      l32_1 mr a0 (fun y6 y7 y8 y9 =>
          some (((()), ()), ((y6, y7, y8, y9, ()), ()))) FUEL 0 a1 (IntKind.i64.wrap (a2 + 1)) a3 a4
theorem q32 (mr : (List Int) → T24 → Int → (List Int) → Int → Option F32o.ty) (x : F32i.ty) : execF (E32 mr) (C32 mr) Try.f32 ((F32i.enc x).regs.map (·.2)) (F32i.enc x).heap (retS [] [] 1 F32o) = M32 mr x.1.2.1 x.2.1.1 x.2.1.2.1 x.2.1.2.2.1 x.2.1.2.2.2.1 := by kernel_rfl
theorem R32 (mr : (List Int) → T24 → Int → (List Int) → Int → Option F32o.ty) (hmr : CmOk Try.prog (cS32 mr)) : CRun Try.prog 32 F32i F32o (fun x => M32 mr x.1.2.1 x.2.1.1 x.2.1.2.1 x.2.1.2.2.1 x.2.1.2.2.2.1) := st_run (E := E32 mr) (ok32 mr hmr) ord (lm32 mr) Try.func32 (q32 mr)
noncomputable def m32N : Nat → (List Int) → T24 → Int → (List Int) → Int → Option F32o.ty
  | 0, _, _, _, _, _ => none
  | n + 1, a0, a1, a2, a3, a4 => M32 (m32N n) a0 a1 a2 a3 a4
theorem dS32 : ∀ n, CmOk Try.prog (cS32 (m32N n))
  | 0 => st_ok ca32 (fun _ _ h => by cases h)
  | n + 1 => st_ok ca32 (R32 (m32N n) (dS32 n))
noncomputable def m32 (a0 : (List Int)) (a1 : T24) (a2 : Int) (a3 : (List Int)) (a4 : Int) : Option F32o.ty := m32N FUEL a0 a1 a2 a3 a4
noncomputable def c32 : CmE := cS32 (fun a0 a1 a2 a3 a4 => m32 a0 a1 a2 a3 a4)
theorem d32 : CmOk Try.prog c32 := dS32 FUEL

/-! 33: consol/consolref40.bounds -/
theorem ca33 : callable Try.prog 33 := ⟨Try.f33, Try.func33, by kernel_rfl, by kernel_rfl⟩
def F33i : ShS := ⟨[(0, (.dat G24)), (1, (.dat (.sl (.int .i64)))), (2, (.dat (.int .i64))), (3, (.own 0))], [(.arr G42)]⟩
def F33o : ShS := ⟨[(0, (.own 1))], [.dead, (.arr G42)]⟩
noncomputable def cS33 (mr : T24 → (List Int) → Int → (List T42) → Option F33o.ty) : CmE := stE 33 [(1, [], (.sl (.int .i64)))] [(3, [], G42)] F33i F33o (fun x => mr x.1.1 x.1.2.1 x.1.2.2.1 x.2.1)
noncomputable def E33 (mr : T24 → (List Int) → Int → (List T42) → Option F33o.ty) : Env := mkEnv2 Try.prog [e22, e35] [cS33 mr]
theorem ok33 (mr : T24 → (List Int) → Int → (List T42) → Option F33o.ty) (hmr : CmOk Try.prog (cS33 mr)) : EnvOk (E33 mr) := mkEnv2_ok (by simp only [List.mem_cons, List.not_mem_nil, or_false, forall_eq_or_imp, forall_eq]; exact ⟨p22, p35⟩) (by simp only [List.mem_cons, List.not_mem_nil, or_false, forall_eq]; exact hmr)
/-- a round of a loop of consol/consolref40.bounds -/
noncomputable def s33_1 {R : Type} (mr : T24 → (List Int) → Int → (List T42) → Option F33o.ty) (t1 : (List Int)) (t2 : Int) (o2 : T24) (kn : Int → (List T42) → Option R) (k1 : (List T42) → Option R) (t10 : Int) (o1 : (List T42)) : Option R :=
  (idx o2.1 (List.length t1 : Int)).bind fun x4 =>
  bif ((decide (t10 < (List.length x4 : Int))) && (decide ((List.length o1 : Int) ≤ 100000))) then
    asrt true (decide (List.length (α := Int) t1 ≤ LIM)) (
      asrt true (decide (List.length (α := Int) t1 + List.length (α := Int) [t10] ≤ LIM)) (
        (mr o2 (t1 ++ [t10]) t2 o1).bind fun r5 =>
        kn (IntKind.i64.wrap (t10 + 1)) r5.2.2.1))
  else
    k1 o1
noncomputable def l33_1 {R : Type} (mr : T24 → (List Int) → Int → (List T42) → Option F33o.ty) (t1 : (List Int)) (t2 : Int) (o2 : T24) (k1 : (List T42) → Option R) : Nat → Int → (List T42) → Option R
  | 0, _, _ => none
  | n + 1, t10, o1 => s33_1 mr t1 t2 o2 (l33_1 mr t1 t2 o2 k1 n) k1 t10 o1
noncomputable def L33_1 (mr : T24 → (List Int) → Int → (List T42) → Option F33o.ty) : LE := ⟨8, 1, ⟨[(1, (.dat (.sl (.int .i64)))), (2, (.dat (.int .i64))), (3, (.own 1)), (4, (.box 2 [] 0)), (10, (.dat (.int .i64)))], [.dead, (.arr G42), (.box (.dat G24))]⟩, fun R n x k => l33_1 mr x.1.1 x.1.2.1 x.2.2.2.1 (fun y0 => k (.exit 0) ⟨[(3, (.own 1))], [.dead, (.arr G42 y0)]⟩) n x.1.2.2.2.2.1 x.2.2.1⟩
noncomputable def C33 (mr : T24 → (List Int) → Int → (List T42) → Option F33o.ty) : Cfg := mkCfg [(8, ⟨[1, 2, 3, 4, 10], [], []⟩)] [(8, (⟨[3], [], []⟩, ⟨[8], [], []⟩))] (([(0, L33_1 mr)] : List (Nat × LE)).map (·.2)) [] [(0, [(3, [], (.cons .nil .opq))])]
theorem ek33_1 (mr : T24 → (List Int) → Int → (List T42) → Option F33o.ty) : EOk (E33 mr) (C33 mr) Try.f33.ntmps (bodyL Try.f33 0) (L33_1 mr) := eok_of (e := L33_1 mr) (fun R x Kn k => s33_1 mr x.1.1 x.1.2.1 x.2.2.2.1 (fun v0 v1 => Kn ((x.1.1, x.1.2.1, (), (), v0, ()), ((), v1, x.2.2.2.1, ()))) (fun y0 => k (.exit 0) ⟨[(3, (.own 1))], [.dead, (.arr G42 y0)]⟩) x.1.2.2.2.2.1 x.2.2.1) (fun _ _ _ => rfl) (fun _ _ _ _ => rfl) (fun R x Kn k => by kernel_rfl)
theorem lm33 (mr : T24 → (List Int) → Int → (List T42) → Option F33o.ty) : ∀ c, Try.f33.body = some c → LmOk (E33 mr) (C33 mr) Try.f33.ntmps c := lmOk_of (ps := [(0, L33_1 mr)]) (by kernel_rfl) (by kernel_rfl) ⟨ek33_1 mr, trivial⟩
noncomputable def M33 (mr : T24 → (List Int) → Int → (List T42) → Option F33o.ty) (a0 : T24) (a1 : (List Int)) (a2 : Int) (a3 : (List T42)) : Option F33o.ty :=
  (m35 a0 a1).bind fun r1 =>
  bif (r1 != (-1)) then
    asrt true (decide (List.length (α := Int) a1 ≤ LIM)) (
      asrt true (decide (List.length (α := T42) a3 + List.length (α := T42) [(a1, 0, r1, ())] ≤ LIM)) (
        some (((), ()), ((), (a3 ++ [(a1, 0, r1, ())]), ()))))
  else
    (m22 a0 a1).bind fun r2 =>
    bif ((decide (r2 ≥ a2)) || ((List.length a1 : Int) == (List.length a0.1 : Int))) then
      asrt true (decide (List.length (α := Int) a1 ≤ LIM)) (
        (m22 a0 a1).bind fun r3 =>
        asrt true (decide (List.length (α := T42) a3 + List.length (α := T42) [(a1, r3, (-1), ())] ≤ LIM)) (
          some (((), ()), ((), (a3 ++ [(a1, r3, (-1), ())]), ()))))
    else
      l33_1 mr a1 a2 a0 (fun y6 =>
          some (((), ()), ((), y6, ()))) FUEL 0 a3
theorem q33 (mr : T24 → (List Int) → Int → (List T42) → Option F33o.ty) (x : F33i.ty) : execF (E33 mr) (C33 mr) Try.f33 ((F33i.enc x).regs.map (·.2)) (F33i.enc x).heap (retS [] [] 1 F33o) = M33 mr x.1.1 x.1.2.1 x.1.2.2.1 x.2.1 := by kernel_rfl
theorem R33 (mr : T24 → (List Int) → Int → (List T42) → Option F33o.ty) (hmr : CmOk Try.prog (cS33 mr)) : CRun Try.prog 33 F33i F33o (fun x => M33 mr x.1.1 x.1.2.1 x.1.2.2.1 x.2.1) := st_run (E := E33 mr) (ok33 mr hmr) ord (lm33 mr) Try.func33 (q33 mr)
noncomputable def m33N : Nat → T24 → (List Int) → Int → (List T42) → Option F33o.ty
  | 0, _, _, _, _ => none
  | n + 1, a0, a1, a2, a3 => M33 (m33N n) a0 a1 a2 a3
theorem dS33 : ∀ n, CmOk Try.prog (cS33 (m33N n))
  | 0 => st_ok ca33 (fun _ _ h => by cases h)
  | n + 1 => st_ok ca33 (R33 (m33N n) (dS33 n))
noncomputable def m33 (a0 : T24) (a1 : (List Int)) (a2 : Int) (a3 : (List T42)) : Option F33o.ty := m33N FUEL a0 a1 a2 a3
noncomputable def c33 : CmE := cS33 (fun a0 a1 a2 a3 => m33 a0 a1 a2 a3)
theorem d33 : CmOk Try.prog c33 := dS33 FUEL

/-! 11: consol/consolref40.Best -/
theorem ca11 : callable Try.prog 11 := ⟨Try.f11, Try.func11, by kernel_rfl, by kernel_rfl⟩
noncomputable def E11 : Env := mkEnv2 Try.prog [e17] [c32, c33]
theorem ok11 : EnvOk (E11) := mkEnv2_ok (by simp only [List.mem_cons, List.not_mem_nil, or_false, forall_eq]; exact p17) (by simp only [List.mem_cons, List.not_mem_nil, or_false, forall_eq_or_imp, forall_eq]; exact ⟨d32, d33⟩)
noncomputable def C11 : Cfg := noCfg
theorem lm11 : ∀ c, Try.f11.body = some c → LmOk (E11) (C11) Try.f11.ntmps c := fun _ _ => noCfg_lm
noncomputable def m11 (a0 : T24) : Option (((List Int) × (Int × ((List T42) × (Int × Unit))))) :=
  (m17 a0).bind fun r1 =>
  bif (!r1) then
    some ([], 0, [], 1, ())
  else
    (m32 [] a0 0 [] 0).bind fun r2 =>
    bif (decide (r2.2.1.2.1 > 100000)) then
      some ([], 0, [], 6, ())
    else
      bif (List.isEmpty (α := Int) r2.2.1.2.2.1) then
        some ([], 0, [], 4, ())
      else
        (m33 a0 [] r2.2.1.2.2.2.1 []).bind fun r3 =>
        bif (decide ((List.length r3.2.2.1 : Int) > 100000)) then
          some ([], 0, [], 6, ())
        else
          some (r2.2.1.2.2.1, r2.2.1.2.2.2.1, r3.2.2.1, 0, ())
noncomputable def e11 : PmE := entry 11 [G24] true (.cons (.sl (.int .i64)) (.cons (.int .i64) (.cons (.sl G42) (.cons (.int .i64) .nil)))) (fun x => m11 x.1)
theorem q11 (x : tyL [G24]) : execF E11 C11 Try.f11 (datL [G24] x) [] (retK true (.cons (.sl (.int .i64)) (.cons (.int .i64) (.cons (.sl G42) (.cons (.int .i64) .nil))))) = m11 x.1 := by kernel_rfl
theorem p11 : PmOk Try.prog e11 := pm_ok (E := E11) ok11 ord lm11 Try.func11 ca11 q11

noncomputable def cK11 : CmE := konE 11 [G24] true (.cons (.sl (.int .i64)) (.cons (.int .i64) (.cons (.sl G42) (.cons (.int .i64) .nil)))) (fun x => m11 x.1)
theorem dK11 : CmOk Try.prog cK11 := kon_ok p11

/-! 21: consol/consolref40.Choice -/
theorem ca21 : callable Try.prog 21 := ⟨Try.f21, Try.func21, by kernel_rfl, by kernel_rfl⟩
noncomputable def E21 : Env := mkEnv2 Try.prog [e42] []
theorem ok21 : EnvOk (E21) := mkEnv2_ok (by simp only [List.mem_cons, List.not_mem_nil, or_false, forall_eq]; exact p42) (by simp)
/-- a round of a loop of consol/consolref40.Choice -/
noncomputable def s21_1 {R : Type} (t1 : (List Int)) (o0 : T24) (kn : Int → Option R) (k1 : Option R) (k2 : Option R) (t5 : Int) : Option R :=
  bif (decide (t5 < (List.length t1 : Int))) then
    (idx t1 t5).bind fun x1 =>
    (idx o0.1 t5).bind fun x2 =>
    (m42 x1 0 (IntKind.i64.wrap ((List.length x2 : Int) - 1))).bind fun r3 =>
    bif (!r3) then
      k2
    else
      kn (IntKind.i64.wrap (t5 + 1))
  else
    k1
noncomputable def l21_1 {R : Type} (t1 : (List Int)) (o0 : T24) (k1 : Option R) (k2 : Option R) : Nat → Int → Option R
  | 0, _ => none
  | n + 1, t5 => s21_1 t1 o0 (l21_1 t1 o0 k1 k2 n) k1 k2 t5
noncomputable def L21_1 : LE := ⟨5, 0, ⟨[(1, (.dat (.sl (.int .i64)))), (2, (.box 0 [] 0)), (5, (.dat (.int .i64)))], [(.box (.dat G24))]⟩, fun R n x k => l21_1 x.1.1 x.2.1 (k (.exit 0) ⟨[], []⟩) (k .ret ⟨[(4, (.dat .bool false))], []⟩) n x.1.2.2.1⟩
noncomputable def C21 : Cfg := mkCfg [(5, ⟨[1, 2, 5], [], []⟩)] [(5, (⟨[], [], []⟩, ⟨[4], [], []⟩))] (([(0, L21_1)] : List (Nat × LE)).map (·.2))
theorem ek21_1 : EOk (E21) (C21) Try.f21.ntmps (bodyL Try.f21 0) (L21_1) := eok_of (e := L21_1) (fun R x Kn k => s21_1 x.1.1 x.2.1 (fun v0 => Kn ((x.1.1, (), v0, ()), (x.2.1, ()))) (k (.exit 0) ⟨[], []⟩) (k .ret ⟨[(4, (.dat .bool false))], []⟩) x.1.2.2.1) (fun _ _ _ => rfl) (fun _ _ _ _ => rfl) (fun R x Kn k => by kernel_rfl)
theorem lm21 : ∀ c, Try.f21.body = some c → LmOk (E21) (C21) Try.f21.ntmps c := lmOk_of (ps := [(0, L21_1)]) (by kernel_rfl) (by kernel_rfl) ⟨ek21_1, trivial⟩
noncomputable def m21 (a0 : T24) (a1 : (List Int)) : Option (Bool) :=
  bif (decide ((List.length a1 : Int) > (List.length a0.1 : Int))) then
    some false
  else
    l21_1 a1 a0 (
        some true) (
        some false) FUEL 0
noncomputable def e21 : PmE := entry 21 [G24, (.sl (.int .i64))] false .bool (fun x => m21 x.1 x.2.1)
theorem q21 (x : tyL [G24, (.sl (.int .i64))]) : execF E21 C21 Try.f21 (datL [G24, (.sl (.int .i64))] x) [] (retK false .bool) = m21 x.1 x.2.1 := by kernel_rfl
theorem p21 : PmOk Try.prog e21 := pm_ok (E := E21) ok21 ord lm21 Try.func21 ca21 q21

/-! 13: consol/consolref40.Cost -/
theorem ca13 : callable Try.prog 13 := ⟨Try.f13, Try.func13, by kernel_rfl, by kernel_rfl⟩
noncomputable def E13 : Env := mkEnv2 Try.prog [e17, e21, e22, e35] []
theorem ok13 : EnvOk (E13) := mkEnv2_ok (by simp only [List.mem_cons, List.not_mem_nil, or_false, forall_eq_or_imp, forall_eq]; exact ⟨p17, p21, p22, p35⟩) (by simp)
noncomputable def C13 : Cfg := noCfg
theorem lm13 : ∀ c, Try.f13.body = some c → LmOk (E13) (C13) Try.f13.ntmps c := fun _ _ => noCfg_lm
noncomputable def m13 (a0 : T24) (a1 : (List Int)) : Option ((Int × (Bool × Unit))) :=
  (m17 a0).bind fun r1 =>
  (bif (((!r1) || ((List.length a1 : Int) != (List.length a0.1 : Int))) == false) then (m21 a0 a1) else some false).bind fun r2 =>
  (bif ((((!r1) || ((List.length a1 : Int) != (List.length a0.1 : Int))) || (!r2)) == false) then (m35 a0 a1) else some 0).bind fun r3 =>
  bif ((((!r1) || ((List.length a1 : Int) != (List.length a0.1 : Int))) || (!r2)) || (r3 != (-1))) then
    some (0, false, ())
  else
    (m22 a0 a1).bind fun r4 =>
    some (r4, true, ())
noncomputable def e13 : PmE := entry 13 [G24, (.sl (.int .i64))] true (.cons (.int .i64) (.cons .bool .nil)) (fun x => m13 x.1 x.2.1)
theorem q13 (x : tyL [G24, (.sl (.int .i64))]) : execF E13 C13 Try.f13 (datL [G24, (.sl (.int .i64))] x) [] (retK true (.cons (.int .i64) (.cons .bool .nil))) = m13 x.1 x.2.1 := by kernel_rfl
theorem p13 : PmOk Try.prog e13 := pm_ok (E := E13) ok13 ord lm13 Try.func13 ca13 q13

/-! 45: consol/consolref40.covered -/
theorem ca45 : callable Try.prog 45 := ⟨Try.f45, Try.func45, by kernel_rfl, by kernel_rfl⟩
def F45i : ShS := ⟨[(0, (.dat G24)), (1, (.dat (.sl (.int .i64)))), (2, (.dat (.int .i64))), (3, (.dat (.sl G42))), (4, (.dat (.int .i64)))], []⟩
def F45o : ShS := ⟨[(0, (.dat (.int .i64)))], []⟩
noncomputable def cS45 (mr : T24 → (List Int) → Int → (List T42) → Int → Option F45o.ty) : CmE := stE 45 [(1, [], (.sl (.int .i64)))] [] F45i F45o (fun x => mr x.1.1 x.1.2.1 x.1.2.2.1 x.1.2.2.2.1 x.1.2.2.2.2.1)
noncomputable def E45 (mr : T24 → (List Int) → Int → (List T42) → Int → Option F45o.ty) : Env := mkEnv2 Try.prog [e14, e22] [cS45 mr]
theorem ok45 (mr : T24 → (List Int) → Int → (List T42) → Int → Option F45o.ty) (hmr : CmOk Try.prog (cS45 mr)) : EnvOk (E45 mr) := mkEnv2_ok (by simp only [List.mem_cons, List.not_mem_nil, or_false, forall_eq_or_imp, forall_eq]; exact ⟨p14, p22⟩) (by simp only [List.mem_cons, List.not_mem_nil, or_false, forall_eq]; exact hmr)
/-- a round of a loop of consol/consolref40.covered -/
noncomputable def s45_1 {R : Type} (mr : T24 → (List Int) → Int → (List T42) → Int → Option F45o.ty) (t1 : (List Int)) (o0 : T24) (o1 : T42) (kn : Int → Int → Option R) (k1 : Int → Option R) (t12 : Int) (t13 : Int) : Option R :=
  bif (decide (t13 < (List.length t1 : Int))) then
    cont (fun (k11 : Int → _) =>
      (idx o0.1 t13).bind fun x5 =>
      (idx t1 t13).bind fun x6 =>
      (idx x5 x6).bind fun x7 =>
      bif (x7.2.1 == o1.2.2.1) then
        (idx o0.1 t13).bind fun x8 =>
        (idx t1 t13).bind fun x9 =>
        (idx x8 x9).bind fun x10 =>
        k11 (IntKind.i64.wrap (t12 + x10.2.2.1))
      else
        k11 t12) fun y11 =>
    kn y11 (IntKind.i64.wrap (t13 + 1))
  else
    k1 t12
noncomputable def l45_1 {R : Type} (mr : T24 → (List Int) → Int → (List T42) → Int → Option F45o.ty) (t1 : (List Int)) (o0 : T24) (o1 : T42) (k1 : Int → Option R) : Nat → Int → Int → Option R
  | 0, _, _ => none
  | n + 1, t12, t13 => s45_1 mr t1 o0 o1 (l45_1 mr t1 o0 o1 k1 n) k1 t12 t13
noncomputable def L45_1 (mr : T24 → (List Int) → Int → (List T42) → Int → Option F45o.ty) : LE := ⟨14, 0, ⟨[(1, (.dat (.sl (.int .i64)))), (5, (.box 0 [] 0)), (11, (.box 1 [] 0)), (12, (.dat (.int .i64))), (13, (.dat (.int .i64)))], [(.box (.dat G24)), (.box (.dat G42))]⟩, fun R n x k => l45_1 mr x.1.1 x.2.1 x.2.2.1 (fun y0 => k (.exit 0) ⟨[(5, (.box 0 [] 0)), (11, (.box 1 [] 0)), (12, (.dat (.int .i64) y0))], [(.box (.dat G24 x.2.1)), (.box (.dat G42 x.2.2.1))]⟩) n x.1.2.2.2.1 x.1.2.2.2.2.1⟩
/-- a round of a loop of consol/consolref40.covered -/
noncomputable def s45_2 {R : Type} (mr : T24 → (List Int) → Int → (List T42) → Int → Option F45o.ty) (t1 : (List Int)) (t2 : Int) (t3 : (List T42)) (t4 : Int) (o0 : T24) (kn : Int → Int → Option R) (k1 : Int → Option R) (k2 : Option R) (t14 : Int) (t15 : Int) : Option R :=
  (idx o0.1 (List.length t1 : Int)).bind fun x14 =>
  bif (decide (t15 < (List.length x14 : Int))) then
    asrt true (decide (List.length (α := Int) t1 ≤ LIM)) (
      asrt true (decide (List.length (α := Int) t1 + List.length (α := Int) [t15] ≤ LIM)) (
        (mr o0 (t1 ++ [t15]) t2 t3 (IntKind.i64.wrap (t4 + t14))).bind fun r15 =>
        bif (decide (r15.1.1 < 0)) then
          k2
        else
          kn (IntKind.i64.wrap (t14 + r15.1.1)) (IntKind.i64.wrap (t15 + 1))))
  else
    k1 t14
noncomputable def l45_2 {R : Type} (mr : T24 → (List Int) → Int → (List T42) → Int → Option F45o.ty) (t1 : (List Int)) (t2 : Int) (t3 : (List T42)) (t4 : Int) (o0 : T24) (k1 : Int → Option R) (k2 : Option R) : Nat → Int → Int → Option R
  | 0, _, _ => none
  | n + 1, t14, t15 => s45_2 mr t1 t2 t3 t4 o0 (l45_2 mr t1 t2 t3 t4 o0 k1 k2 n) k1 k2 t14 t15
noncomputable def L45_2 (mr : T24 → (List Int) → Int → (List T42) → Int → Option F45o.ty) : LE := ⟨25, 0, ⟨[(1, (.dat (.sl (.int .i64)))), (2, (.dat (.int .i64))), (3, (.dat (.sl G42))), (4, (.dat (.int .i64))), (5, (.box 0 [] 0)), (14, (.dat (.int .i64))), (15, (.dat (.int .i64)))], [(.box (.dat G24))]⟩, fun R n x k => l45_2 mr x.1.1 x.1.2.1 x.1.2.2.1 x.1.2.2.2.1 x.2.1 (fun y0 => k (.exit 2) ⟨[(14, (.dat (.int .i64) y0))], []⟩) (k .ret ⟨[(10, (.dat (.int .i64) (-1)))], []⟩) n x.1.2.2.2.2.2.1 x.1.2.2.2.2.2.2.1⟩
noncomputable def C45 (mr : T24 → (List Int) → Int → (List T42) → Int → Option F45o.ty) : Cfg := mkCfg [(14, ⟨[1, 5, 11, 12, 13], [], []⟩), (15, ⟨[1, 5, 11, 12, 13], [], []⟩), (25, ⟨[1, 2, 3, 4, 5, 14, 15], [], []⟩)] [(14, (⟨[5, 11, 12], [], []⟩, ⟨[10], [], []⟩)), (25, (⟨[14], [], []⟩, ⟨[10], [], []⟩))] (([(0, L45_1 mr), (1, L45_2 mr)] : List (Nat × LE)).map (·.2))
theorem ek45_1 (mr : T24 → (List Int) → Int → (List T42) → Int → Option F45o.ty) : EOk (E45 mr) (C45 mr) Try.f45.ntmps (bodyL Try.f45 0) (L45_1 mr) := eok_of (e := L45_1 mr) (fun R x Kn k => s45_1 mr x.1.1 x.2.1 x.2.2.1 (fun v0 v1 => Kn ((x.1.1, (), (), v0, v1, ()), (x.2.1, x.2.2.1, ()))) (fun y0 => k (.exit 0) ⟨[(5, (.box 0 [] 0)), (11, (.box 1 [] 0)), (12, (.dat (.int .i64) y0))], [(.box (.dat G24 x.2.1)), (.box (.dat G42 x.2.2.1))]⟩) x.1.2.2.2.1 x.1.2.2.2.2.1) (fun _ _ _ => rfl) (fun _ _ _ _ => rfl) (fun R x Kn k => by kernel_rfl)
theorem ek45_2 (mr : T24 → (List Int) → Int → (List T42) → Int → Option F45o.ty) : EOk (E45 mr) (C45 mr) Try.f45.ntmps (bodyL Try.f45 1) (L45_2 mr) := eok_of (e := L45_2 mr) (fun R x Kn k => s45_2 mr x.1.1 x.1.2.1 x.1.2.2.1 x.1.2.2.2.1 x.2.1 (fun v0 v1 => Kn ((x.1.1, x.1.2.1, x.1.2.2.1, x.1.2.2.2.1, (), v0, v1, ()), (x.2.1, ()))) (fun y0 => k (.exit 2) ⟨[(14, (.dat (.int .i64) y0))], []⟩) (k .ret ⟨[(10, (.dat (.int .i64) (-1)))], []⟩) x.1.2.2.2.2.2.1 x.1.2.2.2.2.2.2.1) (fun _ _ _ => rfl) (fun _ _ _ _ => rfl) (fun R x Kn k => by kernel_rfl)
theorem lm45 (mr : T24 → (List Int) → Int → (List T42) → Int → Option F45o.ty) : ∀ c, Try.f45.body = some c → LmOk (E45 mr) (C45 mr) Try.f45.ntmps c := lmOk_of (ps := [(0, L45_1 mr), (1, L45_2 mr)]) (by kernel_rfl) (by kernel_rfl) ⟨ek45_1 mr, ek45_2 mr, trivial⟩
noncomputable def M45 (mr : T24 → (List Int) → Int → (List T42) → Int → Option F45o.ty) (a0 : T24) (a1 : (List Int)) (a2 : Int) (a3 : (List T42)) (a4 : Int) : Option F45o.ty :=
  bif (decide (a4 ≥ (List.length a3 : Int))) then
    some (((-1), ()), (()))
  else
    (idx a3 a4).bind fun x1 =>
    (m14 x1.1 a1).bind fun r2 =>
    bif r2 then
      (idx a3 a4).bind fun x3 =>
      bif (x3.2.2.1 == (-1)) then
        (m22 a0 a1).bind fun r4 =>
        bif ((decide (x3.2.1 ≤ r4)) && (decide (x3.2.1 ≥ a2))) then
          some ((1, ()), (()))
        else
          some (((-1), ()), (()))
      else
        bif ((decide (x3.2.2.1 < 0)) || (decide (x3.2.2.1 ≥ (List.length a0.2.1 : Int)))) then
          some (((-1), ()), (()))
        else
          l45_1 mr a1 a0 x3 (fun y12 =>
              (idx a0.2.1 x3.2.2.1).bind fun x13 =>
              bif (decide (y12 > x13)) then
                some ((1, ()), (()))
              else
                some (((-1), ()), (()))) FUEL 0 0
    else
      bif ((List.length a1 : Int) == (List.length a0.1 : Int)) then
        some (((-1), ()), (()))
      else
        l45_2 mr a1 a2 a3 a4 a0 (fun y16 =>
            some ((y16, ()), (()))) (
            some (((-1), ()), (()))) FUEL 0 0
theorem q45 (mr : T24 → (List Int) → Int → (List T42) → Int → Option F45o.ty) (x : F45i.ty) : execF (E45 mr) (C45 mr) Try.f45 ((F45i.enc x).regs.map (·.2)) (F45i.enc x).heap (retS [] [] 0 F45o) = M45 mr x.1.1 x.1.2.1 x.1.2.2.1 x.1.2.2.2.1 x.1.2.2.2.2.1 := by kernel_rfl
theorem R45 (mr : T24 → (List Int) → Int → (List T42) → Int → Option F45o.ty) (hmr : CmOk Try.prog (cS45 mr)) : CRun Try.prog 45 F45i F45o (fun x => M45 mr x.1.1 x.1.2.1 x.1.2.2.1 x.1.2.2.2.1 x.1.2.2.2.2.1) := st_run (E := E45 mr) (ok45 mr hmr) ord (lm45 mr) Try.func45 (q45 mr)
noncomputable def m45N : Nat → T24 → (List Int) → Int → (List T42) → Int → Option F45o.ty
  | 0, _, _, _, _, _ => none
  | n + 1, a0, a1, a2, a3, a4 => M45 (m45N n) a0 a1 a2 a3 a4
theorem dS45 : ∀ n, CmOk Try.prog (cS45 (m45N n))
  | 0 => st_ok ca45 (fun _ _ h => by cases h)
  | n + 1 => st_ok ca45 (R45 (m45N n) (dS45 n))
noncomputable def m45 (a0 : T24) (a1 : (List Int)) (a2 : Int) (a3 : (List T42)) (a4 : Int) : Option F45o.ty := m45N FUEL a0 a1 a2 a3 a4
noncomputable def c45 : CmE := cS45 (fun a0 a1 a2 a3 a4 => m45 a0 a1 a2 a3 a4)
theorem d45 : CmOk Try.prog c45 := dS45 FUEL

/-! 19: consol/consolref40.Check -/
theorem ca19 : callable Try.prog 19 := ⟨Try.f19, Try.func19, by kernel_rfl, by kernel_rfl⟩
noncomputable def E19 : Env := mkEnv2 Try.prog [e13, e17] [c45]
theorem ok19 : EnvOk (E19) := mkEnv2_ok (by simp only [List.mem_cons, List.not_mem_nil, or_false, forall_eq_or_imp, forall_eq]; exact ⟨p13, p17⟩) (by simp only [List.mem_cons, List.not_mem_nil, or_false, forall_eq]; exact d45)
noncomputable def C19 : Cfg := noCfg
theorem lm19 : ∀ c, Try.f19.body = some c → LmOk (E19) (C19) Try.f19.ntmps c := fun _ _ => noCfg_lm
noncomputable def m19 (a0 : T24) (a1 : (List Int)) (a2 : Int) (a3 : (List T42)) : Option (Int) :=
  (m17 a0).bind fun r1 =>
  bif (!r1) then
    some 1
  else
    (m13 a0 a1).bind fun r2 =>
    bif (((!r2.2.1) || (r2.1 != a2)) == false) then
      (m45 a0 [] a2 a3 0).bind fun r3 =>
      bif (((!r2.2.1) || (r2.1 != a2)) || (r3.1.1 != (List.length a3 : Int))) then
        some 24
      else
        some 0
    else
      bif (((!r2.2.1) || (r2.1 != a2)) || (0 != (List.length a3 : Int))) then
        some 24
      else
        some 0
noncomputable def e19 : PmE := entry 19 [G24, (.sl (.int .i64)), (.int .i64), (.sl G42)] false (.int .i64) (fun x => m19 x.1 x.2.1 x.2.2.1 x.2.2.2.1)
theorem q19 (x : tyL [G24, (.sl (.int .i64)), (.int .i64), (.sl G42)]) : execF E19 C19 Try.f19 (datL [G24, (.sl (.int .i64)), (.int .i64), (.sl G42)] x) [] (retK false (.int .i64)) = m19 x.1 x.2.1 x.2.2.1 x.2.2.2.1 := by kernel_rfl
theorem p19 : PmOk Try.prog e19 := pm_ok (E := E19) ok19 ord lm19 Try.func19 ca19 q19

/-! 3: consol/consollaw40.PlanTells -/
theorem ca3 : callable Try.prog 3 := ⟨Try.f3, Try.func3, by kernel_rfl, by kernel_rfl⟩
noncomputable def E3 : Env := mkEnv2 Try.prog [e8, e9, e10, e11, e12, e13, e14, e15, e16, e17, e18, e19] []
theorem ok3 : EnvOk (E3) := mkEnv2_ok (by simp only [List.mem_cons, List.not_mem_nil, or_false, forall_eq_or_imp, forall_eq]; exact ⟨p8, p9, p10, p11, p12, p13, p14, p15, p16, p17, p18, p19⟩) (by simp)
noncomputable def C3 : Cfg := noCfg
theorem lm3 : ∀ c, Try.f3.body = some c → LmOk (E3) (C3) Try.f3.ntmps c := fun _ _ => noCfg_lm
noncomputable def m3 (a0 : T24) (a1 : (List Int)) (a2 : Int) (a3 : (List T42)) : Option (Bool) :=
  (m8).bind fun r1 =>
  (m9 a0 a3).bind fun r2 =>
  bif ((!r2) || (decide ((List.length a1 : Int) > 6))) then
    some r1
  else
    (m10 a0).bind fun r3 =>
    (m11 a0).bind fun r4 =>
    (m12 a0 a1).bind fun r5 =>
    (m13 a0 a1).bind fun r6 =>
    (bif (((r3.2.2.2.1 == r4.2.2.2.1) && (r3.2.1 == r4.2.1)) == true) then (m14 r3.1 r4.1) else some false).bind fun r7 =>
    (bif ((((r3.2.2.2.1 == r4.2.2.2.1) && (r3.2.1 == r4.2.1)) && r7) == true) then (m15 r3.2.2.1 r4.2.2.1) else some false).bind fun r8 =>
    (bif ((r1 && ((((((r3.2.2.2.1 == r4.2.2.2.1) && (r3.2.1 == r4.2.1)) && r7) && r8) && (r5.1 == r6.1)) && (r5.2.1 == r6.2.1))) == true) then (m16 a0) else some false).bind fun r9 =>
    (bif ((r1 && ((((((r3.2.2.2.1 == r4.2.2.2.1) && (r3.2.1 == r4.2.1)) && r7) && r8) && (r5.1 == r6.1)) && (r5.2.1 == r6.2.1))) == true) then (m17 a0) else some false).bind fun r10 =>
    (bif (((r1 && ((((((r3.2.2.2.1 == r4.2.2.2.1) && (r3.2.1 == r4.2.1)) && r7) && r8) && (r5.1 == r6.1)) && (r5.2.1 == r6.2.1))) && (r9 == r10)) == true) then (m18 a0 a1 a2 a3) else some 0).bind fun r11 =>
    (bif (((r1 && ((((((r3.2.2.2.1 == r4.2.2.2.1) && (r3.2.1 == r4.2.1)) && r7) && r8) && (r5.1 == r6.1)) && (r5.2.1 == r6.2.1))) && (r9 == r10)) == true) then (m19 a0 a1 a2 a3) else some 0).bind fun r12 =>
    some (((r1 && ((((((r3.2.2.2.1 == r4.2.2.2.1) && (r3.2.1 == r4.2.1)) && r7) && r8) && (r5.1 == r6.1)) && (r5.2.1 == r6.2.1))) && (r9 == r10)) && (r11 == r12))
noncomputable def e3 : PmE := entry 3 [G24, (.sl (.int .i64)), (.int .i64), (.sl G42)] false .bool (fun x => m3 x.1 x.2.1 x.2.2.1 x.2.2.2.1)
noncomputable def V3 (mo8 : Option (Bool)) : Env := mkEnv2 Try.prog [(entry 8 [] false .bool (fun _ => mo8)), e9, e10, e11, e12, e13, e14, e15, e16, e17, e18, e19] []
theorem qv3 (mo8 : Option (Bool)) (x : tyL [G24, (.sl (.int .i64)), (.int .i64), (.sl G42)]) : execF (V3 mo8) C3 Try.f3 (datL [G24, (.sl (.int .i64)), (.int .i64), (.sl G42)] x) [] (retK false .bool) = (fun (a0 : T24) (a1 : (List Int)) (a2 : Int) (a3 : (List T42)) =>
  (mo8).bind fun r1 =>
  (m9 a0 a3).bind fun r2 =>
  bif ((!r2) || (decide ((List.length a1 : Int) > 6))) then
    some r1
  else
    (m10 a0).bind fun r3 =>
    (m11 a0).bind fun r4 =>
    (m12 a0 a1).bind fun r5 =>
    (m13 a0 a1).bind fun r6 =>
    (bif (((r3.2.2.2.1 == r4.2.2.2.1) && (r3.2.1 == r4.2.1)) == true) then (m14 r3.1 r4.1) else some false).bind fun r7 =>
    (bif ((((r3.2.2.2.1 == r4.2.2.2.1) && (r3.2.1 == r4.2.1)) && r7) == true) then (m15 r3.2.2.1 r4.2.2.1) else some false).bind fun r8 =>
    (bif ((r1 && ((((((r3.2.2.2.1 == r4.2.2.2.1) && (r3.2.1 == r4.2.1)) && r7) && r8) && (r5.1 == r6.1)) && (r5.2.1 == r6.2.1))) == true) then (m16 a0) else some false).bind fun r9 =>
    (bif ((r1 && ((((((r3.2.2.2.1 == r4.2.2.2.1) && (r3.2.1 == r4.2.1)) && r7) && r8) && (r5.1 == r6.1)) && (r5.2.1 == r6.2.1))) == true) then (m17 a0) else some false).bind fun r10 =>
    (bif (((r1 && ((((((r3.2.2.2.1 == r4.2.2.2.1) && (r3.2.1 == r4.2.1)) && r7) && r8) && (r5.1 == r6.1)) && (r5.2.1 == r6.2.1))) && (r9 == r10)) == true) then (m18 a0 a1 a2 a3) else some 0).bind fun r11 =>
    (bif (((r1 && ((((((r3.2.2.2.1 == r4.2.2.2.1) && (r3.2.1 == r4.2.1)) && r7) && r8) && (r5.1 == r6.1)) && (r5.2.1 == r6.2.1))) && (r9 == r10)) == true) then (m19 a0 a1 a2 a3) else some 0).bind fun r12 =>
    some (((r1 && ((((((r3.2.2.2.1 == r4.2.2.2.1) && (r3.2.1 == r4.2.1)) && r7) && r8) && (r5.1 == r6.1)) && (r5.2.1 == r6.2.1))) && (r9 == r10)) && (r11 == r12))) x.1 x.2.1 x.2.2.1 x.2.2.2.1 := by kernel_rfl
theorem q3 (x : tyL [G24, (.sl (.int .i64)), (.int .i64), (.sl G42)]) : execF E3 C3 Try.f3 (datL [G24, (.sl (.int .i64)), (.int .i64), (.sl G42)] x) [] (retK false .bool) = m3 x.1 x.2.1 x.2.2.1 x.2.2.2.1 := qv3 m8 x
theorem p3 : PmOk Try.prog e3 := pm_ok (E := E3) ok3 ord lm3 Try.func3 ca3 q3

/-! 20: consol/consollaw40.less -/
theorem ca20 : callable Try.prog 20 := ⟨Try.f20, Try.func20, by kernel_rfl, by kernel_rfl⟩
noncomputable def E20 : Env := mkEnv2 Try.prog [] []
theorem ok20 : EnvOk (E20) := mkEnv2_ok (by simp) (by simp)
/-- a round of a loop of consol/consollaw40.less -/
noncomputable def s20_1 {R : Type} (t0 : (List Int)) (t1 : (List Int)) (kn : Int → Option R) (k1 : Option R) (k2 : Bool → Option R) (t5 : Int) : Option R :=
  bif ((decide (t5 < (List.length t0 : Int))) && (decide (t5 < (List.length t1 : Int)))) then
    (idx t0 t5).bind fun x1 =>
    (idx t1 t5).bind fun x2 =>
    bif (x1 != x2) then
      (idx t0 t5).bind fun x3 =>
      (idx t1 t5).bind fun x4 =>
      k2 (decide (x3 < x4))
    else
      kn (IntKind.i64.wrap (t5 + 1))
  else
    k1
noncomputable def l20_1 {R : Type} (t0 : (List Int)) (t1 : (List Int)) (k1 : Option R) (k2 : Bool → Option R) : Nat → Int → Option R
  | 0, _ => none
  | n + 1, t5 => s20_1 t0 t1 (l20_1 t0 t1 k1 k2 n) k1 k2 t5
noncomputable def L20_1 : LE := ⟨3, 0, ⟨[(0, (.dat (.sl (.int .i64)))), (1, (.dat (.sl (.int .i64)))), (5, (.dat (.int .i64)))], []⟩, fun R n x k => l20_1 x.1.1 x.1.2.1 (k (.exit 0) ⟨[], []⟩) (fun y0 => k .ret ⟨[(4, (.dat .bool y0))], []⟩) n x.1.2.2.1⟩
noncomputable def C20 : Cfg := mkCfg [(3, ⟨[0, 1, 5], [], []⟩)] [(3, (⟨[], [], []⟩, ⟨[4], [], []⟩))] (([(0, L20_1)] : List (Nat × LE)).map (·.2))
theorem ek20_1 : EOk (E20) (C20) Try.f20.ntmps (bodyL Try.f20 0) (L20_1) := eok_of (e := L20_1) (fun R x Kn k => s20_1 x.1.1 x.1.2.1 (fun v0 => Kn ((x.1.1, x.1.2.1, v0, ()), (()))) (k (.exit 0) ⟨[], []⟩) (fun y0 => k .ret ⟨[(4, (.dat .bool y0))], []⟩) x.1.2.2.1) (fun _ _ _ => rfl) (fun _ _ _ _ => rfl) (fun R x Kn k => by kernel_rfl)
theorem lm20 : ∀ c, Try.f20.body = some c → LmOk (E20) (C20) Try.f20.ntmps c := lmOk_of (ps := [(0, L20_1)]) (by kernel_rfl) (by kernel_rfl) ⟨ek20_1, trivial⟩
noncomputable def m20 (a0 : (List Int)) (a1 : (List Int)) : Option (Bool) :=
  l20_1 a0 a1 (
      some false) (fun y5 =>
      some y5) FUEL 0
noncomputable def e20 : PmE := entry 20 [(.sl (.int .i64)), (.sl (.int .i64))] false .bool (fun x => m20 x.1 x.2.1)
theorem q20 (x : tyL [(.sl (.int .i64)), (.sl (.int .i64))]) : execF E20 C20 Try.f20 (datL [(.sl (.int .i64)), (.sl (.int .i64))] x) [] (retK false .bool) = m20 x.1 x.2.1 := by kernel_rfl
theorem p20 : PmOk Try.prog e20 := pm_ok (E := E20) ok20 ord lm20 Try.func20 ca20 q20

/-! 4: consol/consollaw40.PlanBest -/
theorem ca4 : callable Try.prog 4 := ⟨Try.f4, Try.func4, by kernel_rfl, by kernel_rfl⟩
noncomputable def E4 : Env := mkEnv2 Try.prog [e8, e9, e10, e12, e16, e18, e20] []
theorem ok4 : EnvOk (E4) := mkEnv2_ok (by simp only [List.mem_cons, List.not_mem_nil, or_false, forall_eq_or_imp, forall_eq]; exact ⟨p8, p9, p10, p12, p16, p18, p20⟩) (by simp)
noncomputable def C4 : Cfg := noCfg
theorem lm4 : ∀ c, Try.f4.body = some c → LmOk (E4) (C4) Try.f4.ntmps c := fun _ _ => noCfg_lm
noncomputable def m4 (a0 : T24) (a1 : (List Int)) : Option (Bool) :=
  (m8).bind fun r1 =>
  (m9 a0 []).bind fun r2 =>
  bif ((!r2) || (decide ((List.length a1 : Int) > 6))) then
    some r1
  else
    (m10 a0).bind fun r3 =>
    (m12 a0 a1).bind fun r4 =>
    bif (r3.2.2.2.1 != 0) then
      (bif ((((r1 && ((IntKind.i64.wrap ((IntKind.i64.wrap ((List.length r3.1 : Int) + r3.2.1)) + (List.length r3.2.2.1 : Int))) == 0)) && (!r4.2.1)) && ((r3.2.2.2.1 == 1) || (r3.2.2.2.1 == 4))) == true) then (m16 a0) else some false).bind fun r5 =>
      some ((((r1 && ((IntKind.i64.wrap ((IntKind.i64.wrap ((List.length r3.1 : Int) + r3.2.1)) + (List.length r3.2.2.1 : Int))) == 0)) && (!r4.2.1)) && ((r3.2.2.2.1 == 1) || (r3.2.2.2.1 == 4))) && ((r3.2.2.2.1 == 4) == r5))
    else
      (m18 a0 r3.1 r3.2.1 r3.2.2.1).bind fun r6 =>
      bif (r6 != 0) then
        some false
      else
        (bif (((r1 == true) && (((!r4.2.1) || (decide (r4.1 > r3.2.1))) == false)) && ((r4.1 == r3.2.1) == true)) then (m20 a1 r3.1) else some false).bind fun r7 =>
        some (r1 && (((!r4.2.1) || (decide (r4.1 > r3.2.1))) || ((r4.1 == r3.2.1) && (!r7))))
noncomputable def e4 : PmE := entry 4 [G24, (.sl (.int .i64))] false .bool (fun x => m4 x.1 x.2.1)
noncomputable def V4 (mo8 : Option (Bool)) : Env := mkEnv2 Try.prog [(entry 8 [] false .bool (fun _ => mo8)), e9, e10, e12, e16, e18, e20] []
theorem qv4 (mo8 : Option (Bool)) (x : tyL [G24, (.sl (.int .i64))]) : execF (V4 mo8) C4 Try.f4 (datL [G24, (.sl (.int .i64))] x) [] (retK false .bool) = (fun (a0 : T24) (a1 : (List Int)) =>
  (mo8).bind fun r1 =>
  (m9 a0 []).bind fun r2 =>
  bif ((!r2) || (decide ((List.length a1 : Int) > 6))) then
    some r1
  else
    (m10 a0).bind fun r3 =>
    (m12 a0 a1).bind fun r4 =>
    bif (r3.2.2.2.1 != 0) then
      (bif ((((r1 && ((IntKind.i64.wrap ((IntKind.i64.wrap ((List.length r3.1 : Int) + r3.2.1)) + (List.length r3.2.2.1 : Int))) == 0)) && (!r4.2.1)) && ((r3.2.2.2.1 == 1) || (r3.2.2.2.1 == 4))) == true) then (m16 a0) else some false).bind fun r5 =>
      some ((((r1 && ((IntKind.i64.wrap ((IntKind.i64.wrap ((List.length r3.1 : Int) + r3.2.1)) + (List.length r3.2.2.1 : Int))) == 0)) && (!r4.2.1)) && ((r3.2.2.2.1 == 1) || (r3.2.2.2.1 == 4))) && ((r3.2.2.2.1 == 4) == r5))
    else
      (m18 a0 r3.1 r3.2.1 r3.2.2.1).bind fun r6 =>
      bif (r6 != 0) then
        some false
      else
        (bif (((r1 == true) && (((!r4.2.1) || (decide (r4.1 > r3.2.1))) == false)) && ((r4.1 == r3.2.1) == true)) then (m20 a1 r3.1) else some false).bind fun r7 =>
        some (r1 && (((!r4.2.1) || (decide (r4.1 > r3.2.1))) || ((r4.1 == r3.2.1) && (!r7))))) x.1 x.2.1 := by kernel_rfl
theorem q4 (x : tyL [G24, (.sl (.int .i64))]) : execF E4 C4 Try.f4 (datL [G24, (.sl (.int .i64))] x) [] (retK false .bool) = m4 x.1 x.2.1 := qv4 m8 x
theorem p4 : PmOk Try.prog e4 := pm_ok (E := E4) ok4 ord lm4 Try.func4 ca4 q4

/-! 5: consol/consollaw40.PlanProof -/
theorem ca5 : callable Try.prog 5 := ⟨Try.f5, Try.func5, by kernel_rfl, by kernel_rfl⟩
noncomputable def E5 : Env := mkEnv2 Try.prog [e8, e9, e10, e12, e18] []
theorem ok5 : EnvOk (E5) := mkEnv2_ok (by simp only [List.mem_cons, List.not_mem_nil, or_false, forall_eq_or_imp, forall_eq]; exact ⟨p8, p9, p10, p12, p18⟩) (by simp)
noncomputable def C5 : Cfg := noCfg
theorem lm5 : ∀ c, Try.f5.body = some c → LmOk (E5) (C5) Try.f5.ntmps c := fun _ _ => noCfg_lm
noncomputable def m5 (a0 : T24) (a1 : (List Int)) (a2 : Int) (a3 : (List T42)) (a4 : (List Int)) : Option (Bool) :=
  (m8).bind fun r1 =>
  (m9 a0 a3).bind fun r2 =>
  bif (((!r2) || (decide ((List.length a1 : Int) > 6))) || (decide ((List.length a4 : Int) > 6))) then
    some r1
  else
    (m18 a0 a1 a2 a3).bind fun r3 =>
    bif (r3 != 0) then
      some r1
    else
      (m12 a0 a1).bind fun r4 =>
      (m12 a0 a4).bind fun r5 =>
      (m10 a0).bind fun r6 =>
      (bif (((((((r1 && r4.2.1) && (r4.1 == a2)) && ((!r5.2.1) || (decide (r5.1 ≥ a2)))) && (r6.2.2.2.1 == 0)) && (r6.2.1 == a2)) && ((List.length r6.1 : Int) == (List.length a1 : Int))) == true) then (m18 a0 a1 (IntKind.i64.wrap (a2 + 1)) a3) else some 0).bind fun r7 =>
      some (((((((r1 && r4.2.1) && (r4.1 == a2)) && ((!r5.2.1) || (decide (r5.1 ≥ a2)))) && (r6.2.2.2.1 == 0)) && (r6.2.1 == a2)) && ((List.length r6.1 : Int) == (List.length a1 : Int))) && (r7 == 24))
noncomputable def e5 : PmE := entry 5 [G24, (.sl (.int .i64)), (.int .i64), (.sl G42), (.sl (.int .i64))] false .bool (fun x => m5 x.1 x.2.1 x.2.2.1 x.2.2.2.1 x.2.2.2.2.1)
noncomputable def V5 (mo8 : Option (Bool)) : Env := mkEnv2 Try.prog [(entry 8 [] false .bool (fun _ => mo8)), e9, e10, e12, e18] []
theorem qv5 (mo8 : Option (Bool)) (x : tyL [G24, (.sl (.int .i64)), (.int .i64), (.sl G42), (.sl (.int .i64))]) : execF (V5 mo8) C5 Try.f5 (datL [G24, (.sl (.int .i64)), (.int .i64), (.sl G42), (.sl (.int .i64))] x) [] (retK false .bool) = (fun (a0 : T24) (a1 : (List Int)) (a2 : Int) (a3 : (List T42)) (a4 : (List Int)) =>
  (mo8).bind fun r1 =>
  (m9 a0 a3).bind fun r2 =>
  bif (((!r2) || (decide ((List.length a1 : Int) > 6))) || (decide ((List.length a4 : Int) > 6))) then
    some r1
  else
    (m18 a0 a1 a2 a3).bind fun r3 =>
    bif (r3 != 0) then
      some r1
    else
      (m12 a0 a1).bind fun r4 =>
      (m12 a0 a4).bind fun r5 =>
      (m10 a0).bind fun r6 =>
      (bif (((((((r1 && r4.2.1) && (r4.1 == a2)) && ((!r5.2.1) || (decide (r5.1 ≥ a2)))) && (r6.2.2.2.1 == 0)) && (r6.2.1 == a2)) && ((List.length r6.1 : Int) == (List.length a1 : Int))) == true) then (m18 a0 a1 (IntKind.i64.wrap (a2 + 1)) a3) else some 0).bind fun r7 =>
      some (((((((r1 && r4.2.1) && (r4.1 == a2)) && ((!r5.2.1) || (decide (r5.1 ≥ a2)))) && (r6.2.2.2.1 == 0)) && (r6.2.1 == a2)) && ((List.length r6.1 : Int) == (List.length a1 : Int))) && (r7 == 24))) x.1 x.2.1 x.2.2.1 x.2.2.2.1 x.2.2.2.2.1 := by kernel_rfl
theorem q5 (x : tyL [G24, (.sl (.int .i64)), (.int .i64), (.sl G42), (.sl (.int .i64))]) : execF E5 C5 Try.f5 (datL [G24, (.sl (.int .i64)), (.int .i64), (.sl G42), (.sl (.int .i64))] x) [] (retK false .bool) = m5 x.1 x.2.1 x.2.2.1 x.2.2.2.1 x.2.2.2.2.1 := qv5 m8 x
theorem p5 : PmOk Try.prog e5 := pm_ok (E := E5) ok5 ord lm5 Try.func5 ca5 q5

/-! 23: consol/consollaw40.begins -/
theorem ca23 : callable Try.prog 23 := ⟨Try.f23, Try.func23, by kernel_rfl, by kernel_rfl⟩
noncomputable def E23 : Env := mkEnv2 Try.prog [] []
theorem ok23 : EnvOk (E23) := mkEnv2_ok (by simp) (by simp)
/-- a round of a loop of consol/consollaw40.begins -/
noncomputable def s23_1 {R : Type} (t0 : (List Int)) (t1 : (List Int)) (kn : Int → Option R) (k1 : Option R) (k2 : Option R) (t5 : Int) : Option R :=
  bif (decide (t5 < (List.length t1 : Int))) then
    (idxG ((decide (t5 ≥ (List.length t0 : Int))) == false) 0 t0 t5).bind fun x1 =>
    (idxG ((decide (t5 ≥ (List.length t0 : Int))) == false) 0 t1 t5).bind fun x2 =>
    bif ((decide (t5 ≥ (List.length t0 : Int))) || (x1 != x2)) then
      k2
    else
      kn (IntKind.i64.wrap (t5 + 1))
  else
    k1
noncomputable def l23_1 {R : Type} (t0 : (List Int)) (t1 : (List Int)) (k1 : Option R) (k2 : Option R) : Nat → Int → Option R
  | 0, _ => none
  | n + 1, t5 => s23_1 t0 t1 (l23_1 t0 t1 k1 k2 n) k1 k2 t5
noncomputable def L23_1 : LE := ⟨3, 0, ⟨[(0, (.dat (.sl (.int .i64)))), (1, (.dat (.sl (.int .i64)))), (5, (.dat (.int .i64)))], []⟩, fun R n x k => l23_1 x.1.1 x.1.2.1 (k (.exit 0) ⟨[], []⟩) (k .ret ⟨[(4, (.dat .bool false))], []⟩) n x.1.2.2.1⟩
noncomputable def C23 : Cfg := mkCfg [(3, ⟨[0, 1, 5], [], []⟩)] [(3, (⟨[], [], []⟩, ⟨[4], [], []⟩))] (([(0, L23_1)] : List (Nat × LE)).map (·.2))
theorem ek23_1 : EOk (E23) (C23) Try.f23.ntmps (bodyL Try.f23 0) (L23_1) := eok_of (e := L23_1) (fun R x Kn k => s23_1 x.1.1 x.1.2.1 (fun v0 => Kn ((x.1.1, x.1.2.1, v0, ()), (()))) (k (.exit 0) ⟨[], []⟩) (k .ret ⟨[(4, (.dat .bool false))], []⟩) x.1.2.2.1) (fun _ _ _ => rfl) (fun _ _ _ _ => rfl) (fun R x Kn k => by kernel_rfl)
theorem lm23 : ∀ c, Try.f23.body = some c → LmOk (E23) (C23) Try.f23.ntmps c := lmOk_of (ps := [(0, L23_1)]) (by kernel_rfl) (by kernel_rfl) ⟨ek23_1, trivial⟩
noncomputable def m23 (a0 : (List Int)) (a1 : (List Int)) : Option (Bool) :=
  l23_1 a0 a1 (
      some true) (
      some false) FUEL 0
noncomputable def e23 : PmE := entry 23 [(.sl (.int .i64)), (.sl (.int .i64))] false .bool (fun x => m23 x.1 x.2.1)
theorem q23 (x : tyL [(.sl (.int .i64)), (.sl (.int .i64))]) : execF E23 C23 Try.f23 (datL [(.sl (.int .i64)), (.sl (.int .i64))] x) [] (retK false .bool) = m23 x.1 x.2.1 := by kernel_rfl
theorem p23 : PmOk Try.prog e23 := pm_ok (E := E23) ok23 ord lm23 Try.func23 ca23 q23

/-! 6: consol/consollaw40.PlanCovers -/
theorem ca6 : callable Try.prog 6 := ⟨Try.f6, Try.func6, by kernel_rfl, by kernel_rfl⟩
noncomputable def E6 : Env := mkEnv2 Try.prog [e8, e9, e10, e20, e21, e22, e23] []
theorem ok6 : EnvOk (E6) := mkEnv2_ok (by simp only [List.mem_cons, List.not_mem_nil, or_false, forall_eq_or_imp, forall_eq]; exact ⟨p8, p9, p10, p20, p21, p22, p23⟩) (by simp)
/-- a round of a loop of consol/consollaw40.PlanCovers -/
noncomputable def s6_1 {R : Type} (t1 : (List Int)) (o0 : T24) (o1 : T42) (kn : Int → Int → Option R) (k1 : Int → Option R) (t14 : Int) (t15 : Int) : Option R :=
  bif (decide (t15 < (List.length t1 : Int))) then
    cont (fun (k18 : Int → _) =>
      (idx o0.1 t15).bind fun x12 =>
      (idx t1 t15).bind fun x13 =>
      (idx x12 x13).bind fun x14 =>
      bif (x14.2.1 == o1.2.2.1) then
        (idx o0.1 t15).bind fun x15 =>
        (idx t1 t15).bind fun x16 =>
        (idx x15 x16).bind fun x17 =>
        k18 (IntKind.i64.wrap (t14 + x17.2.2.1))
      else
        k18 t14) fun y18 =>
    kn y18 (IntKind.i64.wrap (t15 + 1))
  else
    k1 t14
noncomputable def l6_1 {R : Type} (t1 : (List Int)) (o0 : T24) (o1 : T42) (k1 : Int → Option R) : Nat → Int → Int → Option R
  | 0, _, _ => none
  | n + 1, t14, t15 => s6_1 t1 o0 o1 (l6_1 t1 o0 o1 k1 n) k1 t14 t15
noncomputable def L6_1 : LE := ⟨23, 0, ⟨[(1, (.dat (.sl (.int .i64)))), (2, (.box 0 [] 0)), (5, (.dat .bool)), (7, (.dat (.int .i64))), (8, (.dat (.sl G42))), (10, (.dat (.int .i64))), (11, (.dat (.int .i64))), (12, (.dat (.int .i64))), (13, (.box 1 [] 0)), (14, (.dat (.int .i64))), (15, (.dat (.int .i64)))], [(.box (.dat G24)), (.box (.dat G42))]⟩, fun R n x k => l6_1 x.1.1 x.2.1 x.2.2.1 (fun y0 => k (.exit 2) ⟨[(1, (.dat (.sl (.int .i64)) x.1.1)), (2, (.box 0 [] 0)), (5, (.dat .bool x.1.2.2.1)), (7, (.dat (.int .i64) x.1.2.2.2.1)), (8, (.dat (.sl G42) x.1.2.2.2.2.1)), (10, (.dat (.int .i64) x.1.2.2.2.2.2.1)), (11, (.dat (.int .i64) x.1.2.2.2.2.2.2.1)), (12, (.dat (.int .i64) x.1.2.2.2.2.2.2.2.1)), (13, (.box 1 [] 0)), (14, (.dat (.int .i64) y0))], [(.box (.dat G24 x.2.1)), (.box (.dat G42 x.2.2.1))]⟩) n x.1.2.2.2.2.2.2.2.2.2.1 x.1.2.2.2.2.2.2.2.2.2.2.1⟩
/-- a round of a loop of consol/consollaw40.PlanCovers -/
noncomputable def s6_2 {R : Type} (t1 : (List Int)) (t7 : Int) (t8 : (List T42)) (t10 : Int) (o0 : T24) (kn : Int → Int → Option R) (k1 : Int → Option R) (k2 : Option R) (t11 : Int) (t12 : Int) : Option R :=
  bif (decide (t12 < (List.length t8 : Int))) then
    cont (fun (k21 : Int → _) =>
      (idx t8 t12).bind fun x6 =>
      (idxG ((decide (t12 > 0)) == true) (([] : (List Int)), 0, 0, ()) t8 (IntKind.i64.wrap (t12 - 1))).bind fun x7 =>
      (bif ((decide (t12 > 0)) == true) then (m20 x7.1 x6.1) else some false).bind fun r8 =>
      (idxG (((decide (t12 > 0)) == true) && ((!r8) == false)) (([] : (List Int)), 0, 0, ()) t8 (IntKind.i64.wrap (t12 - 1))).bind fun x9 =>
      (bif (((decide (t12 > 0)) == true) && ((!r8) == false)) then (m23 x6.1 x9.1) else some false).bind fun r10 =>
      bif ((decide (t12 > 0)) && ((!r8) || r10)) then
        k2
      else
        (m23 t1 x6.1).bind fun r11 =>
        bif (!r11) then
          k21 t11
        else
          bif (x6.2.2.1 == (-1)) then
            bif ((decide (t10 < x6.2.1)) || (decide (x6.2.1 < t7))) then
              k2
            else
              k21 (IntKind.i64.wrap (t11 + 1))
          else
            l6_1 t1 o0 x6 (fun y19 =>
                (idxG (((decide (x6.2.2.1 < 0)) || (decide (x6.2.2.1 ≥ (List.length o0.2.1 : Int)))) == false) 0 o0.2.1 x6.2.2.1).bind fun x20 =>
                bif ((((decide (x6.2.2.1 < 0)) || (decide (x6.2.2.1 ≥ (List.length o0.2.1 : Int)))) || (decide (y19 ≤ x20))) || (x6.2.1 != 0)) then
                  k2
                else
                  k21 (IntKind.i64.wrap (t11 + 1))) FUEL 0 0) fun y21 =>
    kn y21 (IntKind.i64.wrap (t12 + 1))
  else
    k1 t11
noncomputable def l6_2 {R : Type} (t1 : (List Int)) (t7 : Int) (t8 : (List T42)) (t10 : Int) (o0 : T24) (k1 : Int → Option R) (k2 : Option R) : Nat → Int → Int → Option R
  | 0, _, _ => none
  | n + 1, t11, t12 => s6_2 t1 t7 t8 t10 o0 (l6_2 t1 t7 t8 t10 o0 k1 k2 n) k1 k2 t11 t12
noncomputable def L6_2 : LE := ⟨11, 0, ⟨[(1, (.dat (.sl (.int .i64)))), (2, (.box 0 [] 0)), (5, (.dat .bool)), (7, (.dat (.int .i64))), (8, (.dat (.sl G42))), (10, (.dat (.int .i64))), (11, (.dat (.int .i64))), (12, (.dat (.int .i64)))], [(.box (.dat G24))]⟩, fun R n x k => l6_2 x.1.1 x.1.2.2.2.1 x.1.2.2.2.2.1 x.1.2.2.2.2.2.1 x.2.1 (fun y0 => k (.exit 0) ⟨[(5, (.dat .bool x.1.2.2.1)), (11, (.dat (.int .i64) y0))], []⟩) (k .ret ⟨[(4, (.dat .bool false))], []⟩) n x.1.2.2.2.2.2.2.1 x.1.2.2.2.2.2.2.2.1⟩
noncomputable def C6 : Cfg := mkCfg [(11, ⟨[1, 2, 5, 7, 8, 10, 11, 12], [], []⟩), (12, ⟨[1, 2, 5, 7, 8, 10, 11, 12], [], []⟩), (23, ⟨[1, 2, 5, 7, 8, 10, 11, 12, 13, 14, 15], [], []⟩), (24, ⟨[1, 2, 5, 7, 8, 10, 11, 12, 13, 14, 15], [], []⟩)] [(11, (⟨[5, 11], [], []⟩, ⟨[4], [], []⟩)), (23, (⟨[1, 2, 5, 7, 8, 10, 11, 12, 13, 14], [], []⟩, ⟨[4], [], []⟩))] (([(1, L6_1), (0, L6_2)] : List (Nat × LE)).map (·.2))
theorem ek6_1 : EOk (E6) (C6) Try.f6.ntmps (bodyL Try.f6 1) (L6_1) := eok_of (e := L6_1) (fun R x Kn k => s6_1 x.1.1 x.2.1 x.2.2.1 (fun v0 v1 => Kn ((x.1.1, (), x.1.2.2.1, x.1.2.2.2.1, x.1.2.2.2.2.1, x.1.2.2.2.2.2.1, x.1.2.2.2.2.2.2.1, x.1.2.2.2.2.2.2.2.1, (), v0, v1, ()), (x.2.1, x.2.2.1, ()))) (fun y0 => k (.exit 2) ⟨[(1, (.dat (.sl (.int .i64)) x.1.1)), (2, (.box 0 [] 0)), (5, (.dat .bool x.1.2.2.1)), (7, (.dat (.int .i64) x.1.2.2.2.1)), (8, (.dat (.sl G42) x.1.2.2.2.2.1)), (10, (.dat (.int .i64) x.1.2.2.2.2.2.1)), (11, (.dat (.int .i64) x.1.2.2.2.2.2.2.1)), (12, (.dat (.int .i64) x.1.2.2.2.2.2.2.2.1)), (13, (.box 1 [] 0)), (14, (.dat (.int .i64) y0))], [(.box (.dat G24 x.2.1)), (.box (.dat G42 x.2.2.1))]⟩) x.1.2.2.2.2.2.2.2.2.2.1 x.1.2.2.2.2.2.2.2.2.2.2.1) (fun _ _ _ => rfl) (fun _ _ _ _ => rfl) (fun R x Kn k => by kernel_rfl)
theorem ek6_2 : EOk (E6) (C6) Try.f6.ntmps (bodyL Try.f6 0) (L6_2) := eok_of (e := L6_2) (fun R x Kn k => s6_2 x.1.1 x.1.2.2.2.1 x.1.2.2.2.2.1 x.1.2.2.2.2.2.1 x.2.1 (fun v0 v1 => Kn ((x.1.1, (), x.1.2.2.1, x.1.2.2.2.1, x.1.2.2.2.2.1, x.1.2.2.2.2.2.1, v0, v1, ()), (x.2.1, ()))) (fun y0 => k (.exit 0) ⟨[(5, (.dat .bool x.1.2.2.1)), (11, (.dat (.int .i64) y0))], []⟩) (k .ret ⟨[(4, (.dat .bool false))], []⟩) x.1.2.2.2.2.2.2.1 x.1.2.2.2.2.2.2.2.1) (fun _ _ _ => rfl) (fun _ _ _ _ => rfl) (fun R x Kn k => by kernel_rfl)
theorem lm6 : ∀ c, Try.f6.body = some c → LmOk (E6) (C6) Try.f6.ntmps c := lmOk_of (ps := [(1, L6_1), (0, L6_2)]) (by kernel_rfl) (by kernel_rfl) ⟨ek6_1, ek6_2, trivial⟩
noncomputable def m6 (a0 : T24) (a1 : (List Int)) : Option (Bool) :=
  (m8).bind fun r1 =>
  (m9 a0 []).bind fun r2 =>
  bif ((!r2) || ((List.length a1 : Int) != (List.length a0.1 : Int))) then
    some r1
  else
    (m10 a0).bind fun r3 =>
    (bif ((r3.2.2.2.1 != 0) == false) then (m21 a0 a1) else some false).bind fun r4 =>
    bif ((r3.2.2.2.1 != 0) || (!r4)) then
      some r1
    else
      (m22 a0 a1).bind fun r5 =>
      l6_2 a1 r3.2.1 r3.2.2.1 r5 a0 (fun y22 =>
          some (r1 && (y22 == 1))) (
          some false) FUEL 0 0
noncomputable def e6 : PmE := entry 6 [G24, (.sl (.int .i64))] false .bool (fun x => m6 x.1 x.2.1)
noncomputable def V6 (mo8 : Option (Bool)) : Env := mkEnv2 Try.prog [(entry 8 [] false .bool (fun _ => mo8)), e9, e10, e20, e21, e22, e23] []
theorem qv6 (mo8 : Option (Bool)) (x : tyL [G24, (.sl (.int .i64))]) : execF (V6 mo8) C6 Try.f6 (datL [G24, (.sl (.int .i64))] x) [] (retK false .bool) = (fun (a0 : T24) (a1 : (List Int)) =>
  (mo8).bind fun r1 =>
  (m9 a0 []).bind fun r2 =>
  bif ((!r2) || ((List.length a1 : Int) != (List.length a0.1 : Int))) then
    some r1
  else
    (m10 a0).bind fun r3 =>
    (bif ((r3.2.2.2.1 != 0) == false) then (m21 a0 a1) else some false).bind fun r4 =>
    bif ((r3.2.2.2.1 != 0) || (!r4)) then
      some r1
    else
      (m22 a0 a1).bind fun r5 =>
      l6_2 a1 r3.2.1 r3.2.2.1 r5 a0 (fun y22 =>
          some (r1 && (y22 == 1))) (
          some false) FUEL 0 0) x.1 x.2.1 := by kernel_rfl
theorem q6 (x : tyL [G24, (.sl (.int .i64))]) : execF E6 C6 Try.f6 (datL [G24, (.sl (.int .i64))] x) [] (retK false .bool) = m6 x.1 x.2.1 := qv6 m8 x
theorem p6 : PmOk Try.prog e6 := pm_ok (E := E6) ok6 ord lm6 Try.func6 ca6 q6

/-! 7: consol/consollaw40.PlanMore -/
theorem ca7 : callable Try.prog 7 := ⟨Try.f7, Try.func7, by kernel_rfl, by kernel_rfl⟩
noncomputable def E7 : Env := mkEnv2 Try.prog [e8, e9, e10, e16] []
theorem ok7 : EnvOk (E7) := mkEnv2_ok (by simp only [List.mem_cons, List.not_mem_nil, or_false, forall_eq_or_imp, forall_eq]; exact ⟨p8, p9, p10, p16⟩) (by simp)
/-- a round of a loop of consol/consollaw40.PlanMore -/
noncomputable def s7_1 {R : Type} (t27 : Int) (o0 : T24) (kn : Int → (List T42) → Option R) (k1 : (List T42) → Option R) (t29 : Int) (o2 : (List T42)) : Option R :=
  (idx o0.1 t27).bind fun x14 =>
  bif (decide (t29 < (List.length x14 : Int))) then
    (idx o0.1 t27).bind fun x15 =>
    (idx x15 t29).bind fun x16 =>
    asrt true (bounds true (List.length x16.1) 1 (List.length x16.1 : Int)) (
      asrt true (decide (List.length (α := T42) o2 + List.length (α := T42) [((subl x16.1 1 (List.length x16.1 : Int)), x16.2.1, x16.2.2.1, ())] ≤ LIM)) (
        kn (IntKind.i64.wrap (t29 + 1)) (o2 ++ [((subl x16.1 1 (List.length x16.1 : Int)), x16.2.1, x16.2.2.1, ())])))
  else
    k1 o2
noncomputable def l7_1 {R : Type} (t27 : Int) (o0 : T24) (k1 : (List T42) → Option R) : Nat → Int → (List T42) → Option R
  | 0, _, _ => none
  | n + 1, t29, o2 => s7_1 t27 o0 (l7_1 t27 o0 k1 n) k1 t29 o2
noncomputable def L7_1 : LE := ⟨32, 0, ⟨[(4, (.box 0 [] 0)), (9, (.dat .bool)), (11, (.dat (.int .i64))), (26, (.box 1 [] 0)), (27, (.dat (.int .i64))), (28, (.own 2)), (29, (.dat (.int .i64)))], [(.box (.dat G24)), (.box (.agg (.scons (.own 3) (.scons (.dat (.sl (.int .i64))) .snil)))), (.arr G42), (.arr (.sl G42))]⟩, fun R n x k => l7_1 x.1.2.2.2.2.1 x.2.1 (fun y0 => k (.exit 2) ⟨[(4, (.box 0 [] 0)), (9, (.dat .bool x.1.2.1)), (11, (.dat (.int .i64) x.1.2.2.1)), (26, (.box 1 [] 0)), (27, (.dat (.int .i64) x.1.2.2.2.2.1)), (28, (.own 2))], [(.box (.dat G24 x.2.1)), (.box (.agg (.scons (.own 3) (.scons (.dat (.sl (.int .i64)) x.2.2.1.2.1) .snil)))), (.arr G42 y0), (.arr (.sl G42) x.2.2.2.2.1)]⟩) n x.1.2.2.2.2.2.2.1 x.2.2.2.1⟩
/-- a round of a loop of consol/consollaw40.PlanMore -/
noncomputable def s7_2 {R : Type} (o0 : T24) (kn : Int → (List (List T42)) → Option R) (k1 : (List (List T42)) → Option R) (t27 : Int) (o2 : (List (List T42))) : Option R :=
  bif (decide (t27 < (List.length o0.1 : Int))) then
    l7_1 t27 o0 (fun y17 =>
        asrt true (decide (List.length (α := (List T42)) o2 + List.length (α := (List T42)) [y17] ≤ LIM)) (
          kn (IntKind.i64.wrap (t27 + 1)) (o2 ++ [y17]))) FUEL 0 []
  else
    k1 o2
noncomputable def l7_2 {R : Type} (o0 : T24) (k1 : (List (List T42)) → Option R) : Nat → Int → (List (List T42)) → Option R
  | 0, _, _ => none
  | n + 1, t27, o2 => s7_2 o0 (l7_2 o0 k1 n) k1 t27 o2
noncomputable def L7_2 : LE := ⟨28, 0, ⟨[(4, (.box 0 [] 0)), (9, (.dat .bool)), (11, (.dat (.int .i64))), (26, (.box 1 [] 0)), (27, (.dat (.int .i64)))], [(.box (.dat G24)), (.box (.agg (.scons (.own 2) (.scons (.dat (.sl (.int .i64))) .snil)))), (.arr (.sl G42))]⟩, fun R n x k => l7_2 x.2.1 (fun y0 => k (.exit 0) ⟨[(9, (.dat .bool x.1.2.1)), (11, (.dat (.int .i64) x.1.2.2.1)), (26, (.box 0 [] 0))], [(.box (.agg (.scons (.own 1) (.scons (.dat (.sl (.int .i64)) x.2.2.1.2.1) .snil)))), (.arr (.sl G42) y0)]⟩) n x.1.2.2.2.2.1 x.2.2.2.1⟩
noncomputable def C7 : Cfg := mkCfg [(16, ⟨[1, 4, 7, 9, 11], [], []⟩), (28, ⟨[4, 9, 11, 26, 27], [(26, [0], (.sl G42))], []⟩), (32, ⟨[4, 9, 11, 26, 27, 28, 29], [(28, [], G42)], []⟩)] [(28, (⟨[9, 11, 26], [], []⟩, ⟨[8], [], []⟩)), (32, (⟨[4, 9, 11, 26, 27, 28], [], []⟩, ⟨[8], [], []⟩))] (([(1, L7_1), (0, L7_2)] : List (Nat × LE)).map (·.2)) [] [(12, [(14, [], G24)]), (19, [(21, [], G24)]), (36, [(26, [], G24)])]
theorem ek7_1 : EOk (E7) (C7) Try.f7.ntmps (bodyL Try.f7 1) (L7_1) := eok_of (e := L7_1) (fun R x Kn k => s7_1 x.1.2.2.2.2.1 x.2.1 (fun v0 v1 => Kn (((), x.1.2.1, x.1.2.2.1, (), x.1.2.2.2.2.1, (), v0, ()), (x.2.1, ((), x.2.2.1.2.1, ()), v1, x.2.2.2.2.1, ()))) (fun y0 => k (.exit 2) ⟨[(4, (.box 0 [] 0)), (9, (.dat .bool x.1.2.1)), (11, (.dat (.int .i64) x.1.2.2.1)), (26, (.box 1 [] 0)), (27, (.dat (.int .i64) x.1.2.2.2.2.1)), (28, (.own 2))], [(.box (.dat G24 x.2.1)), (.box (.agg (.scons (.own 3) (.scons (.dat (.sl (.int .i64)) x.2.2.1.2.1) .snil)))), (.arr G42 y0), (.arr (.sl G42) x.2.2.2.2.1)]⟩) x.1.2.2.2.2.2.2.1 x.2.2.2.1) (fun _ _ _ => rfl) (fun _ _ _ _ => rfl) (fun R x Kn k => by kernel_rfl)
theorem ek7_2 : EOk (E7) (C7) Try.f7.ntmps (bodyL Try.f7 0) (L7_2) := eok_of (e := L7_2) (fun R x Kn k => s7_2 x.2.1 (fun v0 v1 => Kn (((), x.1.2.1, x.1.2.2.1, (), v0, ()), (x.2.1, ((), x.2.2.1.2.1, ()), v1, ()))) (fun y0 => k (.exit 0) ⟨[(9, (.dat .bool x.1.2.1)), (11, (.dat (.int .i64) x.1.2.2.1)), (26, (.box 0 [] 0))], [(.box (.agg (.scons (.own 1) (.scons (.dat (.sl (.int .i64)) x.2.2.1.2.1) .snil)))), (.arr (.sl G42) y0)]⟩) x.1.2.2.2.2.1 x.2.2.2.1) (fun _ _ _ => rfl) (fun _ _ _ _ => rfl) (fun R x Kn k => by kernel_rfl)
theorem lm7 : ∀ c, Try.f7.body = some c → LmOk (E7) (C7) Try.f7.ntmps c := lmOk_of (ps := [(1, L7_1), (0, L7_2)]) (by kernel_rfl) (by kernel_rfl) ⟨ek7_1, ek7_2, trivial⟩
noncomputable def m7 (a0 : T24) (a1 : Int) (a2 : Int) (a3 : T42) : Option (Bool) :=
  (m8).bind fun r1 =>
  (m9 a0 []).bind fun r2 =>
  bif (!r2) then
    some r1
  else
    (m10 a0).bind fun r3 =>
    bif (r3.2.2.2.1 != 0) then
      some r1
    else
      cont (fun (k7 : Unit → _) =>
        bif ((decide ((List.length a0.2.1 : Int) > 0)) && (decide (a2 ≥ 0))) then
          asrt true ((List.length a0.2.1 : Int) != 0) (
            asrt true (decide (List.length (α := Int) a0.2.1 ≤ LIM)) (
              (idx a0.2.1 (Int.tmod (IntKind.i64.wrap a1) (List.length a0.2.1 : Int))).bind fun x4 =>
              asrt true (decide (0 ≤ (Int.tmod (IntKind.i64.wrap a1) (List.length a0.2.1 : Int))) && decide ((Int.tmod (IntKind.i64.wrap a1) (List.length a0.2.1 : Int)) < (List.length a0.2.1 : Int))) (
                ((a0.2.1)[((Int.tmod (IntKind.i64.wrap a1) (List.length a0.2.1 : Int)) : Int).toNat]?).bind fun x5 =>
                (m10 (a0.1, (List.set a0.2.1 ((Int.tmod (IntKind.i64.wrap a1) (List.length a0.2.1 : Int)) : Int).toNat (bif decide (1000000000000000 < (IntKind.i64.wrap (x4 + (bif decide (1000000000000000 < a2) then 1000000000000000 else a2)))) then 1000000000000000 else (IntKind.i64.wrap (x4 + (bif decide (1000000000000000 < a2) then 1000000000000000 else a2))))), ())).bind fun r6 =>
                bif ((r6.2.2.2.1 != 0) || (decide (r6.2.1 > r3.2.1))) then
                  some false
                else
                  k7 ())))
        else
          k7 ()) fun _ =>
      asrt true ((List.length a0.1 : Int) != 0) (
        asrt true (decide (List.length (α := (List T42)) a0.1 ≤ LIM)) (
          (idx a0.1 (Int.tmod (IntKind.i64.wrap a1) (List.length a0.1 : Int))).bind fun x8 =>
          asrt true (decide (List.length (α := T42) x8 ≤ LIM)) (
            asrt true (decide (List.length (α := T42) x8 + List.length (α := T42) [a3] ≤ LIM)) (
              asrt true (decide (0 ≤ (Int.tmod (IntKind.i64.wrap a1) (List.length a0.1 : Int))) && decide ((Int.tmod (IntKind.i64.wrap a1) (List.length a0.1 : Int)) < (List.length a0.1 : Int))) (
                ((a0.1)[((Int.tmod (IntKind.i64.wrap a1) (List.length a0.1 : Int)) : Int).toNat]?).bind fun x9 =>
                (m10 ((List.set a0.1 ((Int.tmod (IntKind.i64.wrap a1) (List.length a0.1 : Int)) : Int).toNat (x8 ++ [a3])), a0.2.1, ())).bind fun r10 =>
                (m16 ((List.set a0.1 ((Int.tmod (IntKind.i64.wrap a1) (List.length a0.1 : Int)) : Int).toNat (x8 ++ [a3])), a0.2.1, ())).bind fun r11 =>
                bif (r11 && ((r10.2.2.2.1 != 0) || (decide (r10.2.1 > r3.2.1)))) then
                  some false
                else
                  (idx a0.1 0).bind fun x12 =>
                  (idx x12 0).bind fun x13 =>
                  bif (decide ((List.length x13.1 : Int) < 2)) then
                    some r1
                  else
                    l7_2 a0 (fun y18 =>
                        (m10 (y18, a0.2.1, ())).bind fun r19 =>
                        some ((r1 && (r19.2.2.2.1 == 0)) && (decide (r19.2.1 ≤ r3.2.1)))) FUEL 0 [])))))
noncomputable def e7 : PmE := entry 7 [G24, (.int .u8), (.int .i64), G42] false .bool (fun x => m7 x.1 x.2.1 x.2.2.1 x.2.2.2.1)
noncomputable def V7 (mo8 : Option (Bool)) : Env := mkEnv2 Try.prog [(entry 8 [] false .bool (fun _ => mo8)), e9, e10, e16] []
theorem qv7 (mo8 : Option (Bool)) (x : tyL [G24, (.int .u8), (.int .i64), G42]) : execF (V7 mo8) C7 Try.f7 (datL [G24, (.int .u8), (.int .i64), G42] x) [] (retK false .bool) = (fun (a0 : T24) (a1 : Int) (a2 : Int) (a3 : T42) =>
  (mo8).bind fun r1 =>
  (m9 a0 []).bind fun r2 =>
  bif (!r2) then
    some r1
  else
    (m10 a0).bind fun r3 =>
    bif (r3.2.2.2.1 != 0) then
      some r1
    else
      cont (fun (k7 : Unit → _) =>
        bif ((decide ((List.length a0.2.1 : Int) > 0)) && (decide (a2 ≥ 0))) then
          asrt true ((List.length a0.2.1 : Int) != 0) (
            asrt true (decide (List.length (α := Int) a0.2.1 ≤ LIM)) (
              (idx a0.2.1 (Int.tmod (IntKind.i64.wrap a1) (List.length a0.2.1 : Int))).bind fun x4 =>
              asrt true (decide (0 ≤ (Int.tmod (IntKind.i64.wrap a1) (List.length a0.2.1 : Int))) && decide ((Int.tmod (IntKind.i64.wrap a1) (List.length a0.2.1 : Int)) < (List.length a0.2.1 : Int))) (
                ((a0.2.1)[((Int.tmod (IntKind.i64.wrap a1) (List.length a0.2.1 : Int)) : Int).toNat]?).bind fun x5 =>
                (m10 (a0.1, (List.set a0.2.1 ((Int.tmod (IntKind.i64.wrap a1) (List.length a0.2.1 : Int)) : Int).toNat (bif decide (1000000000000000 < (IntKind.i64.wrap (x4 + (bif decide (1000000000000000 < a2) then 1000000000000000 else a2)))) then 1000000000000000 else (IntKind.i64.wrap (x4 + (bif decide (1000000000000000 < a2) then 1000000000000000 else a2))))), ())).bind fun r6 =>
                bif ((r6.2.2.2.1 != 0) || (decide (r6.2.1 > r3.2.1))) then
                  some false
                else
                  k7 ())))
        else
          k7 ()) fun _ =>
      asrt true ((List.length a0.1 : Int) != 0) (
        asrt true (decide (List.length (α := (List T42)) a0.1 ≤ LIM)) (
          (idx a0.1 (Int.tmod (IntKind.i64.wrap a1) (List.length a0.1 : Int))).bind fun x8 =>
          asrt true (decide (List.length (α := T42) x8 ≤ LIM)) (
            asrt true (decide (List.length (α := T42) x8 + List.length (α := T42) [a3] ≤ LIM)) (
              asrt true (decide (0 ≤ (Int.tmod (IntKind.i64.wrap a1) (List.length a0.1 : Int))) && decide ((Int.tmod (IntKind.i64.wrap a1) (List.length a0.1 : Int)) < (List.length a0.1 : Int))) (
                ((a0.1)[((Int.tmod (IntKind.i64.wrap a1) (List.length a0.1 : Int)) : Int).toNat]?).bind fun x9 =>
                (m10 ((List.set a0.1 ((Int.tmod (IntKind.i64.wrap a1) (List.length a0.1 : Int)) : Int).toNat (x8 ++ [a3])), a0.2.1, ())).bind fun r10 =>
                (m16 ((List.set a0.1 ((Int.tmod (IntKind.i64.wrap a1) (List.length a0.1 : Int)) : Int).toNat (x8 ++ [a3])), a0.2.1, ())).bind fun r11 =>
                bif (r11 && ((r10.2.2.2.1 != 0) || (decide (r10.2.1 > r3.2.1)))) then
                  some false
                else
                  (idx a0.1 0).bind fun x12 =>
                  (idx x12 0).bind fun x13 =>
                  bif (decide ((List.length x13.1 : Int) < 2)) then
                    some r1
                  else
                    l7_2 a0 (fun y18 =>
                        (m10 (y18, a0.2.1, ())).bind fun r19 =>
                        some ((r1 && (r19.2.2.2.1 == 0)) && (decide (r19.2.1 ≤ r3.2.1)))) FUEL 0 [])))))) x.1 x.2.1 x.2.2.1 x.2.2.2.1 := by kernel_rfl
theorem q7 (x : tyL [G24, (.int .u8), (.int .i64), G42]) : execF E7 C7 Try.f7 (datL [G24, (.int .u8), (.int .i64), G42] x) [] (retK false .bool) = m7 x.1 x.2.1 x.2.2.1 x.2.2.2.1 := qv7 m8 x
theorem p7 : PmOk Try.prog e7 := pm_ok (E := E7) ok7 ord lm7 Try.func7 ca7 q7

end Go.Proofs.Ytemammdmjpdmpaa
