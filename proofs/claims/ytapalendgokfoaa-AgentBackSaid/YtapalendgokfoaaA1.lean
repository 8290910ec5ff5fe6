/- Models (a trial). -/
import Derived.Test.YtapalendgokfoaaE27
import Derived.Test.YtapalendgokfoaaChecked
import Derived.KernelRfl
namespace Go.Proofs.Ytapalendgokfoaa
open Go Go.Eng
set_option linter.unusedVariables false

/-- x, y, signed, code -/
abbrev G7 : GT := .cons (.int .i64) (.cons (.int .i64) (.cons .bool (.cons (.int .u8) (.nil))))
abbrev T7 : Type := Int × Int × Bool × Int × Unit
/-- msg, addr -/
abbrev G13 : GT := .cons .str (.cons (.int .u64) (.nil))
abbrev T13 : Type := List UInt8 × Int × Unit
/-- Trust, Own, Gone -/
abbrev G22 : GT := .cons (.int .i64) (.cons (.int .i64) (.cons .bool (.nil)))
abbrev T22 : Type := Int × Int × Bool × Unit
/-- purses, in, out, back, earned, spent -/
abbrev G37 : GT := .cons (.sl G22) (.cons (.int .i64) (.cons (.int .i64) (.cons (.int .i64) (.cons (.int .i64) (.cons (.int .i64) (.nil))))))
abbrev T37 : Type := (List T22) × Int × Int × Int × Int × Int × Unit
/-- Kind, Who, To, N -/
abbrev G40 : GT := .cons (.int .i64) (.cons (.int .i64) (.cons (.int .i64) (.cons (.int .i64) (.nil))))
abbrev T40 : Type := Int × Int × Int × Int × Unit

theorem ord : Try.prog.follows .mixedOrders = true := by kernel_rfl

/-! 26: consol/agent.amount -/
noncomputable def E26 : Env := mkEnv2 Try.prog [] []
theorem ok26 : EnvOk E26 := mkEnv2_ok (by simp) (by simp)
theorem ca26 : callable Try.prog 26 := ⟨Try.f26, Try.func26, by kernel_rfl, by kernel_rfl⟩
def m26 (a0 : Int) : Option Bool :=
  some ((decide (a0 ≥ 0)) && (decide (a0 ≤ 1000000000000000)))
noncomputable def e26 : PmE := entry 26 [(.int .i64)] false .bool (fun x => m26 x.1)
theorem q26 (x : tyL [(.int .i64)]) : execF E26 noCfg Try.f26 (datL [(.int .i64)] x) [] (retK false .bool) = m26 x.1 := by kernel_rfl
theorem p26 : PmOk Try.prog e26 := pm_ok (E := E26) ok26 ord (fun _ _ => noCfg_lm) Try.func26 ca26 q26

/-! 20: consol/agent.Right -/
noncomputable def E20 : Env := mkEnv2 Try.prog [e26] []
theorem ok20 : EnvOk E20 := mkEnv2_ok (by simp only [List.mem_cons, List.not_mem_nil, or_false, forall_eq_or_imp, forall_eq]; exact p26) (by simp)
theorem ca20 : callable Try.prog 20 := ⟨Try.f20, Try.func20, by kernel_rfl, by kernel_rfl⟩
def m20 (a0 : T22) : Option Bool :=
  (m26 a0.1).bind fun r1 =>
  (bif (r1 == true) then (m26 a0.2.1) else some false).bind fun r2 =>
  some (r1 && r2)
noncomputable def e20 : PmE := entry 20 [G22] false .bool (fun x => m20 x.1)
theorem q20 (x : tyL [G22]) : execF E20 noCfg Try.f20 (datL [G22] x) [] (retK false .bool) = m20 x.1 := by kernel_rfl
theorem p20 : PmOk Try.prog e20 := pm_ok (E := E20) ok20 ord (fun _ _ => noCfg_lm) Try.func20 ca20 q20

/-! 23: consol/agent.change -/
noncomputable def E23 : Env := mkEnv2 Try.prog [e20, e26] []
theorem ok23 : EnvOk E23 := mkEnv2_ok (by simp only [List.mem_cons, List.not_mem_nil, or_false, forall_eq_or_imp, forall_eq]; exact ⟨p20, p26⟩) (by simp)
theorem ca23 : callable Try.prog 23 := ⟨Try.f23, Try.func23, by kernel_rfl, by kernel_rfl⟩
noncomputable def c23 : CmE := inl E23 noCfg 23 Try.f23
theorem d23 : CmOk Try.prog c23 := inl_ok (E := E23) ok23 ord rfl Try.func23 ca23

/-! 8: consol/agent.Take -/
noncomputable def E8 : Env := mkEnv2 Try.prog [] [c23]
theorem ok8 : EnvOk E8 := mkEnv2_ok (by simp) (by simp only [List.mem_cons, List.not_mem_nil, or_false, forall_eq_or_imp, forall_eq]; exact d23)
theorem ca8 : callable Try.prog 8 := ⟨Try.f8, Try.func8, by kernel_rfl, by kernel_rfl⟩
def m8 (a0 : T22) (a1 : Int) : Option (T22 × (Int × Unit)) :=
  (m20 a0).bind fun r1 =>
  (bif (((!r1) || (a1 == 0)) == false) then (m26 a1) else some false).bind fun r2 =>
  bif (((!r1) || (a1 == 0)) || (!r2)) then
    some (a0, 1, ())
  else
    bif a0.2.2.1 then
      some (a0, 7, ())
    else
      bif (decide ((IntKind.i64.wrap (a0.1 + a1)) > 1000000000000000)) then
        some (a0, 6, ())
      else
        bif (decide ((IntKind.i64.wrap (a0.1 + a1)) < 0)) then
          some (a0, 22, ())
        else
          some (((IntKind.i64.wrap (a0.1 + a1)), a0.2.1, a0.2.2.1, ()), 0, ())
noncomputable def e8 : PmE := entry 8 [G22, (.int .i64)] true (.cons G22 (.cons (.int .i64) .nil)) (fun x => m8 x.1 x.2.1)
theorem q8 (x : tyL [G22, (.int .i64)]) : execF E8 noCfg Try.f8 (datL [G22, (.int .i64)] x) [] (retK true (.cons G22 (.cons (.int .i64) .nil))) = m8 x.1 x.2.1 := by kernel_rfl
theorem p8 : PmOk Try.prog e8 := pm_ok (E := E8) ok8 ord (fun _ _ => noCfg_lm) Try.func8 ca8 q8

/-! 10: consol/agent.Pay -/
noncomputable def E10 : Env := mkEnv2 Try.prog [] [c23]
theorem ok10 : EnvOk E10 := mkEnv2_ok (by simp) (by simp only [List.mem_cons, List.not_mem_nil, or_false, forall_eq_or_imp, forall_eq]; exact d23)
theorem ca10 : callable Try.prog 10 := ⟨Try.f10, Try.func10, by kernel_rfl, by kernel_rfl⟩
def m10 (a0 : T22) (a1 : Int) : Option (T22 × (Int × Unit)) :=
  (m20 a0).bind fun r1 =>
  (bif (((!r1) || (a1 == 0)) == false) then (m26 a1) else some false).bind fun r2 =>
  bif (((!r1) || (a1 == 0)) || (!r2)) then
    some (a0, 1, ())
  else
    bif a0.2.2.1 then
      some (a0, 7, ())
    else
      bif (decide ((IntKind.i64.wrap (a0.1 + (IntKind.i64.wrap (0 - a1)))) > 1000000000000000)) then
        some (a0, 6, ())
      else
        bif (decide ((IntKind.i64.wrap (a0.1 + (IntKind.i64.wrap (0 - a1)))) < 0)) then
          some (a0, 22, ())
        else
          some (((IntKind.i64.wrap (a0.1 + (IntKind.i64.wrap (0 - a1)))), a0.2.1, a0.2.2.1, ()), 0, ())
noncomputable def e10 : PmE := entry 10 [G22, (.int .i64)] true (.cons G22 (.cons (.int .i64) .nil)) (fun x => m10 x.1 x.2.1)
theorem q10 (x : tyL [G22, (.int .i64)]) : execF E10 noCfg Try.f10 (datL [G22, (.int .i64)] x) [] (retK true (.cons G22 (.cons (.int .i64) .nil))) = m10 x.1 x.2.1 := by kernel_rfl
theorem p10 : PmOk Try.prog e10 := pm_ok (E := E10) ok10 ord (fun _ _ => noCfg_lm) Try.func10 ca10 q10

/-! 14: consol/agent.Spend -/
noncomputable def E14 : Env := mkEnv2 Try.prog [] [c23]
theorem ok14 : EnvOk E14 := mkEnv2_ok (by simp) (by simp only [List.mem_cons, List.not_mem_nil, or_false, forall_eq_or_imp, forall_eq]; exact d23)
theorem ca14 : callable Try.prog 14 := ⟨Try.f14, Try.func14, by kernel_rfl, by kernel_rfl⟩
def m14 (a0 : T22) (a1 : Int) : Option (T22 × (Int × Unit)) :=
  (m20 a0).bind fun r1 =>
  (bif (((!r1) || (a1 == 0)) == false) then (m26 a1) else some false).bind fun r2 =>
  bif (((!r1) || (a1 == 0)) || (!r2)) then
    some (a0, 1, ())
  else
    bif a0.2.2.1 then
      some (a0, 7, ())
    else
      bif (decide ((IntKind.i64.wrap (a0.2.1 + (IntKind.i64.wrap (0 - a1)))) > 1000000000000000)) then
        some (a0, 6, ())
      else
        bif (decide ((IntKind.i64.wrap (a0.2.1 + (IntKind.i64.wrap (0 - a1)))) < 0)) then
          some (a0, 22, ())
        else
          some ((a0.1, (IntKind.i64.wrap (a0.2.1 + (IntKind.i64.wrap (0 - a1)))), a0.2.2.1, ()), 0, ())
noncomputable def e14 : PmE := entry 14 [G22, (.int .i64)] true (.cons G22 (.cons (.int .i64) .nil)) (fun x => m14 x.1 x.2.1)
theorem q14 (x : tyL [G22, (.int .i64)]) : execF E14 noCfg Try.f14 (datL [G22, (.int .i64)] x) [] (retK true (.cons G22 (.cons (.int .i64) .nil))) = m14 x.1 x.2.1 := by kernel_rfl
theorem p14 : PmOk Try.prog e14 := pm_ok (E := E14) ok14 ord (fun _ _ => noCfg_lm) Try.func14 ca14 q14

/-! 18: consol/agent.Break -/
noncomputable def E18 : Env := mkEnv2 Try.prog [e20] []
theorem ok18 : EnvOk E18 := mkEnv2_ok (by simp only [List.mem_cons, List.not_mem_nil, or_false, forall_eq_or_imp, forall_eq]; exact p20) (by simp)
theorem ca18 : callable Try.prog 18 := ⟨Try.f18, Try.func18, by kernel_rfl, by kernel_rfl⟩
def m18 (a0 : T22) : Option (T22 × (Int × (Int × Unit))) :=
  (m20 a0).bind fun r1 =>
  bif (!r1) then
    some (a0, 0, 1, ())
  else
    bif a0.2.2.1 then
      some (a0, 0, 7, ())
    else
      some ((0, a0.2.1, true, ()), a0.1, 0, ())
noncomputable def e18 : PmE := entry 18 [G22] true (.cons G22 (.cons (.int .i64) (.cons (.int .i64) .nil))) (fun x => m18 x.1)
theorem q18 (x : tyL [G22]) : execF E18 noCfg Try.f18 (datL [G22] x) [] (retK true (.cons G22 (.cons (.int .i64) (.cons (.int .i64) .nil)))) = m18 x.1 := by kernel_rfl
theorem p18 : PmOk Try.prog e18 := pm_ok (E := E18) ok18 ord (fun _ _ => noCfg_lm) Try.func18 ca18 q18

/-! 12: consol/agent.Earn -/
noncomputable def E12 : Env := mkEnv2 Try.prog [] [c23]
theorem ok12 : EnvOk E12 := mkEnv2_ok (by simp) (by simp only [List.mem_cons, List.not_mem_nil, or_false, forall_eq_or_imp, forall_eq]; exact d23)
theorem ca12 : callable Try.prog 12 := ⟨Try.f12, Try.func12, by kernel_rfl, by kernel_rfl⟩
def m12 (a0 : T22) (a1 : Int) : Option (T22 × (Int × Unit)) :=
  (m20 a0).bind fun r1 =>
  (bif (((!r1) || (a1 == 0)) == false) then (m26 a1) else some false).bind fun r2 =>
  bif (((!r1) || (a1 == 0)) || (!r2)) then
    some (a0, 1, ())
  else
    bif a0.2.2.1 then
      some (a0, 7, ())
    else
      bif (decide ((IntKind.i64.wrap (a0.2.1 + a1)) > 1000000000000000)) then
        some (a0, 6, ())
      else
        bif (decide ((IntKind.i64.wrap (a0.2.1 + a1)) < 0)) then
          some (a0, 22, ())
        else
          some ((a0.1, (IntKind.i64.wrap (a0.2.1 + a1)), a0.2.2.1, ()), 0, ())
noncomputable def e12 : PmE := entry 12 [G22, (.int .i64)] true (.cons G22 (.cons (.int .i64) .nil)) (fun x => m12 x.1 x.2.1)
theorem q12 (x : tyL [G22, (.int .i64)]) : execF E12 noCfg Try.f12 (datL [G22, (.int .i64)] x) [] (retK true (.cons G22 (.cons (.int .i64) .nil))) = m12 x.1 x.2.1 := by kernel_rfl
theorem p12 : PmOk Try.prog e12 := pm_ok (E := E12) ok12 ord (fun _ _ => noCfg_lm) Try.func12 ca12 q12

/-! 7: consol/consollaw46.small -/
noncomputable def E7 : Env := mkEnv2 Try.prog [e8, e10, e14, e18, e12, e20] []
theorem ok7 : EnvOk E7 := mkEnv2_ok (by simp only [List.mem_cons, List.not_mem_nil, or_false, forall_eq_or_imp, forall_eq]; exact ⟨p8, p10, p14, p18, p12, p20⟩) (by simp)
theorem ca7 : callable Try.prog 7 := ⟨Try.f7, Try.func7, by kernel_rfl, by kernel_rfl⟩
def m7  : Option Bool :=
  (m8 (10, 3, false, ()) 5).bind fun r1 =>
  (m10 (10, 3, false, ()) 4).bind fun r2 =>
  (m10 (10, 3, false, ()) 11).bind fun r3 =>
  (m14 (10, 3, false, ()) 4).bind fun r4 =>
  (m18 (10, 3, false, ())).bind fun r5 =>
  (m12 r5.1 1).bind fun r6 =>
  (bif (((((((((((r1.1.1 == 15) && (r1.2.1 == 0)) && (r2.1.1 == 6)) && (r2.2.1 == 0)) && (r3.2.1 == 22)) && (r4.2.1 == 22)) && ((r5.1.1 == 0) && ((r5.1.2.1 == 3) && ((r5.1.2.2.1 == true) && true)))) && (r5.2.1 == 10)) && (r5.2.2.1 == 0)) && (r6.2.1 == 7)) == true) then (m20 (10, 3, false, ())) else some false).bind fun r7 =>
  some (((((((((((r1.1.1 == 15) && (r1.2.1 == 0)) && (r2.1.1 == 6)) && (r2.2.1 == 0)) && (r3.2.1 == 22)) && (r4.2.1 == 22)) && ((r5.1.1 == 0) && ((r5.1.2.1 == 3) && ((r5.1.2.2.1 == true) && true)))) && (r5.2.1 == 10)) && (r5.2.2.1 == 0)) && (r6.2.1 == 7)) && r7)
noncomputable def e7 : PmE := entry 7 [] false .bool (fun x => m7 )
theorem q7 (x : tyL []) : execF E7 noCfg Try.f7 (datL [] x) [] (retK false .bool) = m7  := by kernel_rfl
theorem p7 : PmOk Try.prog e7 := pm_ok (E := E7) ok7 ord (fun _ _ => noCfg_lm) Try.func7 ca7 q7

/-! 27: consol/consolref46.in -/
noncomputable def E27 : Env := mkEnv2 Try.prog [] []
theorem ok27 : EnvOk E27 := mkEnv2_ok (by simp) (by simp)
theorem ca27 : callable Try.prog 27 := ⟨Try.f27, Try.func27, by kernel_rfl, by kernel_rfl⟩
def m27 (a0 : Int) (a1 : Int) (a2 : Int) : Option Bool :=
  some ((decide (a0 ≥ a1)) && (decide (a0 ≤ a2)))
noncomputable def e27 : PmE := entry 27 [(.int .i64), (.int .i64), (.int .i64)] false .bool (fun x => m27 x.1 x.2.1 x.2.2.1)
theorem q27 (x : tyL [(.int .i64), (.int .i64), (.int .i64)]) : execF E27 noCfg Try.f27 (datL [(.int .i64), (.int .i64), (.int .i64)] x) [] (retK false .bool) = m27 x.1 x.2.1 x.2.2.1 := by kernel_rfl
theorem p27 : PmOk Try.prog e27 := pm_ok (E := E27) ok27 ord (fun _ _ => noCfg_lm) Try.func27 ca27 q27

/-! 21: consol/consolref46.Right -/
noncomputable def E21 : Env := mkEnv2 Try.prog [e27] []
theorem ok21 : EnvOk E21 := mkEnv2_ok (by simp only [List.mem_cons, List.not_mem_nil, or_false, forall_eq_or_imp, forall_eq]; exact p27) (by simp)
theorem ca21 : callable Try.prog 21 := ⟨Try.f21, Try.func21, by kernel_rfl, by kernel_rfl⟩
def m21 (a0 : T22) : Option Bool :=
  (m27 a0.1 0 1000000000000000).bind fun r1 =>
  (bif (r1 == true) then (m27 a0.2.1 0 1000000000000000) else some false).bind fun r2 =>
  some (r1 && r2)
noncomputable def e21 : PmE := entry 21 [G22] false .bool (fun x => m21 x.1)
theorem q21 (x : tyL [G22]) : execF E21 noCfg Try.f21 (datL [G22] x) [] (retK false .bool) = m21 x.1 := by kernel_rfl
theorem p21 : PmOk Try.prog e21 := pm_ok (E := E21) ok21 ord (fun _ _ => noCfg_lm) Try.func21 ca21 q21

/-! 28: consol/consolref46.can -/
noncomputable def E28 : Env := mkEnv2 Try.prog [e21, e27] []
theorem ok28 : EnvOk E28 := mkEnv2_ok (by simp only [List.mem_cons, List.not_mem_nil, or_false, forall_eq_or_imp, forall_eq]; exact ⟨p21, p27⟩) (by simp)
theorem ca28 : callable Try.prog 28 := ⟨Try.f28, Try.func28, by kernel_rfl, by kernel_rfl⟩
def m28 (a0 : T22) (a1 : Int) : Option Int :=
  (m21 a0).bind fun r1 =>
  (bif ((!r1) == false) then (m27 a1 1 1000000000000000) else some false).bind fun r2 =>
  bif ((!r1) || (!r2)) then
    some 1
  else
    bif a0.2.2.1 then
      some 7
    else
      some 0
noncomputable def e28 : PmE := entry 28 [G22, (.int .i64)] false (.int .i64) (fun x => m28 x.1 x.2.1)
theorem q28 (x : tyL [G22, (.int .i64)]) : execF E28 noCfg Try.f28 (datL [G22, (.int .i64)] x) [] (retK false (.int .i64)) = m28 x.1 x.2.1 := by kernel_rfl
theorem p28 : PmOk Try.prog e28 := pm_ok (E := E28) ok28 ord (fun _ _ => noCfg_lm) Try.func28 ca28 q28

/-! 29: consol/consolref46.changed -/
noncomputable def E29 : Env := mkEnv2 Try.prog [] []
theorem ok29 : EnvOk E29 := mkEnv2_ok (by simp) (by simp)
theorem ca29 : callable Try.prog 29 := ⟨Try.f29, Try.func29, by kernel_rfl, by kernel_rfl⟩
def m29 (a0 : Int) (a1 : Int) : Option (Int × (Int × Unit)) :=
  bif (decide ((IntKind.i64.wrap (a0 + a1)) > 1000000000000000)) then
    some (a0, 6, ())
  else
    bif (decide ((IntKind.i64.wrap (a0 + a1)) < 0)) then
      some (a0, 22, ())
    else
      some ((IntKind.i64.wrap (a0 + a1)), 0, ())
noncomputable def e29 : PmE := entry 29 [(.int .i64), (.int .i64)] true (.cons (.int .i64) (.cons (.int .i64) .nil)) (fun x => m29 x.1 x.2.1)
theorem q29 (x : tyL [(.int .i64), (.int .i64)]) : execF E29 noCfg Try.f29 (datL [(.int .i64), (.int .i64)] x) [] (retK true (.cons (.int .i64) (.cons (.int .i64) .nil))) = m29 x.1 x.2.1 := by kernel_rfl
theorem p29 : PmOk Try.prog e29 := pm_ok (E := E29) ok29 ord (fun _ _ => noCfg_lm) Try.func29 ca29 q29

/-! 24: consol/consolref46.trust -/
noncomputable def E24 : Env := mkEnv2 Try.prog [e28, e29] []
theorem ok24 : EnvOk E24 := mkEnv2_ok (by simp only [List.mem_cons, List.not_mem_nil, or_false, forall_eq_or_imp, forall_eq]; exact ⟨p28, p29⟩) (by simp)
theorem ca24 : callable Try.prog 24 := ⟨Try.f24, Try.func24, by kernel_rfl, by kernel_rfl⟩
def m24 (a0 : T22) (a1 : Int) (a2 : Int) : Option (T22 × (Int × Unit)) :=
  (m28 a0 a1).bind fun r1 =>
  bif (r1 != 0) then
    some (a0, r1, ())
  else
    (m29 a0.1 a2).bind fun r2 =>
    some ((r2.1, a0.2.1, a0.2.2.1, ()), r2.2.1, ())
noncomputable def e24 : PmE := entry 24 [G22, (.int .i64), (.int .i64)] true (.cons G22 (.cons (.int .i64) .nil)) (fun x => m24 x.1 x.2.1 x.2.2.1)
theorem q24 (x : tyL [G22, (.int .i64), (.int .i64)]) : execF E24 noCfg Try.f24 (datL [G22, (.int .i64), (.int .i64)] x) [] (retK true (.cons G22 (.cons (.int .i64) .nil))) = m24 x.1 x.2.1 x.2.2.1 := by kernel_rfl
theorem p24 : PmOk Try.prog e24 := pm_ok (E := E24) ok24 ord (fun _ _ => noCfg_lm) Try.func24 ca24 q24

/-! 9: consol/consolref46.Take -/
noncomputable def E9 : Env := mkEnv2 Try.prog [e24] []
theorem ok9 : EnvOk E9 := mkEnv2_ok (by simp only [List.mem_cons, List.not_mem_nil, or_false, forall_eq_or_imp, forall_eq]; exact p24) (by simp)
theorem ca9 : callable Try.prog 9 := ⟨Try.f9, Try.func9, by kernel_rfl, by kernel_rfl⟩
def m9 (a0 : T22) (a1 : Int) : Option (T22 × (Int × Unit)) :=
  (m24 a0 a1 a1).bind fun r1 =>
  some (r1.1, r1.2.1, ())
noncomputable def e9 : PmE := entry 9 [G22, (.int .i64)] true (.cons G22 (.cons (.int .i64) .nil)) (fun x => m9 x.1 x.2.1)
theorem q9 (x : tyL [G22, (.int .i64)]) : execF E9 noCfg Try.f9 (datL [G22, (.int .i64)] x) [] (retK true (.cons G22 (.cons (.int .i64) .nil))) = m9 x.1 x.2.1 := by kernel_rfl
theorem p9 : PmOk Try.prog e9 := pm_ok (E := E9) ok9 ord (fun _ _ => noCfg_lm) Try.func9 ca9 q9

/-! 11: consol/consolref46.Pay -/
noncomputable def E11 : Env := mkEnv2 Try.prog [e24] []
theorem ok11 : EnvOk E11 := mkEnv2_ok (by simp only [List.mem_cons, List.not_mem_nil, or_false, forall_eq_or_imp, forall_eq]; exact p24) (by simp)
theorem ca11 : callable Try.prog 11 := ⟨Try.f11, Try.func11, by kernel_rfl, by kernel_rfl⟩
def m11 (a0 : T22) (a1 : Int) : Option (T22 × (Int × Unit)) :=
  (m24 a0 a1 (IntKind.i64.wrap (0 - a1))).bind fun r1 =>
  some (r1.1, r1.2.1, ())
noncomputable def e11 : PmE := entry 11 [G22, (.int .i64)] true (.cons G22 (.cons (.int .i64) .nil)) (fun x => m11 x.1 x.2.1)
theorem q11 (x : tyL [G22, (.int .i64)]) : execF E11 noCfg Try.f11 (datL [G22, (.int .i64)] x) [] (retK true (.cons G22 (.cons (.int .i64) .nil))) = m11 x.1 x.2.1 := by kernel_rfl
theorem p11 : PmOk Try.prog e11 := pm_ok (E := E11) ok11 ord (fun _ _ => noCfg_lm) Try.func11 ca11 q11

/-! 25: consol/consolref46.own -/
noncomputable def E25 : Env := mkEnv2 Try.prog [e28, e29] []
theorem ok25 : EnvOk E25 := mkEnv2_ok (by simp only [List.mem_cons, List.not_mem_nil, or_false, forall_eq_or_imp, forall_eq]; exact ⟨p28, p29⟩) (by simp)
theorem ca25 : callable Try.prog 25 := ⟨Try.f25, Try.func25, by kernel_rfl, by kernel_rfl⟩
def m25 (a0 : T22) (a1 : Int) (a2 : Int) : Option (T22 × (Int × Unit)) :=
  (m28 a0 a1).bind fun r1 =>
  bif (r1 != 0) then
    some (a0, r1, ())
  else
    (m29 a0.2.1 a2).bind fun r2 =>
    some ((a0.1, r2.1, a0.2.2.1, ()), r2.2.1, ())
noncomputable def e25 : PmE := entry 25 [G22, (.int .i64), (.int .i64)] true (.cons G22 (.cons (.int .i64) .nil)) (fun x => m25 x.1 x.2.1 x.2.2.1)
theorem q25 (x : tyL [G22, (.int .i64), (.int .i64)]) : execF E25 noCfg Try.f25 (datL [G22, (.int .i64), (.int .i64)] x) [] (retK true (.cons G22 (.cons (.int .i64) .nil))) = m25 x.1 x.2.1 x.2.2.1 := by kernel_rfl
theorem p25 : PmOk Try.prog e25 := pm_ok (E := E25) ok25 ord (fun _ _ => noCfg_lm) Try.func25 ca25 q25

/-! 13: consol/consolref46.Earn -/
noncomputable def E13 : Env := mkEnv2 Try.prog [e25] []
theorem ok13 : EnvOk E13 := mkEnv2_ok (by simp only [List.mem_cons, List.not_mem_nil, or_false, forall_eq_or_imp, forall_eq]; exact p25) (by simp)
theorem ca13 : callable Try.prog 13 := ⟨Try.f13, Try.func13, by kernel_rfl, by kernel_rfl⟩
def m13 (a0 : T22) (a1 : Int) : Option (T22 × (Int × Unit)) :=
  (m25 a0 a1 a1).bind fun r1 =>
  some (r1.1, r1.2.1, ())
noncomputable def e13 : PmE := entry 13 [G22, (.int .i64)] true (.cons G22 (.cons (.int .i64) .nil)) (fun x => m13 x.1 x.2.1)
theorem q13 (x : tyL [G22, (.int .i64)]) : execF E13 noCfg Try.f13 (datL [G22, (.int .i64)] x) [] (retK true (.cons G22 (.cons (.int .i64) .nil))) = m13 x.1 x.2.1 := by kernel_rfl
theorem p13 : PmOk Try.prog e13 := pm_ok (E := E13) ok13 ord (fun _ _ => noCfg_lm) Try.func13 ca13 q13

/-! 15: consol/consolref46.Spend -/
noncomputable def E15 : Env := mkEnv2 Try.prog [e25] []
theorem ok15 : EnvOk E15 := mkEnv2_ok (by simp only [List.mem_cons, List.not_mem_nil, or_false, forall_eq_or_imp, forall_eq]; exact p25) (by simp)
theorem ca15 : callable Try.prog 15 := ⟨Try.f15, Try.func15, by kernel_rfl, by kernel_rfl⟩
def m15 (a0 : T22) (a1 : Int) : Option (T22 × (Int × Unit)) :=
  (m25 a0 a1 (IntKind.i64.wrap (0 - a1))).bind fun r1 =>
  some (r1.1, r1.2.1, ())
noncomputable def e15 : PmE := entry 15 [G22, (.int .i64)] true (.cons G22 (.cons (.int .i64) .nil)) (fun x => m15 x.1 x.2.1)
theorem q15 (x : tyL [G22, (.int .i64)]) : execF E15 noCfg Try.f15 (datL [G22, (.int .i64)] x) [] (retK true (.cons G22 (.cons (.int .i64) .nil))) = m15 x.1 x.2.1 := by kernel_rfl
theorem p15 : PmOk Try.prog e15 := pm_ok (E := E15) ok15 ord (fun _ _ => noCfg_lm) Try.func15 ca15 q15

/-! 16: consol/agent.Pass -/
noncomputable def E16 : Env := mkEnv2 Try.prog [e10, e8] []
theorem ok16 : EnvOk E16 := mkEnv2_ok (by simp only [List.mem_cons, List.not_mem_nil, or_false, forall_eq_or_imp, forall_eq]; exact ⟨p10, p8⟩) (by simp)
theorem ca16 : callable Try.prog 16 := ⟨Try.f16, Try.func16, by kernel_rfl, by kernel_rfl⟩
def m16 (a0 : T22) (a1 : T22) (a2 : Int) : Option (T22 × (T22 × (Int × Unit))) :=
  (m10 a0 a2).bind fun r1 =>
  bif (r1.2.1 != 0) then
    some (a0, a1, r1.2.1, ())
  else
    (m8 a1 a2).bind fun r2 =>
    bif (r2.2.1 != 0) then
      some (a0, a1, r2.2.1, ())
    else
      some (r1.1, r2.1, 0, ())
noncomputable def e16 : PmE := entry 16 [G22, G22, (.int .i64)] true (.cons G22 (.cons G22 (.cons (.int .i64) .nil))) (fun x => m16 x.1 x.2.1 x.2.2.1)
theorem q16 (x : tyL [G22, G22, (.int .i64)]) : execF E16 noCfg Try.f16 (datL [G22, G22, (.int .i64)] x) [] (retK true (.cons G22 (.cons G22 (.cons (.int .i64) .nil)))) = m16 x.1 x.2.1 x.2.2.1 := by kernel_rfl
theorem p16 : PmOk Try.prog e16 := pm_ok (E := E16) ok16 ord (fun _ _ => noCfg_lm) Try.func16 ca16 q16

/-! 17: consol/consolref46.Pass -/
noncomputable def E17 : Env := mkEnv2 Try.prog [e11, e9] []
theorem ok17 : EnvOk E17 := mkEnv2_ok (by simp only [List.mem_cons, List.not_mem_nil, or_false, forall_eq_or_imp, forall_eq]; exact ⟨p11, p9⟩) (by simp)
theorem ca17 : callable Try.prog 17 := ⟨Try.f17, Try.func17, by kernel_rfl, by kernel_rfl⟩
def m17 (a0 : T22) (a1 : T22) (a2 : Int) : Option (T22 × (T22 × (Int × Unit))) :=
  (m11 a0 a2).bind fun r1 =>
  bif (r1.2.1 != 0) then
    some (a0, a1, r1.2.1, ())
  else
    (m9 a1 a2).bind fun r2 =>
    bif (r2.2.1 != 0) then
      some (a0, a1, r2.2.1, ())
    else
      some (r1.1, r2.1, 0, ())
noncomputable def e17 : PmE := entry 17 [G22, G22, (.int .i64)] true (.cons G22 (.cons G22 (.cons (.int .i64) .nil))) (fun x => m17 x.1 x.2.1 x.2.2.1)
theorem q17 (x : tyL [G22, G22, (.int .i64)]) : execF E17 noCfg Try.f17 (datL [G22, G22, (.int .i64)] x) [] (retK true (.cons G22 (.cons G22 (.cons (.int .i64) .nil)))) = m17 x.1 x.2.1 x.2.2.1 := by kernel_rfl
theorem p17 : PmOk Try.prog e17 := pm_ok (E := E17) ok17 ord (fun _ _ => noCfg_lm) Try.func17 ca17 q17

/-! 19: consol/consolref46.Break -/
noncomputable def E19 : Env := mkEnv2 Try.prog [e21] []
theorem ok19 : EnvOk E19 := mkEnv2_ok (by simp only [List.mem_cons, List.not_mem_nil, or_false, forall_eq_or_imp, forall_eq]; exact p21) (by simp)
theorem ca19 : callable Try.prog 19 := ⟨Try.f19, Try.func19, by kernel_rfl, by kernel_rfl⟩
def m19 (a0 : T22) : Option (T22 × (Int × (Int × Unit))) :=
  (m21 a0).bind fun r1 =>
  bif (!r1) then
    some (a0, 0, 1, ())
  else
    bif a0.2.2.1 then
      some (a0, 0, 7, ())
    else
      some ((0, a0.2.1, true, ()), a0.1, 0, ())
noncomputable def e19 : PmE := entry 19 [G22] true (.cons G22 (.cons (.int .i64) (.cons (.int .i64) .nil))) (fun x => m19 x.1)
theorem q19 (x : tyL [G22]) : execF E19 noCfg Try.f19 (datL [G22] x) [] (retK true (.cons G22 (.cons (.int .i64) (.cons (.int .i64) .nil)))) = m19 x.1 := by kernel_rfl
theorem p19 : PmOk Try.prog e19 := pm_ok (E := E19) ok19 ord (fun _ _ => noCfg_lm) Try.func19 ca19 q19

/-! 3: consol/consollaw46.AgentTells -/
noncomputable def E3 : Env := mkEnv2 Try.prog [e7, e8, e9, e10, e11, e12, e13, e14, e15, e16, e17, e18, e19, e20, e21] []
theorem ok3 : EnvOk E3 := mkEnv2_ok (by simp only [List.mem_cons, List.not_mem_nil, or_false, forall_eq_or_imp, forall_eq]; exact ⟨p7, p8, p9, p10, p11, p12, p13, p14, p15, p16, p17, p18, p19, p20, p21⟩) (by simp)
theorem ca3 : callable Try.prog 3 := ⟨Try.f3, Try.func3, by kernel_rfl, by kernel_rfl⟩
def m3 (a0 : T22) (a1 : T22) (a2 : Int) : Option Bool :=
  (m7).bind fun r1 =>
  (m8 a0 a2).bind fun r2 =>
  (m9 a0 a2).bind fun r3 =>
  (m10 a0 a2).bind fun r4 =>
  (m11 a0 a2).bind fun r5 =>
  bif ((((!((r2.1.1 == r3.1.1) && ((r2.1.2.1 == r3.1.2.1) && ((r2.1.2.2.1 == r3.1.2.2.1) && true)))) || (r2.2.1 != r3.2.1)) || (!((r4.1.1 == r5.1.1) && ((r4.1.2.1 == r5.1.2.1) && ((r4.1.2.2.1 == r5.1.2.2.1) && true))))) || (r4.2.1 != r5.2.1)) then
    some false
  else
    (m12 a0 a2).bind fun r6 =>
    (m13 a0 a2).bind fun r7 =>
    (m14 a0 a2).bind fun r8 =>
    (m15 a0 a2).bind fun r9 =>
    bif ((((!((r6.1.1 == r7.1.1) && ((r6.1.2.1 == r7.1.2.1) && ((r6.1.2.2.1 == r7.1.2.2.1) && true)))) || (r6.2.1 != r7.2.1)) || (!((r8.1.1 == r9.1.1) && ((r8.1.2.1 == r9.1.2.1) && ((r8.1.2.2.1 == r9.1.2.2.1) && true))))) || (r8.2.1 != r9.2.1)) then
      some false
    else
      (m16 a0 a1 a2).bind fun r10 =>
      (m17 a0 a1 a2).bind fun r11 =>
      bif (((!((r10.1.1 == r11.1.1) && ((r10.1.2.1 == r11.1.2.1) && ((r10.1.2.2.1 == r11.1.2.2.1) && true)))) || (!((r10.2.1.1 == r11.2.1.1) && ((r10.2.1.2.1 == r11.2.1.2.1) && ((r10.2.1.2.2.1 == r11.2.1.2.2.1) && true))))) || (r10.2.2.1 != r11.2.2.1)) then
        some false
      else
        (m18 a0).bind fun r12 =>
        (m19 a0).bind fun r13 =>
        (bif ((((r1 && ((r12.1.1 == r13.1.1) && ((r12.1.2.1 == r13.1.2.1) && ((r12.1.2.2.1 == r13.1.2.2.1) && true)))) && (r12.2.1 == r13.2.1)) && (r12.2.2.1 == r13.2.2.1)) == true) then (m20 a0) else some false).bind fun r14 =>
        (bif ((((r1 && ((r12.1.1 == r13.1.1) && ((r12.1.2.1 == r13.1.2.1) && ((r12.1.2.2.1 == r13.1.2.2.1) && true)))) && (r12.2.1 == r13.2.1)) && (r12.2.2.1 == r13.2.2.1)) == true) then (m21 a0) else some false).bind fun r15 =>
        some ((((r1 && ((r12.1.1 == r13.1.1) && ((r12.1.2.1 == r13.1.2.1) && ((r12.1.2.2.1 == r13.1.2.2.1) && true)))) && (r12.2.1 == r13.2.1)) && (r12.2.2.1 == r13.2.2.1)) && (r14 == r15))
noncomputable def e3 : PmE := entry 3 [G22, G22, (.int .i64)] false .bool (fun x => m3 x.1 x.2.1 x.2.2.1)
theorem q3 (x : tyL [G22, G22, (.int .i64)]) : execF E3 noCfg Try.f3 (datL [G22, G22, (.int .i64)] x) [] (retK false .bool) = m3 x.1 x.2.1 x.2.2.1 := by kernel_rfl
theorem p3 : PmOk Try.prog e3 := pm_ok (E := E3) ok3 ord (fun _ _ => noCfg_lm) Try.func3 ca3 q3

/-! 5: consol/consollaw46.AgentBack -/
noncomputable def E5 : Env := mkEnv2 Try.prog [e7, e20, e8, e10, e12, e14, e16] []
theorem ok5 : EnvOk E5 := mkEnv2_ok (by simp only [List.mem_cons, List.not_mem_nil, or_false, forall_eq_or_imp, forall_eq]; exact ⟨p7, p20, p8, p10, p12, p14, p16⟩) (by simp)
theorem ca5 : callable Try.prog 5 := ⟨Try.f5, Try.func5, by kernel_rfl, by kernel_rfl⟩
def m5 (a0 : T22) (a1 : T22) (a2 : Int) (a3 : Int) : Option Bool :=
  (m7).bind fun r1 =>
  (m20 a0).bind fun r2 =>
  (bif ((!r2) == false) then (m20 a1) else some false).bind fun r3 =>
  bif ((((((!r2) || (!r3)) || (decide (a2 < 1))) || (decide (a2 > 1000000000000000))) || (decide (a3 < 1))) || (decide (a3 > (IntKind.i64.wrap (1000000000000000 - a2))))) then
    some r1
  else
    (m8 a0 a2).bind fun r4 =>
    bif (r4.2.1 == 0) then
      (m10 r4.1 a2).bind fun r5 =>
      (m8 r4.1 a3).bind fun r6 =>
      (m8 a0 (IntKind.i64.wrap (a2 + a3))).bind fun r7 =>
      bif ((((r5.2.1 != 0) || (!((r5.1.1 == a0.1) && ((r5.1.2.1 == a0.2.1) && ((r5.1.2.2.1 == a0.2.2.1) && true))))) || (r6.2.1 != r7.2.1)) || ((r6.2.1 == 0) && (!((r6.1.1 == r7.1.1) && ((r6.1.2.1 == r7.1.2.1) && ((r6.1.2.2.1 == r7.1.2.2.1) && true)))))) then
        some false
      else
        (m12 a0 a2).bind fun r8 =>
        bif (r8.2.1 == 0) then
          (m14 r8.1 a2).bind fun r9 =>
          bif (((r9.2.1 != 0) || (!((r9.1.1 == a0.1) && ((r9.1.2.1 == a0.2.1) && ((r9.1.2.2.1 == a0.2.2.1) && true))))) || (r8.1.1 != a0.1)) then
            some false
          else
            (m16 a0 a1 a2).bind fun r10 =>
            bif (r10.2.2.1 == 0) then
              (m16 r10.2.1 r10.1 a2).bind fun r11 =>
              bif ((((((r11.2.2.1 != 0) || (!((r11.1.1 == a1.1) && ((r11.1.2.1 == a1.2.1) && ((r11.1.2.2.1 == a1.2.2.1) && true))))) || (!((r11.2.1.1 == a0.1) && ((r11.2.1.2.1 == a0.2.1) && ((r11.2.1.2.2.1 == a0.2.2.1) && true))))) || ((IntKind.i64.wrap (r10.1.1 + r10.2.1.1)) != (IntKind.i64.wrap (a0.1 + a1.1)))) || (r10.1.2.1 != a0.2.1)) || (r10.2.1.2.1 != a1.2.1)) then
                some false
              else
                some r1
            else
              some r1
        else
          (m16 a0 a1 a2).bind fun r12 =>
          bif (r12.2.2.1 == 0) then
            (m16 r12.2.1 r12.1 a2).bind fun r13 =>
            bif ((((((r13.2.2.1 != 0) || (!((r13.1.1 == a1.1) && ((r13.1.2.1 == a1.2.1) && ((r13.1.2.2.1 == a1.2.2.1) && true))))) || (!((r13.2.1.1 == a0.1) && ((r13.2.1.2.1 == a0.2.1) && ((r13.2.1.2.2.1 == a0.2.2.1) && true))))) || ((IntKind.i64.wrap (r12.1.1 + r12.2.1.1)) != (IntKind.i64.wrap (a0.1 + a1.1)))) || (r12.1.2.1 != a0.2.1)) || (r12.2.1.2.1 != a1.2.1)) then
              some false
            else
              some r1
          else
            some r1
    else
      (m12 a0 a2).bind fun r14 =>
      bif (r14.2.1 == 0) then
        (m14 r14.1 a2).bind fun r15 =>
        bif (((r15.2.1 != 0) || (!((r15.1.1 == a0.1) && ((r15.1.2.1 == a0.2.1) && ((r15.1.2.2.1 == a0.2.2.1) && true))))) || (r14.1.1 != a0.1)) then
          some false
        else
          (m16 a0 a1 a2).bind fun r16 =>
          bif (r16.2.2.1 == 0) then
            (m16 r16.2.1 r16.1 a2).bind fun r17 =>
            bif ((((((r17.2.2.1 != 0) || (!((r17.1.1 == a1.1) && ((r17.1.2.1 == a1.2.1) && ((r17.1.2.2.1 == a1.2.2.1) && true))))) || (!((r17.2.1.1 == a0.1) && ((r17.2.1.2.1 == a0.2.1) && ((r17.2.1.2.2.1 == a0.2.2.1) && true))))) || ((IntKind.i64.wrap (r16.1.1 + r16.2.1.1)) != (IntKind.i64.wrap (a0.1 + a1.1)))) || (r16.1.2.1 != a0.2.1)) || (r16.2.1.2.1 != a1.2.1)) then
              some false
            else
              some r1
          else
            some r1
      else
        (m16 a0 a1 a2).bind fun r18 =>
        bif (r18.2.2.1 == 0) then
          (m16 r18.2.1 r18.1 a2).bind fun r19 =>
          bif ((((((r19.2.2.1 != 0) || (!((r19.1.1 == a1.1) && ((r19.1.2.1 == a1.2.1) && ((r19.1.2.2.1 == a1.2.2.1) && true))))) || (!((r19.2.1.1 == a0.1) && ((r19.2.1.2.1 == a0.2.1) && ((r19.2.1.2.2.1 == a0.2.2.1) && true))))) || ((IntKind.i64.wrap (r18.1.1 + r18.2.1.1)) != (IntKind.i64.wrap (a0.1 + a1.1)))) || (r18.1.2.1 != a0.2.1)) || (r18.2.1.2.1 != a1.2.1)) then
            some false
          else
            some r1
        else
          some r1
noncomputable def e5 : PmE := entry 5 [G22, G22, (.int .i64), (.int .i64)] false .bool (fun x => m5 x.1 x.2.1 x.2.2.1 x.2.2.2.1)
theorem q5 (x : tyL [G22, G22, (.int .i64), (.int .i64)]) : execF E5 noCfg Try.f5 (datL [G22, G22, (.int .i64), (.int .i64)] x) [] (retK false .bool) = m5 x.1 x.2.1 x.2.2.1 x.2.2.2.1 := by kernel_rfl
theorem p5 : PmOk Try.prog e5 := pm_ok (E := E5) ok5 ord (fun _ _ => noCfg_lm) Try.func5 ca5 q5

/-! 6: consol/consollaw46.AgentGone -/
noncomputable def E6 : Env := mkEnv2 Try.prog [e7, e20, e18, e8, e10, e12, e14, e16] []
theorem ok6 : EnvOk E6 := mkEnv2_ok (by simp only [List.mem_cons, List.not_mem_nil, or_false, forall_eq_or_imp, forall_eq]; exact ⟨p7, p20, p18, p8, p10, p12, p14, p16⟩) (by simp)
theorem ca6 : callable Try.prog 6 := ⟨Try.f6, Try.func6, by kernel_rfl, by kernel_rfl⟩
def m6 (a0 : T22) (a1 : T22) (a2 : Int) : Option Bool :=
  (m7).bind fun r1 =>
  (m20 a0).bind fun r2 =>
  (bif ((!r2) == false) then (m20 a1) else some false).bind fun r3 =>
  bif ((((!r2) || (!r3)) || (decide (a2 < 1))) || (decide (a2 > 1000000000000000))) then
    some r1
  else
    (m18 a0).bind fun r4 =>
    bif a0.2.2.1 then
      some (((r1 && (r4.2.2.1 == 7)) && ((r4.1.1 == a0.1) && ((r4.1.2.1 == a0.2.1) && ((r4.1.2.2.1 == a0.2.2.1) && true)))) && (r4.2.1 == 0))
    else
      bif (((((r4.2.2.1 != 0) || (!r4.1.2.2.1)) || (r4.1.1 != 0)) || (r4.1.2.1 != a0.2.1)) || (r4.2.1 != a0.1)) then
        some false
      else
        (m8 r4.1 a2).bind fun r5 =>
        (m10 r4.1 a2).bind fun r6 =>
        (m12 r4.1 a2).bind fun r7 =>
        (m14 r4.1 a2).bind fun r8 =>
        (m16 r4.1 a1 a2).bind fun r9 =>
        (m18 r4.1).bind fun r10 =>
        (m16 a1 r4.1 a2).bind fun r11 =>
        some ((((((((((r1 && (((((((r5.2.1 == 7) && (r6.2.1 == 7)) && (r7.2.1 == 7)) && (r8.2.1 == 7)) && (r9.2.2.1 == 7)) && (r10.2.2.1 == 7)) && (r10.2.1 == 0))) && ((r5.1.1 == r4.1.1) && ((r5.1.2.1 == r4.1.2.1) && ((r5.1.2.2.1 == r4.1.2.2.1) && true)))) && ((r6.1.1 == r4.1.1) && ((r6.1.2.1 == r4.1.2.1) && ((r6.1.2.2.1 == r4.1.2.2.1) && true)))) && ((r7.1.1 == r4.1.1) && ((r7.1.2.1 == r4.1.2.1) && ((r7.1.2.2.1 == r4.1.2.2.1) && true)))) && ((r8.1.1 == r4.1.1) && ((r8.1.2.1 == r4.1.2.1) && ((r8.1.2.2.1 == r4.1.2.2.1) && true)))) && ((r9.1.1 == r4.1.1) && ((r9.1.2.1 == r4.1.2.1) && ((r9.1.2.2.1 == r4.1.2.2.1) && true)))) && ((r9.2.1.1 == a1.1) && ((r9.2.1.2.1 == a1.2.1) && ((r9.2.1.2.2.1 == a1.2.2.1) && true)))) && (r11.2.2.1 != 0)) && ((r11.1.1 == a1.1) && ((r11.1.2.1 == a1.2.1) && ((r11.1.2.2.1 == a1.2.2.1) && true)))) && ((r11.2.1.1 == r4.1.1) && ((r11.2.1.2.1 == r4.1.2.1) && ((r11.2.1.2.2.1 == r4.1.2.2.1) && true))))
noncomputable def e6 : PmE := entry 6 [G22, G22, (.int .i64)] false .bool (fun x => m6 x.1 x.2.1 x.2.2.1)
theorem q6 (x : tyL [G22, G22, (.int .i64)]) : execF E6 noCfg Try.f6 (datL [G22, G22, (.int .i64)] x) [] (retK false .bool) = m6 x.1 x.2.1 x.2.2.1 := by kernel_rfl
theorem p6 : PmOk Try.prog e6 := pm_ok (E := E6) ok6 ord (fun _ _ => noCfg_lm) Try.func6 ca6 q6


end Go.Proofs.Ytapalendgokfoaa
