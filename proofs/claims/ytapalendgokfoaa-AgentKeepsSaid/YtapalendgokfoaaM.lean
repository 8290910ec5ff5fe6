/- Models of the functions that the statements reach. -/
import Derived.Test.YtapalendgokfoaaE32
import Derived.Test.YtapalendgokfoaaChecked
import Derived.KernelRfl
namespace Go.Proofs.Ytapalendgokfoaa
open Go Go.Eng
set_option linter.unusedVariables false

/-- x, y, signed, code -/
abbrev G7 : GT := .cons (.int .i64) (.cons (.int .i64) (.cons .bool (.cons (.int .u8) (.nil))))
abbrev T7 : Type := Int × Int × Bool × Int × Unit
/-- msg, addr -/
abbrev G13 : GT := .cons .str (.cons (.int .u64) (.nil))
abbrev T13 : Type := (List UInt8) × Int × Unit
/-- Trust, Own, Gone -/
abbrev G22 : GT := .cons (.int .i64) (.cons (.int .i64) (.cons .bool (.nil)))
abbrev T22 : Type := Int × Int × Bool × Unit
/-- purses, in, out, back, earned, spent -/
abbrev G37 : GT := .cons (.sl G22) (.cons (.int .i64) (.cons (.int .i64) (.cons (.int .i64) (.cons (.int .i64) (.cons (.int .i64) (.nil))))))
abbrev T37 : Type := (List T22) × Int × Int × Int × Int × Int × Unit
/-- Kind, Who, To, N -/
abbrev G40 : GT := .cons (.int .i64) (.cons (.int .i64) (.cons (.int .i64) (.cons (.int .i64) (.nil))))
abbrev T40 : Type := Int × Int × Int × Int × Unit

theorem ord : Try.prog.follows .mixedOrders = true := by kernel_rfl

/-! 26: consol/agent.amount -/
theorem ca26 : callable Try.prog 26 := ⟨Try.f26, Try.func26, by kernel_rfl, by kernel_rfl⟩
noncomputable def E26 : Env := mkEnv2 Try.prog [] []
theorem ok26 : EnvOk E26 := mkEnv2_ok (by simp) (by simp)
noncomputable def C26 : Cfg := noCfg
theorem lm26 : ∀ c, Try.f26.body = some c → LmOk E26 C26 Try.f26.ntmps c := fun _ _ => noCfg_lm
noncomputable def m26 (a0 : Int) : Option (Bool) :=
  some ((decide (a0 ≥ 0)) && (decide (a0 ≤ 1000000000000000)))
noncomputable def e26 : PmE := entry 26 [(.int .i64)] false .bool (fun x => m26 x.1)
theorem q26 (x : tyL [(.int .i64)]) : execF E26 C26 Try.f26 (datL [(.int .i64)] x) [] (retK false .bool) = m26 x.1 := by kernel_rfl
theorem p26 : PmOk Try.prog e26 := pm_ok (E := E26) ok26 ord lm26 Try.func26 ca26 q26

/-! 20: consol/agent.Right -/
theorem ca20 : callable Try.prog 20 := ⟨Try.f20, Try.func20, by kernel_rfl, by kernel_rfl⟩
noncomputable def E20 : Env := mkEnv2 Try.prog [e26] []
theorem ok20 : EnvOk E20 := mkEnv2_ok (by simp only [List.mem_cons, List.not_mem_nil, or_false, forall_eq]; exact p26) (by simp)
noncomputable def C20 : Cfg := noCfg
theorem lm20 : ∀ c, Try.f20.body = some c → LmOk E20 C20 Try.f20.ntmps c := fun _ _ => noCfg_lm
noncomputable def m20 (a0 : T22) : Option (Bool) :=
  (m26 a0.1).bind fun r1 =>
  (bif (r1 == true) then (m26 a0.2.1) else some false).bind fun r2 =>
  some (r1 && r2)
noncomputable def e20 : PmE := entry 20 [G22] false .bool (fun x => m20 x.1)
theorem q20 (x : tyL [G22]) : execF E20 C20 Try.f20 (datL [G22] x) [] (retK false .bool) = m20 x.1 := by kernel_rfl
theorem p20 : PmOk Try.prog e20 := pm_ok (E := E20) ok20 ord lm20 Try.func20 ca20 q20

/-! 8: consol/agent.Take -/
theorem ca23 : callable Try.prog 23 := ⟨Try.f23, Try.func23, by kernel_rfl, by kernel_rfl⟩
noncomputable def E8i23 : Env := mkEnv2 Try.prog [e20, e26] []
theorem ok8i23 : EnvOk E8i23 := mkEnv2_ok (by simp only [List.mem_cons, List.not_mem_nil, or_false, forall_eq_or_imp, forall_eq]; exact ⟨p20, p26⟩) (by simp)
noncomputable def C8i23 : Cfg := noCfg
theorem lm8i23 : ∀ c, Try.f23.body = some c → LmOk E8i23 C8i23 Try.f23.ntmps c := fun _ _ => noCfg_lm
noncomputable def c8i23 : CmE := inl E8i23 C8i23 23 Try.f23
theorem d8i23 : CmOk Try.prog c8i23 := inl_ok (E := E8i23) ok8i23 ord lm8i23 Try.func23 ca23

theorem ca8 : callable Try.prog 8 := ⟨Try.f8, Try.func8, by kernel_rfl, by kernel_rfl⟩
noncomputable def E8 : Env := mkEnv2 Try.prog [] [c8i23]
theorem ok8 : EnvOk E8 := mkEnv2_ok (by simp) (by simp only [List.mem_cons, List.not_mem_nil, or_false, forall_eq]; exact d8i23)
noncomputable def C8 : Cfg := noCfg
theorem lm8 : ∀ c, Try.f8.body = some c → LmOk E8 C8 Try.f8.ntmps c := fun _ _ => noCfg_lm
noncomputable def m8 (a0 : T22) (a1 : Int) : Option ((T22 × (Int × Unit))) :=
  (m20 a0).bind fun r1 =>
  (bif (((!r1) || (a1 == 0)) == false) then (m26 a1) else some false).bind fun r2 =>
  bif (((!r1) || (a1 == 0)) || (!r2)) then
    some (a0, 1, ())
  else
    bif a0.2.2.1 then
      some (a0, 7, ())
    else
      bif (decide ((IntKind.i64.wrap (a0.1 + a1)) > 1000000000000000)) then
        some (a0, 6, ())
      else
        bif (decide ((IntKind.i64.wrap (a0.1 + a1)) < 0)) then
          some (a0, 22, ())
        else
          some (((IntKind.i64.wrap (a0.1 + a1)), a0.2.1, a0.2.2.1, ()), 0, ())
noncomputable def e8 : PmE := entry 8 [G22, (.int .i64)] true (.cons G22 (.cons (.int .i64) .nil)) (fun x => m8 x.1 x.2.1)
theorem q8 (x : tyL [G22, (.int .i64)]) : execF E8 C8 Try.f8 (datL [G22, (.int .i64)] x) [] (retK true (.cons G22 (.cons (.int .i64) .nil))) = m8 x.1 x.2.1 := by kernel_rfl
theorem p8 : PmOk Try.prog e8 := pm_ok (E := E8) ok8 ord lm8 Try.func8 ca8 q8

/-! 10: consol/agent.Pay -/
theorem ca10 : callable Try.prog 10 := ⟨Try.f10, Try.func10, by kernel_rfl, by kernel_rfl⟩
noncomputable def E10 : Env := mkEnv2 Try.prog [] [c8i23]
theorem ok10 : EnvOk E10 := mkEnv2_ok (by simp) (by simp only [List.mem_cons, List.not_mem_nil, or_false, forall_eq]; exact d8i23)
noncomputable def C10 : Cfg := noCfg
theorem lm10 : ∀ c, Try.f10.body = some c → LmOk E10 C10 Try.f10.ntmps c := fun _ _ => noCfg_lm
noncomputable def m10 (a0 : T22) (a1 : Int) : Option ((T22 × (Int × Unit))) :=
  (m20 a0).bind fun r1 =>
  (bif (((!r1) || (a1 == 0)) == false) then (m26 a1) else some false).bind fun r2 =>
  bif (((!r1) || (a1 == 0)) || (!r2)) then
    some (a0, 1, ())
  else
    bif a0.2.2.1 then
      some (a0, 7, ())
    else
      bif (decide ((IntKind.i64.wrap (a0.1 + (IntKind.i64.wrap (0 - a1)))) > 1000000000000000)) then
        some (a0, 6, ())
      else
        bif (decide ((IntKind.i64.wrap (a0.1 + (IntKind.i64.wrap (0 - a1)))) < 0)) then
          some (a0, 22, ())
        else
          some (((IntKind.i64.wrap (a0.1 + (IntKind.i64.wrap (0 - a1)))), a0.2.1, a0.2.2.1, ()), 0, ())
noncomputable def e10 : PmE := entry 10 [G22, (.int .i64)] true (.cons G22 (.cons (.int .i64) .nil)) (fun x => m10 x.1 x.2.1)
theorem q10 (x : tyL [G22, (.int .i64)]) : execF E10 C10 Try.f10 (datL [G22, (.int .i64)] x) [] (retK true (.cons G22 (.cons (.int .i64) .nil))) = m10 x.1 x.2.1 := by kernel_rfl
theorem p10 : PmOk Try.prog e10 := pm_ok (E := E10) ok10 ord lm10 Try.func10 ca10 q10

/-! 14: consol/agent.Spend -/
theorem ca14 : callable Try.prog 14 := ⟨Try.f14, Try.func14, by kernel_rfl, by kernel_rfl⟩
noncomputable def E14 : Env := mkEnv2 Try.prog [] [c8i23]
theorem ok14 : EnvOk E14 := mkEnv2_ok (by simp) (by simp only [List.mem_cons, List.not_mem_nil, or_false, forall_eq]; exact d8i23)
noncomputable def C14 : Cfg := noCfg
theorem lm14 : ∀ c, Try.f14.body = some c → LmOk E14 C14 Try.f14.ntmps c := fun _ _ => noCfg_lm
noncomputable def m14 (a0 : T22) (a1 : Int) : Option ((T22 × (Int × Unit))) :=
  (m20 a0).bind fun r1 =>
  (bif (((!r1) || (a1 == 0)) == false) then (m26 a1) else some false).bind fun r2 =>
  bif (((!r1) || (a1 == 0)) || (!r2)) then
    some (a0, 1, ())
  else
    bif a0.2.2.1 then
      some (a0, 7, ())
    else
      bif (decide ((IntKind.i64.wrap (a0.2.1 + (IntKind.i64.wrap (0 - a1)))) > 1000000000000000)) then
        some (a0, 6, ())
      else
        bif (decide ((IntKind.i64.wrap (a0.2.1 + (IntKind.i64.wrap (0 - a1)))) < 0)) then
          some (a0, 22, ())
        else
          some ((a0.1, (IntKind.i64.wrap (a0.2.1 + (IntKind.i64.wrap (0 - a1)))), a0.2.2.1, ()), 0, ())
noncomputable def e14 : PmE := entry 14 [G22, (.int .i64)] true (.cons G22 (.cons (.int .i64) .nil)) (fun x => m14 x.1 x.2.1)
theorem q14 (x : tyL [G22, (.int .i64)]) : execF E14 C14 Try.f14 (datL [G22, (.int .i64)] x) [] (retK true (.cons G22 (.cons (.int .i64) .nil))) = m14 x.1 x.2.1 := by kernel_rfl
theorem p14 : PmOk Try.prog e14 := pm_ok (E := E14) ok14 ord lm14 Try.func14 ca14 q14

/-! 18: consol/agent.Break -/
theorem ca18 : callable Try.prog 18 := ⟨Try.f18, Try.func18, by kernel_rfl, by kernel_rfl⟩
noncomputable def E18 : Env := mkEnv2 Try.prog [e20] []
theorem ok18 : EnvOk E18 := mkEnv2_ok (by simp only [List.mem_cons, List.not_mem_nil, or_false, forall_eq]; exact p20) (by simp)
noncomputable def C18 : Cfg := noCfg
theorem lm18 : ∀ c, Try.f18.body = some c → LmOk E18 C18 Try.f18.ntmps c := fun _ _ => noCfg_lm
noncomputable def m18 (a0 : T22) : Option ((T22 × (Int × (Int × Unit)))) :=
  (m20 a0).bind fun r1 =>
  bif (!r1) then
    some (a0, 0, 1, ())
  else
    bif a0.2.2.1 then
      some (a0, 0, 7, ())
    else
      some ((0, a0.2.1, true, ()), a0.1, 0, ())
noncomputable def e18 : PmE := entry 18 [G22] true (.cons G22 (.cons (.int .i64) (.cons (.int .i64) .nil))) (fun x => m18 x.1)
theorem q18 (x : tyL [G22]) : execF E18 C18 Try.f18 (datL [G22] x) [] (retK true (.cons G22 (.cons (.int .i64) (.cons (.int .i64) .nil)))) = m18 x.1 := by kernel_rfl
theorem p18 : PmOk Try.prog e18 := pm_ok (E := E18) ok18 ord lm18 Try.func18 ca18 q18

/-! 12: consol/agent.Earn -/
theorem ca12 : callable Try.prog 12 := ⟨Try.f12, Try.func12, by kernel_rfl, by kernel_rfl⟩
noncomputable def E12 : Env := mkEnv2 Try.prog [] [c8i23]
theorem ok12 : EnvOk E12 := mkEnv2_ok (by simp) (by simp only [List.mem_cons, List.not_mem_nil, or_false, forall_eq]; exact d8i23)
noncomputable def C12 : Cfg := noCfg
theorem lm12 : ∀ c, Try.f12.body = some c → LmOk E12 C12 Try.f12.ntmps c := fun _ _ => noCfg_lm
noncomputable def m12 (a0 : T22) (a1 : Int) : Option ((T22 × (Int × Unit))) :=
  (m20 a0).bind fun r1 =>
  (bif (((!r1) || (a1 == 0)) == false) then (m26 a1) else some false).bind fun r2 =>
  bif (((!r1) || (a1 == 0)) || (!r2)) then
    some (a0, 1, ())
  else
    bif a0.2.2.1 then
      some (a0, 7, ())
    else
      bif (decide ((IntKind.i64.wrap (a0.2.1 + a1)) > 1000000000000000)) then
        some (a0, 6, ())
      else
        bif (decide ((IntKind.i64.wrap (a0.2.1 + a1)) < 0)) then
          some (a0, 22, ())
        else
          some ((a0.1, (IntKind.i64.wrap (a0.2.1 + a1)), a0.2.2.1, ()), 0, ())
noncomputable def e12 : PmE := entry 12 [G22, (.int .i64)] true (.cons G22 (.cons (.int .i64) .nil)) (fun x => m12 x.1 x.2.1)
theorem q12 (x : tyL [G22, (.int .i64)]) : execF E12 C12 Try.f12 (datL [G22, (.int .i64)] x) [] (retK true (.cons G22 (.cons (.int .i64) .nil))) = m12 x.1 x.2.1 := by kernel_rfl
theorem p12 : PmOk Try.prog e12 := pm_ok (E := E12) ok12 ord lm12 Try.func12 ca12 q12

/-! 7: consol/consollaw46.small -/
theorem ca7 : callable Try.prog 7 := ⟨Try.f7, Try.func7, by kernel_rfl, by kernel_rfl⟩
noncomputable def E7 : Env := mkEnv2 Try.prog [e8, e10, e12, e14, e18, e20] []
theorem ok7 : EnvOk E7 := mkEnv2_ok (by simp only [List.mem_cons, List.not_mem_nil, or_false, forall_eq_or_imp, forall_eq]; exact ⟨p8, p10, p12, p14, p18, p20⟩) (by simp)
noncomputable def C7 : Cfg := noCfg
theorem lm7 : ∀ c, Try.f7.body = some c → LmOk E7 C7 Try.f7.ntmps c := fun _ _ => noCfg_lm
noncomputable def m7  : Option (Bool) :=
  (m8 (10, 3, false, ()) 5).bind fun r1 =>
  (m10 (10, 3, false, ()) 4).bind fun r2 =>
  (m10 (10, 3, false, ()) 11).bind fun r3 =>
  (m14 (10, 3, false, ()) 4).bind fun r4 =>
  (m18 (10, 3, false, ())).bind fun r5 =>
  (m12 r5.1 1).bind fun r6 =>
  (bif (((((((((((r1.1.1 == 15) && (r1.2.1 == 0)) && (r2.1.1 == 6)) && (r2.2.1 == 0)) && (r3.2.1 == 22)) && (r4.2.1 == 22)) && ((r5.1.1 == 0) && ((r5.1.2.1 == 3) && ((r5.1.2.2.1 == true) && true)))) && (r5.2.1 == 10)) && (r5.2.2.1 == 0)) && (r6.2.1 == 7)) == true) then (m20 (10, 3, false, ())) else some false).bind fun r7 =>
  some (((((((((((r1.1.1 == 15) && (r1.2.1 == 0)) && (r2.1.1 == 6)) && (r2.2.1 == 0)) && (r3.2.1 == 22)) && (r4.2.1 == 22)) && ((r5.1.1 == 0) && ((r5.1.2.1 == 3) && ((r5.1.2.2.1 == true) && true)))) && (r5.2.1 == 10)) && (r5.2.2.1 == 0)) && (r6.2.1 == 7)) && r7)
noncomputable def e7 : PmE := entry 7 [] false .bool (fun x => m7 )
theorem q7 (x : tyL []) : execF E7 C7 Try.f7 (datL [] x) [] (retK false .bool) = m7  := by kernel_rfl
theorem p7 : PmOk Try.prog e7 := pm_ok (E := E7) ok7 ord lm7 Try.func7 ca7 q7

/-! 16: consol/agent.Pass -/
theorem ca16 : callable Try.prog 16 := ⟨Try.f16, Try.func16, by kernel_rfl, by kernel_rfl⟩
noncomputable def E16 : Env := mkEnv2 Try.prog [e8, e10] []
theorem ok16 : EnvOk E16 := mkEnv2_ok (by simp only [List.mem_cons, List.not_mem_nil, or_false, forall_eq_or_imp, forall_eq]; exact ⟨p8, p10⟩) (by simp)
noncomputable def C16 : Cfg := noCfg
theorem lm16 : ∀ c, Try.f16.body = some c → LmOk E16 C16 Try.f16.ntmps c := fun _ _ => noCfg_lm
noncomputable def m16 (a0 : T22) (a1 : T22) (a2 : Int) : Option ((T22 × (T22 × (Int × Unit)))) :=
  (m10 a0 a2).bind fun r1 =>
  bif (r1.2.1 != 0) then
    some (a0, a1, r1.2.1, ())
  else
    (m8 a1 a2).bind fun r2 =>
    bif (r2.2.1 != 0) then
      some (a0, a1, r2.2.1, ())
    else
      some (r1.1, r2.1, 0, ())
noncomputable def e16 : PmE := entry 16 [G22, G22, (.int .i64)] true (.cons G22 (.cons G22 (.cons (.int .i64) .nil))) (fun x => m16 x.1 x.2.1 x.2.2.1)
theorem q16 (x : tyL [G22, G22, (.int .i64)]) : execF E16 C16 Try.f16 (datL [G22, G22, (.int .i64)] x) [] (retK true (.cons G22 (.cons G22 (.cons (.int .i64) .nil)))) = m16 x.1 x.2.1 x.2.2.1 := by kernel_rfl
theorem p16 : PmOk Try.prog e16 := pm_ok (E := E16) ok16 ord lm16 Try.func16 ca16 q16

/-! 4: consol/consollaw46.AgentKeeps -/
theorem ca22 : callable Try.prog 22 := ⟨Try.f22, Try.func22, by kernel_rfl, by kernel_rfl⟩
noncomputable def E4i22 : Env := mkEnv2 Try.prog [e8, e10, e12, e14, e16, e18] []
theorem ok4i22 : EnvOk E4i22 := mkEnv2_ok (by simp only [List.mem_cons, List.not_mem_nil, or_false, forall_eq_or_imp, forall_eq]; exact ⟨p8, p10, p12, p14, p16, p18⟩) (by simp)
noncomputable def C4i22 : Cfg := mkCfg [(38, ⟨[0, 3, 5, 6, 7], []⟩)] [] (([] : List (Nat × LE)).map (·.2))
theorem lm4i22 : ∀ c, Try.f22.body = some c → LmOk E4i22 C4i22 Try.f22.ntmps c := lmOk_of (ps := []) (by kernel_rfl) (by kernel_rfl) trivial
noncomputable def c4i22 : CmE := inl E4i22 C4i22 22 Try.f22
theorem d4i22 : CmOk Try.prog c4i22 := inl_ok (E := E4i22) ok4i22 ord lm4i22 Try.func22 ca22

theorem ca4 : callable Try.prog 4 := ⟨Try.f4, Try.func4, by kernel_rfl, by kernel_rfl⟩
noncomputable def E4 : Env := mkEnv2 Try.prog [e7, e20] [c4i22]
theorem ok4 : EnvOk E4 := mkEnv2_ok (by simp only [List.mem_cons, List.not_mem_nil, or_false, forall_eq_or_imp, forall_eq]; exact ⟨p7, p20⟩) (by simp only [List.mem_cons, List.not_mem_nil, or_false, forall_eq]; exact d4i22)
/-- a round of a loop of consol/consollaw46.AgentKeeps -/
noncomputable def s4_1 {R : Type} (o1 : (List T22)) (kn : Int → Int → Int → Option R) (k1 : Int → Int → Option R) (k2 : Option R) (t7 : Int) (t8 : Int) (t9 : Int) : Option R :=
  bif (decide (t9 < (List.length o1 : Int))) then
    asrt true (decide (0 ≤ t9) && decide (t9 < (List.length o1 : Int))) (
      ((o1)[(t9 : Int).toNat]?).bind fun x3 =>
      (m20 x3).bind fun r4 =>
      bif ((!r4) || (x3.2.2.1 && (x3.1 != 0))) then
        k2
      else
        kn (IntKind.i64.wrap (t7 + x3.1)) (IntKind.i64.wrap (t8 + x3.2.1)) (IntKind.i64.wrap (t9 + 1)))
  else
    k1 t7 t8
noncomputable def l4_1 {R : Type} (o1 : (List T22)) (k1 : Int → Int → Option R) (k2 : Option R) : Nat → Int → Int → Int → Option R
  | 0, _, _, _ => none
  | n + 1, t7, t8, t9 => s4_1 o1 (l4_1 o1 k1 k2 n) k1 k2 t7 t8 t9
noncomputable def L4_1 : LE := ⟨13, 0, ⟨[(0, (.dat (.sl G40))), (3, (.dat .bool)), (4, (.box 0 [] 0)), (5, (.dat (.int .i64))), (6, (.dat .bool)), (7, (.dat (.int .i64))), (8, (.dat (.int .i64))), (9, (.dat (.int .i64)))], [(.box (.agg (.scons (.own 1) (.scons (.dat (.int .i64)) (.scons (.dat (.int .i64)) (.scons (.dat (.int .i64)) (.scons (.dat (.int .i64)) (.scons (.dat (.int .i64)) .snil)))))))), (.arr G22)]⟩, fun R n x k => l4_1 x.2.2.1 (fun y0 y1 => k (.exit 2) ⟨[(0, (.dat (.sl G40) x.1.1)), (3, (.dat .bool x.1.2.1)), (4, (.box 0 [] 0)), (5, (.dat (.int .i64) x.1.2.2.2.1)), (6, (.dat .bool x.1.2.2.2.2.1)), (7, (.dat (.int .i64) y0)), (8, (.dat (.int .i64) y1))], [(.box (.agg (.scons (.own 1) (.scons (.dat (.int .i64) x.2.1.2.1) (.scons (.dat (.int .i64) x.2.1.2.2.1) (.scons (.dat (.int .i64) x.2.1.2.2.2.1) (.scons (.dat (.int .i64) x.2.1.2.2.2.2.1) (.scons (.dat (.int .i64) x.2.1.2.2.2.2.2.1) .snil)))))))), (.arr G22 x.2.2.1)]⟩) (k .ret ⟨[(2, (.dat .bool false))], []⟩) n x.1.2.2.2.2.2.1 x.1.2.2.2.2.2.2.1 x.1.2.2.2.2.2.2.2.1⟩
/-- a round of a loop of consol/consollaw46.AgentKeeps -/
noncomputable def s4_2 {R : Type} (t0 : (List T40)) (kn : Int → Int → Int → Int → Int → Int → (List T22) → Option R) (k1 : Option R) (k2 : Option R) (t5 : Int) (o0 : Int) (o0_2 : Int) (o0_3 : Int) (o0_4 : Int) (o0_5 : Int) (o1 : (List T22)) : Option R :=
  bif (decide (t5 < (List.length t0 : Int))) then
    (idx t0 t5).bind fun x2 =>
    bif ((((decide (x2.2.1 < 0)) || (decide (x2.2.1 ≥ (List.length o1 : Int)))) || (decide (x2.2.2.1 < 0))) || (decide (x2.2.2.1 ≥ (List.length o1 : Int)))) then
      l4_1 o1 (fun y5 y6 =>
          bif ((o0 != (IntKind.i64.wrap ((IntKind.i64.wrap (o0_2 + o0_3)) + y5))) || (o0_4 != (IntKind.i64.wrap (o0_5 + y6)))) then
            k2
          else
            kn (IntKind.i64.wrap (t5 + 1)) o0 o0_2 o0_3 o0_4 o0_5 o1) (
          k2) FUEL 0 0 0
    else
      asrt true (decide (0 ≤ x2.2.1) && decide (x2.2.1 < (List.length o1 : Int))) (
        ((o1)[(x2.2.1 : Int).toNat]?).bind fun x7 =>
        cont (fun (k21 : (Int × Int × Int × Int × Int × Int × (List T22) × T22) → _) =>
          bif (x2.1 == 0) then
            (m8 x7 x2.2.2.2.1).bind fun r8 =>
            bif (r8.2.1 == 0) then
              k21 (r8.2.1, (IntKind.i64.wrap (o0 + x2.2.2.2.1)), o0_2, o0_3, o0_4, o0_5, o1, r8.1)
            else
              k21 (r8.2.1, o0, o0_2, o0_3, o0_4, o0_5, o1, r8.1)
          else
            bif (x2.1 == 1) then
              (m10 x7 x2.2.2.2.1).bind fun r9 =>
              bif (r9.2.1 == 0) then
                k21 (r9.2.1, o0, (IntKind.i64.wrap (o0_2 + x2.2.2.2.1)), o0_3, o0_4, o0_5, o1, r9.1)
              else
                k21 (r9.2.1, o0, o0_2, o0_3, o0_4, o0_5, o1, r9.1)
            else
              bif (x2.1 == 2) then
                (m12 x7 x2.2.2.2.1).bind fun r10 =>
                bif (r10.2.1 == 0) then
                  k21 (r10.2.1, o0, o0_2, o0_3, (IntKind.i64.wrap (o0_4 + x2.2.2.2.1)), o0_5, o1, r10.1)
                else
                  k21 (r10.2.1, o0, o0_2, o0_3, o0_4, o0_5, o1, r10.1)
              else
                bif (x2.1 == 3) then
                  (m14 x7 x2.2.2.2.1).bind fun r11 =>
                  bif (r11.2.1 == 0) then
                    k21 (r11.2.1, o0, o0_2, o0_3, o0_4, (IntKind.i64.wrap (o0_5 + x2.2.2.2.1)), o1, r11.1)
                  else
                    k21 (r11.2.1, o0, o0_2, o0_3, o0_4, o0_5, o1, r11.1)
                else
                  bif (x2.1 == 4) then
                    bif (x2.2.1 == x2.2.2.1) then
                      l4_1 o1 (fun y12 y13 =>
                          bif ((o0 != (IntKind.i64.wrap ((IntKind.i64.wrap (o0_2 + o0_3)) + y12))) || (o0_4 != (IntKind.i64.wrap (o0_5 + y13)))) then
                            k2
                          else
                            kn (IntKind.i64.wrap (t5 + 1)) o0 o0_2 o0_3 o0_4 o0_5 o1) (
                          k2) FUEL 0 0 0
                    else
                      asrt true (decide (0 ≤ x2.2.2.1) && decide (x2.2.2.1 < (List.length o1 : Int))) (
                        ((o1)[(x2.2.2.1 : Int).toNat]?).bind fun x14 =>
                        (m16 x7 x14 x2.2.2.2.1).bind fun r15 =>
                        asrt ((r15.2.2.1 != 0) == true) (decide (0 ≤ x2.2.2.1) && decide (x2.2.2.1 < (List.length o1 : Int))) (
                          ((bif ((r15.2.2.1 != 0) == true) then (o1)[(x2.2.2.1 : Int).toNat]? else some (0, 0, false, ()))).bind fun x16 =>
                          bif ((r15.2.2.1 != 0) && (!((r15.2.1.1 == x16.1) && ((r15.2.1.2.1 == x16.2.1) && ((r15.2.1.2.2.1 == x16.2.2.1) && true))))) then
                            l4_1 o1 (fun y17 y18 =>
                                k2) (
                                k2) FUEL 0 0 0
                          else
                            asrt true (decide (0 ≤ x2.2.2.1) && decide (x2.2.2.1 < (List.length o1 : Int))) (
                              ((o1)[(x2.2.2.1 : Int).toNat]?).bind fun x19 =>
                              k21 (r15.2.2.1, o0, o0_2, o0_3, o0_4, o0_5, (List.set o1 (x2.2.2.1 : Int).toNat r15.2.1), r15.1))))
                  else
                    bif (x2.1 == 5) then
                      (m18 x7).bind fun r20 =>
                      k21 (r20.2.2.1, o0, o0_2, (IntKind.i64.wrap (o0_3 + r20.2.1)), o0_4, o0_5, o1, r20.1)
                    else
                      k21 (0, o0, o0_2, o0_3, o0_4, o0_5, o1, x7)) fun y21 =>
        asrt true (decide (0 ≤ x2.2.1) && decide (x2.2.1 < (List.length y21.2.2.2.2.2.2.1 : Int))) (
          ((y21.2.2.2.2.2.2.1)[(x2.2.1 : Int).toNat]?).bind fun x22 =>
          l4_1 (List.set y21.2.2.2.2.2.2.1 (x2.2.1 : Int).toNat y21.2.2.2.2.2.2.2) (fun y23 y24 =>
              bif (((!((y21.1 == 0) || ((y21.2.2.2.2.2.2.2.1 == x7.1) && ((y21.2.2.2.2.2.2.2.2.1 == x7.2.1) && ((y21.2.2.2.2.2.2.2.2.2.1 == x7.2.2.1) && true))))) || (y21.2.1 != (IntKind.i64.wrap ((IntKind.i64.wrap (y21.2.2.1 + y21.2.2.2.1)) + y23)))) || (y21.2.2.2.2.1 != (IntKind.i64.wrap (y21.2.2.2.2.2.1 + y24)))) then
                k2
              else
                kn (IntKind.i64.wrap (t5 + 1)) y21.2.1 y21.2.2.1 y21.2.2.2.1 y21.2.2.2.2.1 y21.2.2.2.2.2.1 (List.set y21.2.2.2.2.2.2.1 (x2.2.1 : Int).toNat y21.2.2.2.2.2.2.2)) (
              k2) FUEL 0 0 0))
  else
    k1
noncomputable def l4_2 {R : Type} (t0 : (List T40)) (k1 : Option R) (k2 : Option R) : Nat → Int → Int → Int → Int → Int → Int → (List T22) → Option R
  | 0, _, _, _, _, _, _, _ => none
  | n + 1, t5, o0, o0_2, o0_3, o0_4, o0_5, o1 => s4_2 t0 (l4_2 t0 k1 k2 n) k1 k2 t5 o0 o0_2 o0_3 o0_4 o0_5 o1
noncomputable def L4_2 : LE := ⟨7, 0, ⟨[(0, (.dat (.sl G40))), (3, (.dat .bool)), (4, (.box 0 [] 0)), (5, (.dat (.int .i64)))], [(.box (.agg (.scons (.own 1) (.scons (.dat (.int .i64)) (.scons (.dat (.int .i64)) (.scons (.dat (.int .i64)) (.scons (.dat (.int .i64)) (.scons (.dat (.int .i64)) .snil)))))))), (.arr G22)]⟩, fun R n x k => l4_2 x.1.1 (k (.exit 0) ⟨[(3, (.dat .bool x.1.2.1))], []⟩) (k .ret ⟨[(2, (.dat .bool false))], []⟩) n x.1.2.2.2.1 x.2.1.2.1 x.2.1.2.2.1 x.2.1.2.2.2.1 x.2.1.2.2.2.2.1 x.2.1.2.2.2.2.2.1 x.2.2.1⟩
noncomputable def C4 : Cfg := mkCfg [(7, ⟨[0, 3, 4, 5], []⟩), (13, ⟨[0, 3, 4, 5, 6, 7, 8, 9], []⟩)] [(7, (⟨[3], []⟩, ⟨[2], []⟩)), (13, (⟨[0, 3, 4, 5, 6, 7, 8], []⟩, ⟨[2], []⟩))] (([(1, L4_1), (0, L4_2)] : List (Nat × LE)).map (·.2))
theorem ek4_1 : EOk E4 C4 Try.f4.ntmps (bodyL Try.f4 1) L4_1 := eok_of (e := L4_1) (fun R x Kn k => s4_1 x.2.2.1 (fun v0 v1 v2 => Kn ((x.1.1, x.1.2.1, (), x.1.2.2.2.1, x.1.2.2.2.2.1, v0, v1, v2, ()), (((), x.2.1.2.1, x.2.1.2.2.1, x.2.1.2.2.2.1, x.2.1.2.2.2.2.1, x.2.1.2.2.2.2.2.1, ()), x.2.2.1, ()))) (fun y0 y1 => k (.exit 2) ⟨[(0, (.dat (.sl G40) x.1.1)), (3, (.dat .bool x.1.2.1)), (4, (.box 0 [] 0)), (5, (.dat (.int .i64) x.1.2.2.2.1)), (6, (.dat .bool x.1.2.2.2.2.1)), (7, (.dat (.int .i64) y0)), (8, (.dat (.int .i64) y1))], [(.box (.agg (.scons (.own 1) (.scons (.dat (.int .i64) x.2.1.2.1) (.scons (.dat (.int .i64) x.2.1.2.2.1) (.scons (.dat (.int .i64) x.2.1.2.2.2.1) (.scons (.dat (.int .i64) x.2.1.2.2.2.2.1) (.scons (.dat (.int .i64) x.2.1.2.2.2.2.2.1) .snil)))))))), (.arr G22 x.2.2.1)]⟩) (k .ret ⟨[(2, (.dat .bool false))], []⟩) x.1.2.2.2.2.2.1 x.1.2.2.2.2.2.2.1 x.1.2.2.2.2.2.2.2.1) (fun _ _ _ => rfl) (fun _ _ _ _ => rfl) (fun R x Kn k => by kernel_rfl)
theorem ek4_2 : EOk E4 C4 Try.f4.ntmps (bodyL Try.f4 0) L4_2 := eok_of (e := L4_2) (fun R x Kn k => s4_2 x.1.1 (fun v0 v1 v2 v3 v4 v5 v6 => Kn ((x.1.1, x.1.2.1, (), v0, ()), (((), v1, v2, v3, v4, v5, ()), v6, ()))) (k (.exit 0) ⟨[(3, (.dat .bool x.1.2.1))], []⟩) (k .ret ⟨[(2, (.dat .bool false))], []⟩) x.1.2.2.2.1 x.2.1.2.1 x.2.1.2.2.1 x.2.1.2.2.2.1 x.2.1.2.2.2.2.1 x.2.1.2.2.2.2.2.1 x.2.2.1) (fun _ _ _ => rfl) (fun _ _ _ _ => rfl) (fun R x Kn k => by kernel_rfl)
theorem lm4 : ∀ c, Try.f4.body = some c → LmOk E4 C4 Try.f4.ntmps c := lmOk_of (ps := [(1, L4_1), (0, L4_2)]) (by kernel_rfl) (by kernel_rfl) ⟨ek4_1, ek4_2, trivial⟩
noncomputable def m4 (a0 : (List T40)) : Option (Bool) :=
  (m7).bind fun r1 =>
  bif (decide ((List.length a0 : Int) > 60)) then
    some r1
  else
    asrt true (decide (0 ≤ 3) && decide (3 ≤ 3) && decide (3 ≤ (LIM : Int))) (
      l4_2 a0 (
          some r1) (
          some false) FUEL 0 0 0 0 0 0 (List.replicate (3 : Int).toNat (0, 0, false, ())))
noncomputable def e4 : PmE := entry 4 [(.sl G40)] false .bool (fun x => m4 x.1)
theorem q4 (x : tyL [(.sl G40)]) : execF E4 C4 Try.f4 (datL [(.sl G40)] x) [] (retK false .bool) = m4 x.1 := by kernel_rfl
theorem p4 : PmOk Try.prog e4 := pm_ok (E := E4) ok4 ord lm4 Try.func4 ca4 q4

end Go.Proofs.Ytapalendgokfoaa
