/- Models of the functions that the statements reach. -/
import Derived.Test.YtecidmdihmcclaaE31
import Derived.Test.YtecidmdihmcclaaChecked
import Derived.KernelRfl
namespace Go.Proofs.Ytecidmdihmcclaa
open Go Go.Eng
set_option linter.unusedVariables false

/-- x, y, signed, code -/
abbrev G7 : GT := .cons (.int .i64) (.cons (.int .i64) (.cons .bool (.cons (.int .u8) (.nil))))
abbrev T7 : Type := Int × Int × Bool × Int × Unit
/-- msg, addr -/
abbrev G13 : GT := .cons .str (.cons (.int .u64) (.nil))
abbrev T13 : Type := List UInt8 × Int × Unit

theorem ord : Try.prog.follows .mixedOrders = true := by kernel_rfl

/-! 14: consol/date.Leap -/
theorem ca14 : callable Try.prog 14 := ⟨Try.f14, Try.func14, by kernel_rfl, by kernel_rfl⟩
noncomputable def E14 : Env := mkEnv2 Try.prog [] []
theorem ok14 : EnvOk E14 := mkEnv2_ok (by simp) (by simp)
noncomputable def C14 : Cfg := noCfg
theorem lm14 : ∀ c, Try.f14.body = some c → LmOk E14 C14 Try.f14.ntmps c := fun _ _ => noCfg_lm
noncomputable def m14 (a0 : Int) : Option (Bool) :=
  asrt (((Int.tmod a0 4) == 0) == true) true (
    asrt ((((Int.tmod a0 4) == 0) == true) && (((Int.tmod a0 100) != 0) == false)) true (
      some (((Int.tmod a0 4) == 0) && (((Int.tmod a0 100) != 0) || ((Int.tmod a0 400) == 0)))))
noncomputable def e14 : PmE := entry 14 [(.int .i64)] false .bool (fun x => m14 x.1)
theorem q14 (x : tyL [(.int .i64)]) : execF E14 C14 Try.f14 (datL [(.int .i64)] x) [] (retK false .bool) = m14 x.1 := by kernel_rfl
theorem p14 : PmOk Try.prog e14 := pm_ok (E := E14) ok14 ord lm14 Try.func14 ca14 q14

/-! 16: consol/date.Last -/
theorem ca16 : callable Try.prog 16 := ⟨Try.f16, Try.func16, by kernel_rfl, by kernel_rfl⟩
noncomputable def E16 : Env := mkEnv2 Try.prog [e14] []
theorem ok16 : EnvOk E16 := mkEnv2_ok (by simp only [List.mem_cons, List.not_mem_nil, or_false, forall_eq]; exact p14) (by simp)
noncomputable def C16 : Cfg := mkCfg [(10, ⟨[0, 5, 6], []⟩), (15, ⟨[0, 5, 14], []⟩), (20, ⟨[], []⟩)] [] (([] : List (Nat × LE)).map (·.2))
theorem lm16 : ∀ c, Try.f16.body = some c → LmOk E16 C16 Try.f16.ntmps c := lmOk_of (ps := []) (by kernel_rfl) (by kernel_rfl) trivial
noncomputable def m16 (a0 : Int) (a1 : Int) : Option (Int) :=
  cont (fun (k1 : Bool → _) =>
    bif (a1 == 1) then
      k1 (a1 == 1)
    else
      bif (a1 == 3) then
        k1 (a1 == 3)
      else
        bif (a1 == 5) then
          k1 (a1 == 5)
        else
          bif (a1 == 7) then
            k1 (a1 == 7)
          else
            bif (a1 == 8) then
              k1 (a1 == 8)
            else
              bif (a1 == 10) then
                k1 (a1 == 10)
              else
                k1 (a1 == 12)) fun y1 =>
  bif y1 then
    some 31
  else
    cont (fun (k2 : Bool → _) =>
      bif (a1 == 4) then
        k2 (a1 == 4)
      else
        bif (a1 == 6) then
          k2 (a1 == 6)
        else
          bif (a1 == 9) then
            k2 (a1 == 9)
          else
            k2 (a1 == 11)) fun y2 =>
    bif y2 then
      some 30
    else
      bif (a1 == 2) then
        (m14 a0).bind fun r3 =>
        bif r3 then
          some 29
        else
          some 28
      else
        some 0
noncomputable def e16 : PmE := entry 16 [(.int .i64), (.int .i64)] false (.int .i64) (fun x => m16 x.1 x.2.1)
theorem q16 (x : tyL [(.int .i64), (.int .i64)]) : execF E16 C16 Try.f16 (datL [(.int .i64), (.int .i64)] x) [] (retK false (.int .i64)) = m16 x.1 x.2.1 := by kernel_rfl
theorem p16 : PmOk Try.prog e16 := pm_ok (E := E16) ok16 ord lm16 Try.func16 ca16 q16

/-! 25: consol/date.before -/
theorem ca25 : callable Try.prog 25 := ⟨Try.f25, Try.func25, by kernel_rfl, by kernel_rfl⟩
noncomputable def E25 : Env := mkEnv2 Try.prog [] []
theorem ok25 : EnvOk E25 := mkEnv2_ok (by simp) (by simp)
noncomputable def C25 : Cfg := noCfg
theorem lm25 : ∀ c, Try.f25.body = some c → LmOk E25 C25 Try.f25.ntmps c := fun _ _ => noCfg_lm
noncomputable def m25 (a0 : Int) : Option (Int) :=
  some (IntKind.i64.wrap ((IntKind.i64.wrap ((IntKind.i64.wrap ((IntKind.i64.wrap ((IntKind.i64.wrap (365 * (IntKind.i64.wrap ((IntKind.i64.wrap (a0 - 1)) - 1899)))) + (IntKind.i64.wrap (Int.tdiv (IntKind.i64.wrap (a0 - 1)) 4)))) - (IntKind.i64.wrap (Int.tdiv (IntKind.i64.wrap (a0 - 1)) 100)))) + (IntKind.i64.wrap (Int.tdiv (IntKind.i64.wrap (a0 - 1)) 400)))) - 460))
noncomputable def e25 : PmE := entry 25 [(.int .i64)] false (.int .i64) (fun x => m25 x.1)
theorem q25 (x : tyL [(.int .i64)]) : execF E25 C25 Try.f25 (datL [(.int .i64)] x) [] (retK false (.int .i64)) = m25 x.1 := by kernel_rfl
theorem p25 : PmOk Try.prog e25 := pm_ok (E := E25) ok25 ord lm25 Try.func25 ca25 q25

/-! 26: consol/date.isDay -/
theorem ca26 : callable Try.prog 26 := ⟨Try.f26, Try.func26, by kernel_rfl, by kernel_rfl⟩
noncomputable def E26 : Env := mkEnv2 Try.prog [] []
theorem ok26 : EnvOk E26 := mkEnv2_ok (by simp) (by simp)
noncomputable def C26 : Cfg := noCfg
theorem lm26 : ∀ c, Try.f26.body = some c → LmOk E26 C26 Try.f26.ntmps c := fun _ _ => noCfg_lm
noncomputable def m26 (a0 : Int) : Option (Bool) :=
  some ((decide (a0 ≥ 0)) && (decide (a0 ≤ 200000)))
noncomputable def e26 : PmE := entry 26 [(.int .i64)] false .bool (fun x => m26 x.1)
theorem q26 (x : tyL [(.int .i64)]) : execF E26 C26 Try.f26 (datL [(.int .i64)] x) [] (retK false .bool) = m26 x.1 := by kernel_rfl
theorem p26 : PmOk Try.prog e26 := pm_ok (E := E26) ok26 ord lm26 Try.func26 ca26 q26

/-! 8: consol/date.Of -/
theorem ca8 : callable Try.prog 8 := ⟨Try.f8, Try.func8, by kernel_rfl, by kernel_rfl⟩
noncomputable def E8 : Env := mkEnv2 Try.prog [e16, e25, e26] []
theorem ok8 : EnvOk E8 := mkEnv2_ok (by simp only [List.mem_cons, List.not_mem_nil, or_false, forall_eq_or_imp, forall_eq]; exact ⟨p16, p25, p26⟩) (by simp)
/-- a round of a loop of consol/date.Of -/
noncomputable def s8_1 {R : Type} (t0 : Int) (t1 : Int) (kn : Int → Int → Option R) (k1 : Int → Option R) (t8 : Int) (t9 : Int) : Option R :=
  bif (decide (t9 < t1)) then
    (m16 t0 t9).bind fun r3 =>
    kn (IntKind.i64.wrap (t8 + r3)) (IntKind.i64.wrap (t9 + 1))
  else
    k1 t8
noncomputable def l8_1 {R : Type} (t0 : Int) (t1 : Int) (k1 : Int → Option R) : Nat → Int → Int → Option R
  | 0, _, _ => none
  | n + 1, t8, t9 => s8_1 t0 t1 (l8_1 t0 t1 k1 n) k1 t8 t9
noncomputable def L8_1 : LE := ⟨8, 0, ⟨[(0, (.dat (.int .i64))), (1, (.dat (.int .i64))), (8, (.dat (.int .i64))), (9, (.dat (.int .i64)))], []⟩, fun R n x k => l8_1 x.1.1 x.1.2.1 (fun y0 => k (.exit 0) ⟨[(8, (.dat (.int .i64) y0))], []⟩) n x.1.2.2.1 x.1.2.2.2.1⟩
noncomputable def C8 : Cfg := mkCfg [(8, ⟨[0, 1, 8, 9], []⟩)] [(8, (⟨[8], []⟩, ⟨[6, 7], []⟩))] (([(0, L8_1)] : List (Nat × LE)).map (·.2))
theorem ek8_1 : EOk E8 C8 Try.f8.ntmps (bodyL Try.f8 0) L8_1 := eok_of (e := L8_1) (fun R x Kn k => s8_1 x.1.1 x.1.2.1 (fun v0 v1 => Kn ((x.1.1, x.1.2.1, v0, v1, ()), (()))) (fun y0 => k (.exit 0) ⟨[(8, (.dat (.int .i64) y0))], []⟩) x.1.2.2.1 x.1.2.2.2.1) (fun _ _ _ => rfl) (fun _ _ _ _ => rfl) (fun R x Kn k => by kernel_rfl)
theorem lm8 : ∀ c, Try.f8.body = some c → LmOk E8 C8 Try.f8.ntmps c := lmOk_of (ps := [(0, L8_1)]) (by kernel_rfl) (by kernel_rfl) ⟨ek8_1, trivial⟩
noncomputable def m8 (a0 : Int) (a1 : Int) (a2 : Int) : Option ((Int × (Int × Unit))) :=
  (bif ((decide (a2 < 1)) == false) then (m16 a0 a1) else some 0).bind fun r1 =>
  bif ((decide (a2 < 1)) || (decide (a2 > r1))) then
    some (0, 23, ())
  else
    bif ((decide (a0 < 1900)) || (decide (a0 > 3000))) then
      some (0, 3, ())
    else
      (m25 a0).bind fun r2 =>
      l8_1 a0 a1 (fun y4 =>
          (m26 y4).bind fun r5 =>
          bif (!r5) then
            some (0, 3, ())
          else
            some (y4, 0, ())) FUEL (IntKind.i64.wrap ((IntKind.i64.wrap (r2 + a2)) - 1)) 1
noncomputable def e8 : PmE := entry 8 [(.int .i64), (.int .i64), (.int .i64)] true (.cons (.int .i64) (.cons (.int .i64) .nil)) (fun x => m8 x.1 x.2.1 x.2.2.1)
theorem q8 (x : tyL [(.int .i64), (.int .i64), (.int .i64)]) : execF E8 C8 Try.f8 (datL [(.int .i64), (.int .i64), (.int .i64)] x) [] (retK true (.cons (.int .i64) (.cons (.int .i64) .nil))) = m8 x.1 x.2.1 x.2.2.1 := by kernel_rfl
theorem p8 : PmOk Try.prog e8 := pm_ok (E := E8) ok8 ord lm8 Try.func8 ca8 q8

/-! 10: consol/date.Parts -/
theorem ca10 : callable Try.prog 10 := ⟨Try.f10, Try.func10, by kernel_rfl, by kernel_rfl⟩
noncomputable def E10 : Env := mkEnv2 Try.prog [e16, e25, e26] []
theorem ok10 : EnvOk E10 := mkEnv2_ok (by simp only [List.mem_cons, List.not_mem_nil, or_false, forall_eq_or_imp, forall_eq]; exact ⟨p16, p25, p26⟩) (by simp)
/-- a round of a loop of consol/date.Parts -/
noncomputable def s10_1 {R : Type} (t0 : Int) (kn : Int → Option R) (k1 : Int → Option R) (t2 : Int) : Option R :=
  (m25 (IntKind.i64.wrap (t2 + 1))).bind fun r2 =>
  bif (decide (r2 ≤ t0)) then
    kn (IntKind.i64.wrap (t2 + 1))
  else
    k1 t2
noncomputable def l10_1 {R : Type} (t0 : Int) (k1 : Int → Option R) : Nat → Int → Option R
  | 0, _ => none
  | n + 1, t2 => s10_1 t0 (l10_1 t0 k1 n) k1 t2
noncomputable def L10_1 : LE := ⟨5, 0, ⟨[(0, (.dat (.int .i64))), (2, (.dat (.int .i64)))], []⟩, fun R n x k => l10_1 x.1.1 (fun y0 => k (.exit 0) ⟨[(0, (.dat (.int .i64) x.1.1)), (2, (.dat (.int .i64) y0))], []⟩) n x.1.2.1⟩
/-- a round of a loop of consol/date.Parts -/
noncomputable def s10_2 {R : Type} (t2 : Int) (kn : Int → Int → Option R) (k1 : Int → Int → Option R) (t3 : Int) (t6 : Int) : Option R :=
  (m16 t2 t3).bind fun r5 =>
  bif (decide (t6 ≥ r5)) then
    (m16 t2 t3).bind fun r6 =>
    kn (IntKind.i64.wrap (t3 + 1)) (IntKind.i64.wrap (t6 - r6))
  else
    k1 t3 t6
noncomputable def l10_2 {R : Type} (t2 : Int) (k1 : Int → Int → Option R) : Nat → Int → Int → Option R
  | 0, _, _ => none
  | n + 1, t3, t6 => s10_2 t2 (l10_2 t2 k1 n) k1 t3 t6
noncomputable def L10_2 : LE := ⟨9, 0, ⟨[(2, (.dat (.int .i64))), (3, (.dat (.int .i64))), (6, (.dat (.int .i64)))], []⟩, fun R n x k => l10_2 x.1.1 (fun y0 y1 => k (.exit 2) ⟨[(2, (.dat (.int .i64) x.1.1)), (3, (.dat (.int .i64) y0)), (6, (.dat (.int .i64) y1))], []⟩) n x.1.2.1 x.1.2.2.1⟩
noncomputable def C10 : Cfg := mkCfg [(5, ⟨[0, 2], []⟩), (9, ⟨[2, 3, 6], []⟩)] [(5, (⟨[0, 2], []⟩, ⟨[2, 3, 4, 5], []⟩)), (9, (⟨[2, 3, 6], []⟩, ⟨[2, 3, 4, 5], []⟩))] (([(0, L10_1), (1, L10_2)] : List (Nat × LE)).map (·.2))
theorem ek10_1 : EOk E10 C10 Try.f10.ntmps (bodyL Try.f10 0) L10_1 := eok_of (e := L10_1) (fun R x Kn k => s10_1 x.1.1 (fun v0 => Kn ((x.1.1, v0, ()), (()))) (fun y0 => k (.exit 0) ⟨[(0, (.dat (.int .i64) x.1.1)), (2, (.dat (.int .i64) y0))], []⟩) x.1.2.1) (fun _ _ _ => rfl) (fun _ _ _ _ => rfl) (fun R x Kn k => by kernel_rfl)
theorem ek10_2 : EOk E10 C10 Try.f10.ntmps (bodyL Try.f10 1) L10_2 := eok_of (e := L10_2) (fun R x Kn k => s10_2 x.1.1 (fun v0 v1 => Kn ((x.1.1, v0, v1, ()), (()))) (fun y0 y1 => k (.exit 2) ⟨[(2, (.dat (.int .i64) x.1.1)), (3, (.dat (.int .i64) y0)), (6, (.dat (.int .i64) y1))], []⟩) x.1.2.1 x.1.2.2.1) (fun _ _ _ => rfl) (fun _ _ _ _ => rfl) (fun R x Kn k => by kernel_rfl)
theorem lm10 : ∀ c, Try.f10.body = some c → LmOk E10 C10 Try.f10.ntmps c := lmOk_of (ps := [(0, L10_1), (1, L10_2)]) (by kernel_rfl) (by kernel_rfl) ⟨ek10_1, ek10_2, trivial⟩
noncomputable def m10 (a0 : Int) : Option ((Int × (Int × (Int × (Int × Unit))))) :=
  (m26 a0).bind fun r1 =>
  bif (!r1) then
    some (0, 0, 0, 3, ())
  else
    l10_1 a0 (fun y3 =>
        (m25 y3).bind fun r4 =>
        l10_2 y3 (fun y7 y8 =>
            some (y3, y7, (IntKind.i64.wrap (y8 + 1)), 0, ())) FUEL 1 (IntKind.i64.wrap (a0 - r4))) FUEL (IntKind.i64.wrap (1900 + (IntKind.i64.wrap (Int.tdiv a0 366))))
noncomputable def e10 : PmE := entry 10 [(.int .i64)] true (.cons (.int .i64) (.cons (.int .i64) (.cons (.int .i64) (.cons (.int .i64) .nil)))) (fun x => m10 x.1)
theorem q10 (x : tyL [(.int .i64)]) : execF E10 C10 Try.f10 (datL [(.int .i64)] x) [] (retK true (.cons (.int .i64) (.cons (.int .i64) (.cons (.int .i64) (.cons (.int .i64) .nil))))) = m10 x.1 := by kernel_rfl
theorem p10 : PmOk Try.prog e10 := pm_ok (E := E10) ok10 ord lm10 Try.func10 ca10 q10

/-! 22: consol/date.AddMonths -/
theorem ca22 : callable Try.prog 22 := ⟨Try.f22, Try.func22, by kernel_rfl, by kernel_rfl⟩
noncomputable def E22 : Env := mkEnv2 Try.prog [e8, e10, e16] []
theorem ok22 : EnvOk E22 := mkEnv2_ok (by simp only [List.mem_cons, List.not_mem_nil, or_false, forall_eq_or_imp, forall_eq]; exact ⟨p8, p10, p16⟩) (by simp)
noncomputable def C22 : Cfg := noCfg
theorem lm22 : ∀ c, Try.f22.body = some c → LmOk E22 C22 Try.f22.ntmps c := fun _ _ => noCfg_lm
noncomputable def m22 (a0 : Int) (a1 : Int) : Option ((Int × (Int × Unit))) :=
  (m10 a0).bind fun r1 =>
  bif (((r1.2.2.2.1 != 0) || (decide (a1 < (-10000)))) || (decide (a1 > 10000))) then
    some (0, 3, ())
  else
    (m16 (IntKind.i64.wrap (Int.tdiv (IntKind.i64.wrap ((IntKind.i64.wrap ((IntKind.i64.wrap ((IntKind.i64.wrap (12 * r1.1)) + r1.2.1)) - 1)) + a1)) 12)) (IntKind.i64.wrap ((Int.tmod (IntKind.i64.wrap ((IntKind.i64.wrap ((IntKind.i64.wrap ((IntKind.i64.wrap (12 * r1.1)) + r1.2.1)) - 1)) + a1)) 12) + 1))).bind fun r2 =>
    (m8 (IntKind.i64.wrap (Int.tdiv (IntKind.i64.wrap ((IntKind.i64.wrap ((IntKind.i64.wrap ((IntKind.i64.wrap (12 * r1.1)) + r1.2.1)) - 1)) + a1)) 12)) (IntKind.i64.wrap ((Int.tmod (IntKind.i64.wrap ((IntKind.i64.wrap ((IntKind.i64.wrap ((IntKind.i64.wrap (12 * r1.1)) + r1.2.1)) - 1)) + a1)) 12) + 1)) (bif decide (r2 < r1.2.2.1) then r2 else r1.2.2.1)).bind fun r3 =>
    some (r3.1, r3.2.1, ())
noncomputable def e22 : PmE := entry 22 [(.int .i64), (.int .i64)] true (.cons (.int .i64) (.cons (.int .i64) .nil)) (fun x => m22 x.1 x.2.1)
theorem q22 (x : tyL [(.int .i64), (.int .i64)]) : execF E22 C22 Try.f22 (datL [(.int .i64), (.int .i64)] x) [] (retK true (.cons (.int .i64) (.cons (.int .i64) .nil))) = m22 x.1 x.2.1 := by kernel_rfl
theorem p22 : PmOk Try.prog e22 := pm_ok (E := E22) ok22 ord lm22 Try.func22 ca22 q22

/-! 28: consol/date.digits -/
theorem ca28 : callable Try.prog 28 := ⟨Try.f28, Try.func28, by kernel_rfl, by kernel_rfl⟩
noncomputable def E28 : Env := mkEnv2 Try.prog [] []
theorem ok28 : EnvOk E28 := mkEnv2_ok (by simp) (by simp)
/-- a round of a loop of consol/date.digits -/
noncomputable def s28_1 {R : Type} (t9 : Int) (o0 : (List Int)) (kn : Int → Int → Option R) (k1 : Int → Option R) (k2 : Option R) (t4 : Int) (t10 : Int) : Option R :=
  bif (decide (t10 < t9)) then
    asrt true (decide (0 ≤ t10) && decide (t10 < (List.length o0 : Int))) (
      ((o0)[(t10 : Int).toNat]?).bind fun x1 =>
      bif ((decide (x1 < 48)) || (decide (x1 > 57))) then
        k2
      else
        kn (IntKind.i64.wrap ((IntKind.i64.wrap (10 * t4)) + (IntKind.i64.wrap (IntKind.u8.wrap (x1 - 48))))) (IntKind.i64.wrap (t10 + 1)))
  else
    k1 t4
noncomputable def l28_1 {R : Type} (t9 : Int) (o0 : (List Int)) (k1 : Int → Option R) (k2 : Option R) : Nat → Int → Int → Option R
  | 0, _, _ => none
  | n + 1, t4, t10 => s28_1 t9 o0 (l28_1 t9 o0 k1 k2 n) k1 k2 t4 t10
noncomputable def L28_1 : LE := ⟨4, 0, ⟨[(4, (.dat (.int .i64))), (8, (.own 0)), (9, (.dat (.int .i64))), (10, (.dat (.int .i64)))], [(.arr (.int .u8))]⟩, fun R n x k => l28_1 x.1.2.2.1 x.2.1 (fun y0 => k (.exit 0) ⟨[(4, (.dat (.int .i64) y0))], []⟩) (k .ret ⟨[(2, (.dat (.int .i64) 0)), (3, (.dat .bool false))], []⟩) n x.1.1 x.1.2.2.2.1⟩
noncomputable def C28 : Cfg := mkCfg [(4, ⟨[4, 8, 9, 10], []⟩)] [(4, (⟨[4], []⟩, ⟨[2, 3], []⟩))] (([(0, L28_1)] : List (Nat × LE)).map (·.2))
theorem ek28_1 : EOk E28 C28 Try.f28.ntmps (bodyL Try.f28 0) L28_1 := eok_of (e := L28_1) (fun R x Kn k => s28_1 x.1.2.2.1 x.2.1 (fun v0 v1 => Kn ((v0, (), x.1.2.2.1, v1, ()), (x.2.1, ()))) (fun y0 => k (.exit 0) ⟨[(4, (.dat (.int .i64) y0))], []⟩) (k .ret ⟨[(2, (.dat (.int .i64) 0)), (3, (.dat .bool false))], []⟩) x.1.1 x.1.2.2.2.1) (fun _ _ _ => rfl) (fun _ _ _ _ => rfl) (fun R x Kn k => by kernel_rfl)
theorem lm28 : ∀ c, Try.f28.body = some c → LmOk E28 C28 Try.f28.ntmps c := lmOk_of (ps := [(0, L28_1)]) (by kernel_rfl) (by kernel_rfl) ⟨ek28_1, trivial⟩
noncomputable def m28 (a0 : List UInt8) : Option ((Int × (Bool × Unit))) :=
  l28_1 (List.length (List.map (fun c => (UInt8.toNat c : Int)) a0) : Int) (List.map (fun c => (UInt8.toNat c : Int)) a0) (fun y2 =>
      some (y2, true, ())) (
      some (0, false, ())) FUEL 0 0
noncomputable def e28 : PmE := entry 28 [.str] true (.cons (.int .i64) (.cons .bool .nil)) (fun x => m28 x.1)
theorem q28 (x : tyL [.str]) : execF E28 C28 Try.f28 (datL [.str] x) [] (retK true (.cons (.int .i64) (.cons .bool .nil))) = m28 x.1 := by kernel_rfl
theorem p28 : PmOk Try.prog e28 := pm_ok (E := E28) ok28 ord lm28 Try.func28 ca28 q28

/-! 12: consol/date.Read -/
theorem ca12 : callable Try.prog 12 := ⟨Try.f12, Try.func12, by kernel_rfl, by kernel_rfl⟩
noncomputable def E12 : Env := mkEnv2 Try.prog [e8, e28] []
theorem ok12 : EnvOk E12 := mkEnv2_ok (by simp only [List.mem_cons, List.not_mem_nil, or_false, forall_eq_or_imp, forall_eq]; exact ⟨p8, p28⟩) (by simp)
noncomputable def C12 : Cfg := noCfg
theorem lm12 : ∀ c, Try.f12.body = some c → LmOk E12 C12 Try.f12.ntmps c := fun _ _ => noCfg_lm
noncomputable def m12 (a0 : List UInt8) : Option ((Int × (Int × Unit))) :=
  (idxG (((List.length a0 : Int) != 10) == false) (0 : UInt8) a0 4).bind fun c1 =>
  (idxG ((((List.length a0 : Int) != 10) || ((c1.toNat : Int) != 45)) == false) (0 : UInt8) a0 7).bind fun c2 =>
  bif ((((List.length a0 : Int) != 10) || ((c1.toNat : Int) != 45)) || ((c2.toNat : Int) != 45)) then
    some (0, 2, ())
  else
    asrt true (bounds true (List.length a0) 0 4) (
      (m28 (subl a0 0 4)).bind fun r3 =>
      asrt true (bounds true (List.length a0) 5 7) (
        (m28 (subl a0 5 7)).bind fun r4 =>
        asrt true (bounds true (List.length a0) 8 (List.length a0 : Int)) (
          (m28 (subl a0 8 (List.length a0 : Int))).bind fun r5 =>
          bif (((!r3.2.1) || (!r4.2.1)) || (!r5.2.1)) then
            some (0, 2, ())
          else
            (m8 r3.1 r4.1 r5.1).bind fun r6 =>
            some (r6.1, r6.2.1, ()))))
noncomputable def e12 : PmE := entry 12 [.str] true (.cons (.int .i64) (.cons (.int .i64) .nil)) (fun x => m12 x.1)
theorem q12 (x : tyL [.str]) : execF E12 C12 Try.f12 (datL [.str] x) [] (retK true (.cons (.int .i64) (.cons (.int .i64) .nil))) = m12 x.1 := by kernel_rfl
theorem p12 : PmOk Try.prog e12 := pm_ok (E := E12) ok12 ord lm12 Try.func12 ca12 q12

/-! 18: consol/date.Weekday -/
theorem ca18 : callable Try.prog 18 := ⟨Try.f18, Try.func18, by kernel_rfl, by kernel_rfl⟩
noncomputable def E18 : Env := mkEnv2 Try.prog [e26] []
theorem ok18 : EnvOk E18 := mkEnv2_ok (by simp only [List.mem_cons, List.not_mem_nil, or_false, forall_eq]; exact p26) (by simp)
noncomputable def C18 : Cfg := noCfg
theorem lm18 : ∀ c, Try.f18.body = some c → LmOk E18 C18 Try.f18.ntmps c := fun _ _ => noCfg_lm
noncomputable def m18 (a0 : Int) : Option (Int) :=
  (m26 a0).bind fun r1 =>
  bif (!r1) then
    some (-1)
  else
    some (Int.tmod a0 7)
noncomputable def e18 : PmE := entry 18 [(.int .i64)] false (.int .i64) (fun x => m18 x.1)
theorem q18 (x : tyL [(.int .i64)]) : execF E18 C18 Try.f18 (datL [(.int .i64)] x) [] (retK false (.int .i64)) = m18 x.1 := by kernel_rfl
theorem p18 : PmOk Try.prog e18 := pm_ok (E := E18) ok18 ord lm18 Try.func18 ca18 q18

/-! 29: consol/date.pad -/
theorem ca29 : callable Try.prog 29 := ⟨Try.f29, Try.func29, by kernel_rfl, by kernel_rfl⟩
noncomputable def E29 : Env := mkEnv2 Try.prog [] []
theorem ok29 : EnvOk E29 := mkEnv2_ok (by simp) (by simp)
/-- a round of a loop of consol/date.pad -/
noncomputable def s29_1 {R : Type} (kn : Int → Int → (List Int) → Option R) (k1 : (List Int) → Option R) (t0 : Int) (t6 : Int) (o0 : (List Int)) : Option R :=
  bif (decide (t6 ≥ 0)) then
    asrt true (decide (0 ≤ t6) && decide (t6 < (List.length o0 : Int))) (
      ((o0)[(t6 : Int).toNat]?).bind fun x1 =>
      kn (IntKind.i64.wrap (Int.tdiv t0 10)) (IntKind.i64.wrap (t6 - 1)) (List.set o0 (t6 : Int).toNat (IntKind.u8.wrap (48 + (IntKind.u8.wrap (Int.tmod t0 10))))))
  else
    k1 o0
noncomputable def l29_1 {R : Type} (k1 : (List Int) → Option R) : Nat → Int → Int → (List Int) → Option R
  | 0, _, _, _ => none
  | n + 1, t0, t6, o0 => s29_1 (l29_1 k1 n) k1 t0 t6 o0
noncomputable def L29_1 : LE := ⟨4, 0, ⟨[(0, (.dat (.int .i64))), (5, (.own 0)), (6, (.dat (.int .i64)))], [(.arr (.int .u8))]⟩, fun R n x k => l29_1 (fun y0 => k (.exit 0) ⟨[(5, (.own 0))], [(.arr (.int .u8) y0)]⟩) n x.1.1 x.1.2.2.1 x.2.1⟩
noncomputable def C29 : Cfg := mkCfg [(4, ⟨[0, 5, 6], []⟩)] [(4, (⟨[5], []⟩, ⟨[4], []⟩))] (([(0, L29_1)] : List (Nat × LE)).map (·.2))
theorem ek29_1 : EOk E29 C29 Try.f29.ntmps (bodyL Try.f29 0) L29_1 := eok_of (e := L29_1) (fun R x Kn k => s29_1 (fun v0 v1 v2 => Kn ((v0, (), v1, ()), (v2, ()))) (fun y0 => k (.exit 0) ⟨[(5, (.own 0))], [(.arr (.int .u8) y0)]⟩) x.1.1 x.1.2.2.1 x.2.1) (fun _ _ _ => rfl) (fun _ _ _ _ => rfl) (fun R x Kn k => by kernel_rfl)
theorem lm29 : ∀ c, Try.f29.body = some c → LmOk E29 C29 Try.f29.ntmps c := lmOk_of (ps := [(0, L29_1)]) (by kernel_rfl) (by kernel_rfl) ⟨ek29_1, trivial⟩
noncomputable def m29 (a0 : Int) (a1 : Int) : Option (List UInt8) :=
  asrt true (decide (0 ≤ a1) && decide (a1 ≤ a1) && decide (a1 ≤ (LIM : Int))) (
    l29_1 (fun y2 =>
        some (List.map (fun n => UInt8.ofNat (Int.toNat n)) y2)) FUEL a0 (IntKind.i64.wrap (a1 - 1)) (List.replicate (a1 : Int).toNat 0))
noncomputable def e29 : PmE := entry 29 [(.int .i64), (.int .i64)] false .str (fun x => m29 x.1 x.2.1)
theorem q29 (x : tyL [(.int .i64), (.int .i64)]) : execF E29 C29 Try.f29 (datL [(.int .i64), (.int .i64)] x) [] (retK false .str) = m29 x.1 x.2.1 := by kernel_rfl
theorem p29 : PmOk Try.prog e29 := pm_ok (E := E29) ok29 ord lm29 Try.func29 ca29 q29

/-! 20: consol/date.Text -/
theorem ca20 : callable Try.prog 20 := ⟨Try.f20, Try.func20, by kernel_rfl, by kernel_rfl⟩
noncomputable def E20 : Env := mkEnv2 Try.prog [e10, e29] []
theorem ok20 : EnvOk E20 := mkEnv2_ok (by simp only [List.mem_cons, List.not_mem_nil, or_false, forall_eq_or_imp, forall_eq]; exact ⟨p10, p29⟩) (by simp)
noncomputable def C20 : Cfg := noCfg
theorem lm20 : ∀ c, Try.f20.body = some c → LmOk E20 C20 Try.f20.ntmps c := fun _ _ => noCfg_lm
noncomputable def m20 (a0 : Int) : Option (List UInt8) :=
  (m10 a0).bind fun r1 =>
  bif (r1.2.2.2.1 != 0) then
    some []
  else
    (m29 r1.1 4).bind fun r2 =>
    asrt true (decide (r2.length + ([45] : List UInt8).length ≤ 4294967296)) (
      (m29 r1.2.1 2).bind fun r3 =>
      asrt true (decide ((r2 ++ [45]).length + r3.length ≤ 4294967296)) (
        asrt true (decide (((r2 ++ [45]) ++ r3).length + ([45] : List UInt8).length ≤ 4294967296)) (
          (m29 r1.2.2.1 2).bind fun r4 =>
          asrt true (decide ((((r2 ++ [45]) ++ r3) ++ [45]).length + r4.length ≤ 4294967296)) (
            some ((((r2 ++ [45]) ++ r3) ++ [45]) ++ r4)))))
noncomputable def e20 : PmE := entry 20 [(.int .i64)] false .str (fun x => m20 x.1)
theorem q20 (x : tyL [(.int .i64)]) : execF E20 C20 Try.f20 (datL [(.int .i64)] x) [] (retK false .str) = m20 x.1 := by kernel_rfl
theorem p20 : PmOk Try.prog e20 := pm_ok (E := E20) ok20 ord lm20 Try.func20 ca20 q20

/-! 7: consol/consollaw07.small -/
theorem ca7 : callable Try.prog 7 := ⟨Try.f7, Try.func7, by kernel_rfl, by kernel_rfl⟩
noncomputable def E7 : Env := mkEnv2 Try.prog [e8, e10, e12, e14, e16, e18, e20, e22] []
theorem ok7 : EnvOk E7 := mkEnv2_ok (by simp only [List.mem_cons, List.not_mem_nil, or_false, forall_eq_or_imp, forall_eq]; exact ⟨p8, p10, p12, p14, p16, p18, p20, p22⟩) (by simp)
noncomputable def C7 : Cfg := noCfg
theorem lm7 : ∀ c, Try.f7.body = some c → LmOk E7 C7 Try.f7.ntmps c := fun _ _ => noCfg_lm
noncomputable def m7  : Option (Bool) :=
  (m8 1900 1 1).bind fun r1 =>
  (m8 1900 2 29).bind fun r2 =>
  (m8 2000 2 29).bind fun r3 =>
  (m8 1899 12 31).bind fun r4 =>
  (m10 59).bind fun r5 =>
  (m22 30 1).bind fun r6 =>
  (m22 58 (-1)).bind fun r7 =>
  (m12 [49, 57, 48, 48, 45, 49, 51, 45, 48, 49]).bind fun r8 =>
  (m12 [49, 57, 48, 48, 45, 49, 45, 48, 49]).bind fun r9 =>
  (bif (((((((((((r1.2.1 == 0) && (r1.1 == 0)) && (r2.2.1 == 23)) && (r3.2.1 == 0)) && (r3.1 == 36583)) && (r4.2.1 == 3)) && (r5.2.2.2.1 == 0)) && (r5.1 == 1900)) && (r5.2.1 == 3)) && (r5.2.2.1 == 1)) == true) then (m18 59) else some 0).bind fun r10 =>
  (bif ((((((((((((((((r1.2.1 == 0) && (r1.1 == 0)) && (r2.2.1 == 23)) && (r3.2.1 == 0)) && (r3.1 == 36583)) && (r4.2.1 == 3)) && (r5.2.2.2.1 == 0)) && (r5.1 == 1900)) && (r5.2.1 == 3)) && (r5.2.2.1 == 1)) && (r10 == 3)) && (r6.2.1 == 0)) && (r6.1 == 58)) && (r7.2.1 == 0)) && (r7.1 == 27)) == true) then (m20 36583) else some []).bind fun r11 =>
  (bif (((((((((((((((((((r1.2.1 == 0) && (r1.1 == 0)) && (r2.2.1 == 23)) && (r3.2.1 == 0)) && (r3.1 == 36583)) && (r4.2.1 == 3)) && (r5.2.2.2.1 == 0)) && (r5.1 == 1900)) && (r5.2.1 == 3)) && (r5.2.2.1 == 1)) && (r10 == 3)) && (r6.2.1 == 0)) && (r6.1 == 58)) && (r7.2.1 == 0)) && (r7.1 == 27)) && (r11 == ([50, 48, 48, 48, 45, 48, 50, 45, 50, 57] : List UInt8))) && (r8.2.1 == 23)) && (r9.2.1 == 2)) == true) then (m14 2000) else some false).bind fun r12 =>
  (bif ((((((((((((((((((((r1.2.1 == 0) && (r1.1 == 0)) && (r2.2.1 == 23)) && (r3.2.1 == 0)) && (r3.1 == 36583)) && (r4.2.1 == 3)) && (r5.2.2.2.1 == 0)) && (r5.1 == 1900)) && (r5.2.1 == 3)) && (r5.2.2.1 == 1)) && (r10 == 3)) && (r6.2.1 == 0)) && (r6.1 == 58)) && (r7.2.1 == 0)) && (r7.1 == 27)) && (r11 == ([50, 48, 48, 48, 45, 48, 50, 45, 50, 57] : List UInt8))) && (r8.2.1 == 23)) && (r9.2.1 == 2)) && r12) == true) then (m14 1900) else some false).bind fun r13 =>
  (bif (((((((((((((((((((((r1.2.1 == 0) && (r1.1 == 0)) && (r2.2.1 == 23)) && (r3.2.1 == 0)) && (r3.1 == 36583)) && (r4.2.1 == 3)) && (r5.2.2.2.1 == 0)) && (r5.1 == 1900)) && (r5.2.1 == 3)) && (r5.2.2.1 == 1)) && (r10 == 3)) && (r6.2.1 == 0)) && (r6.1 == 58)) && (r7.2.1 == 0)) && (r7.1 == 27)) && (r11 == ([50, 48, 48, 48, 45, 48, 50, 45, 50, 57] : List UInt8))) && (r8.2.1 == 23)) && (r9.2.1 == 2)) && r12) && (!r13)) == true) then (m16 1900 2) else some 0).bind fun r14 =>
  some (((((((((((((((((((((r1.2.1 == 0) && (r1.1 == 0)) && (r2.2.1 == 23)) && (r3.2.1 == 0)) && (r3.1 == 36583)) && (r4.2.1 == 3)) && (r5.2.2.2.1 == 0)) && (r5.1 == 1900)) && (r5.2.1 == 3)) && (r5.2.2.1 == 1)) && (r10 == 3)) && (r6.2.1 == 0)) && (r6.1 == 58)) && (r7.2.1 == 0)) && (r7.1 == 27)) && (r11 == ([50, 48, 48, 48, 45, 48, 50, 45, 50, 57] : List UInt8))) && (r8.2.1 == 23)) && (r9.2.1 == 2)) && r12) && (!r13)) && (r14 == 28))
noncomputable def e7 : PmE := entry 7 [] false .bool (fun x => m7 )
theorem q7 (x : tyL []) : execF E7 C7 Try.f7 (datL [] x) [] (retK false .bool) = m7  := by kernel_rfl
theorem p7 : PmOk Try.prog e7 := pm_ok (E := E7) ok7 ord lm7 Try.func7 ca7 q7

/-! 4: consol/consollaw07.DateNext -/
theorem ca4 : callable Try.prog 4 := ⟨Try.f4, Try.func4, by kernel_rfl, by kernel_rfl⟩
noncomputable def E4 : Env := mkEnv2 Try.prog [e7, e8, e10, e16, e18, e20] []
theorem ok4 : EnvOk E4 := mkEnv2_ok (by simp only [List.mem_cons, List.not_mem_nil, or_false, forall_eq_or_imp, forall_eq]; exact ⟨p7, p8, p10, p16, p18, p20⟩) (by simp)
noncomputable def C4 : Cfg := noCfg
theorem lm4 : ∀ c, Try.f4.body = some c → LmOk E4 C4 Try.f4.ntmps c := fun _ _ => noCfg_lm
noncomputable def m4 (a0 : Int) : Option (Bool) :=
  (m7).bind fun r1 =>
  (m10 a0).bind fun r2 =>
  bif ((decide (a0 < 0)) || (decide (a0 > 200000))) then
    (bif ((r1 && (r2.2.2.2.1 == 3)) == true) then (m18 a0) else some 0).bind fun r3 =>
    (bif (((r1 && (r2.2.2.2.1 == 3)) && (r3 == (-1))) == true) then (m20 a0) else some []).bind fun r4 =>
    some (((r1 && (r2.2.2.2.1 == 3)) && (r3 == (-1))) && (r4 == ([] : List UInt8)))
  else
    (m8 r2.1 r2.2.1 r2.2.2.1).bind fun r5 =>
    (bif (((((r2.2.2.2.1 != 0) || (r5.2.1 != 0)) || (r5.1 != a0)) || (decide (r2.2.2.1 < 1))) == false) then (m16 r2.1 r2.2.1) else some 0).bind fun r6 =>
    (bif ((((((r2.2.2.2.1 != 0) || (r5.2.1 != 0)) || (r5.1 != a0)) || (decide (r2.2.2.1 < 1))) || (decide (r2.2.2.1 > r6))) == false) then (m18 a0) else some 0).bind fun r7 =>
    (bif (((((((r2.2.2.2.1 != 0) || (r5.2.1 != 0)) || (r5.1 != a0)) || (decide (r2.2.2.1 < 1))) || (decide (r2.2.2.1 > r6))) || (decide (r7 < 0))) == false) then (m18 a0) else some 0).bind fun r8 =>
    bif (((((((r2.2.2.2.1 != 0) || (r5.2.1 != 0)) || (r5.1 != a0)) || (decide (r2.2.2.1 < 1))) || (decide (r2.2.2.1 > r6))) || (decide (r7 < 0))) || (decide (r8 > 6))) then
      some false
    else
      bif (a0 == 200000) then
        some r1
      else
        (m10 (IntKind.i64.wrap (a0 + 1))).bind fun r9 =>
        (bif ((r9.2.2.2.1 != 0) == false) then (m18 (IntKind.i64.wrap (a0 + 1))) else some 0).bind fun r10 =>
        (bif ((r9.2.2.2.1 != 0) == false) then (m18 a0) else some 0).bind fun r11 =>
        asrt ((r9.2.2.2.1 != 0) == false) true (
          bif ((r9.2.2.2.1 != 0) || (r10 != (Int.tmod (IntKind.i64.wrap (r11 + 1)) 7))) then
            some false
          else
            (m16 r2.1 r2.2.1).bind fun r12 =>
            bif (decide (r2.2.2.1 < r12)) then
              some (((r1 && (r9.1 == r2.1)) && (r9.2.1 == r2.2.1)) && (r9.2.2.1 == (IntKind.i64.wrap (r2.2.2.1 + 1))))
            else
              bif (decide (r2.2.1 < 12)) then
                some (((r1 && (r9.1 == r2.1)) && (r9.2.1 == (IntKind.i64.wrap (r2.2.1 + 1)))) && (r9.2.2.1 == 1))
              else
                some (((r1 && (r9.1 == (IntKind.i64.wrap (r2.1 + 1)))) && (r9.2.1 == 1)) && (r9.2.2.1 == 1)))
noncomputable def e4 : PmE := entry 4 [(.int .i64)] false .bool (fun x => m4 x.1)
theorem q4 (x : tyL [(.int .i64)]) : execF E4 C4 Try.f4 (datL [(.int .i64)] x) [] (retK false .bool) = m4 x.1 := by kernel_rfl
theorem p4 : PmOk Try.prog e4 := pm_ok (E := E4) ok4 ord lm4 Try.func4 ca4 q4

/-! 5: consol/consollaw07.DateMonths -/
theorem ca5 : callable Try.prog 5 := ⟨Try.f5, Try.func5, by kernel_rfl, by kernel_rfl⟩
noncomputable def E5 : Env := mkEnv2 Try.prog [e7, e10, e16, e22] []
theorem ok5 : EnvOk E5 := mkEnv2_ok (by simp only [List.mem_cons, List.not_mem_nil, or_false, forall_eq_or_imp, forall_eq]; exact ⟨p7, p10, p16, p22⟩) (by simp)
noncomputable def C5 : Cfg := noCfg
theorem lm5 : ∀ c, Try.f5.body = some c → LmOk E5 C5 Try.f5.ntmps c := fun _ _ => noCfg_lm
noncomputable def m5 (a0 : Int) (a1 : Int) (a2 : Int) (a3 : Int) : Option (Bool) :=
  (m7).bind fun r1 =>
  (m22 a0 (Int.tmod (IntKind.i64.wrap a1) 500)).bind fun r2 =>
  bif (r2.2.1 != 0) then
    some ((r1 && (r2.1 == 0)) && (r2.2.1 == 3))
  else
    (m10 a0).bind fun r3 =>
    (m10 r2.1).bind fun r4 =>
    asrt (((r3.2.2.2.1 != 0) || (r4.2.2.2.1 != 0)) == false) true (
      (bif ((((r3.2.2.2.1 != 0) || (r4.2.2.2.1 != 0)) || ((IntKind.i64.wrap ((IntKind.i64.wrap (12 * r4.1)) + r4.2.1)) != (IntKind.i64.wrap ((IntKind.i64.wrap ((IntKind.i64.wrap (12 * r3.1)) + r3.2.1)) + (Int.tmod (IntKind.i64.wrap a1) 500))))) == false) then (m16 r4.1 r4.2.1) else some 0).bind fun r5 =>
      bif ((((r3.2.2.2.1 != 0) || (r4.2.2.2.1 != 0)) || ((IntKind.i64.wrap ((IntKind.i64.wrap (12 * r4.1)) + r4.2.1)) != (IntKind.i64.wrap ((IntKind.i64.wrap ((IntKind.i64.wrap (12 * r3.1)) + r3.2.1)) + (Int.tmod (IntKind.i64.wrap a1) 500))))) || (r4.2.2.1 != (bif decide (r5 < r3.2.2.1) then r5 else r3.2.2.1))) then
        some false
      else
        (m22 (IntKind.i64.wrap (a0 + (IntKind.i64.wrap a3))) (Int.tmod (IntKind.i64.wrap a1) 500)).bind fun r6 =>
        bif ((r6.2.1 == 0) && (decide (r6.1 < r2.1))) then
          some false
        else
          bif (decide (r3.2.2.1 > 28)) then
            some r1
          else
            (m22 r2.1 (Int.tmod (IntKind.i64.wrap a2) 500)).bind fun r7 =>
            (m22 a0 (IntKind.i64.wrap ((Int.tmod (IntKind.i64.wrap a1) 500) + (Int.tmod (IntKind.i64.wrap a2) 500)))).bind fun r8 =>
            (m22 r2.1 (IntKind.i64.wrap (0 - (Int.tmod (IntKind.i64.wrap a1) 500)))).bind fun r9 =>
            some ((((r1 && (r7.2.1 == r8.2.1)) && (r7.1 == r8.1)) && (r9.2.1 == 0)) && (r9.1 == a0)))
noncomputable def e5 : PmE := entry 5 [(.int .i64), (.int .i16), (.int .i16), (.int .u8)] false .bool (fun x => m5 x.1 x.2.1 x.2.2.1 x.2.2.2.1)
theorem q5 (x : tyL [(.int .i64), (.int .i16), (.int .i16), (.int .u8)]) : execF E5 C5 Try.f5 (datL [(.int .i64), (.int .i16), (.int .i16), (.int .u8)] x) [] (retK false .bool) = m5 x.1 x.2.1 x.2.2.1 x.2.2.2.1 := by kernel_rfl
theorem p5 : PmOk Try.prog e5 := pm_ok (E := E5) ok5 ord lm5 Try.func5 ca5 q5

/-! 24: consol/consollaw07.byteLess -/
theorem ca24 : callable Try.prog 24 := ⟨Try.f24, Try.func24, by kernel_rfl, by kernel_rfl⟩
noncomputable def E24 : Env := mkEnv2 Try.prog [] []
theorem ok24 : EnvOk E24 := mkEnv2_ok (by simp) (by simp)
/-- a round of a loop of consol/consollaw07.byteLess -/
noncomputable def s24_1 {R : Type} (t0 : List UInt8) (t1 : List UInt8) (kn : Int → Option R) (k1 : Option R) (k2 : Bool → Option R) (t5 : Int) : Option R :=
  bif ((decide (t5 < (List.length t0 : Int))) && (decide (t5 < (List.length t1 : Int)))) then
    (idx t0 t5).bind fun c1 =>
    (idx t1 t5).bind fun c2 =>
    bif ((c1.toNat : Int) != (c2.toNat : Int)) then
      (idx t0 t5).bind fun c3 =>
      (idx t1 t5).bind fun c4 =>
      k2 (decide ((c3.toNat : Int) < (c4.toNat : Int)))
    else
      kn (IntKind.i64.wrap (t5 + 1))
  else
    k1
noncomputable def l24_1 {R : Type} (t0 : List UInt8) (t1 : List UInt8) (k1 : Option R) (k2 : Bool → Option R) : Nat → Int → Option R
  | 0, _ => none
  | n + 1, t5 => s24_1 t0 t1 (l24_1 t0 t1 k1 k2 n) k1 k2 t5
noncomputable def L24_1 : LE := ⟨3, 0, ⟨[(0, (.dat .str)), (1, (.dat .str)), (5, (.dat (.int .i64)))], []⟩, fun R n x k => l24_1 x.1.1 x.1.2.1 (k (.exit 0) ⟨[(0, (.dat .str x.1.1)), (1, (.dat .str x.1.2.1))], []⟩) (fun y0 => k .ret ⟨[(4, (.dat .bool y0))], []⟩) n x.1.2.2.1⟩
noncomputable def C24 : Cfg := mkCfg [(3, ⟨[0, 1, 5], []⟩)] [(3, (⟨[0, 1], []⟩, ⟨[4], []⟩))] (([(0, L24_1)] : List (Nat × LE)).map (·.2))
theorem ek24_1 : EOk E24 C24 Try.f24.ntmps (bodyL Try.f24 0) L24_1 := eok_of (e := L24_1) (fun R x Kn k => s24_1 x.1.1 x.1.2.1 (fun v0 => Kn ((x.1.1, x.1.2.1, v0, ()), (()))) (k (.exit 0) ⟨[(0, (.dat .str x.1.1)), (1, (.dat .str x.1.2.1))], []⟩) (fun y0 => k .ret ⟨[(4, (.dat .bool y0))], []⟩) x.1.2.2.1) (fun _ _ _ => rfl) (fun _ _ _ _ => rfl) (fun R x Kn k => by kernel_rfl)
theorem lm24 : ∀ c, Try.f24.body = some c → LmOk E24 C24 Try.f24.ntmps c := lmOk_of (ps := [(0, L24_1)]) (by kernel_rfl) (by kernel_rfl) ⟨ek24_1, trivial⟩
noncomputable def m24 (a0 : List UInt8) (a1 : List UInt8) : Option (Bool) :=
  l24_1 a0 a1 (
      some (decide ((List.length a0 : Int) < (List.length a1 : Int)))) (fun y5 =>
      some y5) FUEL 0
noncomputable def e24 : PmE := entry 24 [.str, .str] false .bool (fun x => m24 x.1 x.2.1)
theorem q24 (x : tyL [.str, .str]) : execF E24 C24 Try.f24 (datL [.str, .str] x) [] (retK false .bool) = m24 x.1 x.2.1 := by kernel_rfl
theorem p24 : PmOk Try.prog e24 := pm_ok (E := E24) ok24 ord lm24 Try.func24 ca24 q24

/-! 6: consol/consollaw07.DateTexts -/
theorem ca6 : callable Try.prog 6 := ⟨Try.f6, Try.func6, by kernel_rfl, by kernel_rfl⟩
noncomputable def E6 : Env := mkEnv2 Try.prog [e7, e12, e20, e24] []
theorem ok6 : EnvOk E6 := mkEnv2_ok (by simp only [List.mem_cons, List.not_mem_nil, or_false, forall_eq_or_imp, forall_eq]; exact ⟨p7, p12, p20, p24⟩) (by simp)
noncomputable def C6 : Cfg := noCfg
theorem lm6 : ∀ c, Try.f6.body = some c → LmOk E6 C6 Try.f6.ntmps c := fun _ _ => noCfg_lm
noncomputable def m6 (a0 : Int) (a1 : Int) (a2 : List UInt8) : Option (Bool) :=
  (m7).bind fun r1 =>
  (m12 a2).bind fun r2 =>
  (bif ((r2.2.1 == 0) == true) then (m20 r2.1) else some []).bind fun r3 =>
  bif (((r2.2.1 == 0) && (!(r3 == a2))) || ((r2.2.1 != 0) && (r2.1 != 0))) then
    some false
  else
    (m20 a0).bind fun r4 =>
    bif (r4 == ([] : List UInt8)) then
      some (r1 && ((decide (a0 < 0)) || (decide (a0 > 200000))))
    else
      (m12 r4).bind fun r5 =>
      (m20 a1).bind fun r6 =>
      (bif (((((r1 && (r5.2.1 == 0)) && (r5.1 == a0)) && ((List.length r4 : Int) == 10)) == true) && ((r6 == ([] : List UInt8)) == false)) then (m24 r4 r6) else some false).bind fun r7 =>
      some ((((r1 && (r5.2.1 == 0)) && (r5.1 == a0)) && ((List.length r4 : Int) == 10)) && ((r6 == ([] : List UInt8)) || (r7 == (decide (a0 < a1)))))
noncomputable def e6 : PmE := entry 6 [(.int .i64), (.int .i64), .str] false .bool (fun x => m6 x.1 x.2.1 x.2.2.1)
theorem q6 (x : tyL [(.int .i64), (.int .i64), .str]) : execF E6 C6 Try.f6 (datL [(.int .i64), (.int .i64), .str] x) [] (retK false .bool) = m6 x.1 x.2.1 x.2.2.1 := by kernel_rfl
theorem p6 : PmOk Try.prog e6 := pm_ok (E := E6) ok6 ord lm6 Try.func6 ca6 q6

/-! 15: consol/consolref07.Leap -/
theorem ca15 : callable Try.prog 15 := ⟨Try.f15, Try.func15, by kernel_rfl, by kernel_rfl⟩
noncomputable def E15 : Env := mkEnv2 Try.prog [] []
theorem ok15 : EnvOk E15 := mkEnv2_ok (by simp) (by simp)
noncomputable def C15 : Cfg := noCfg
theorem lm15 : ∀ c, Try.f15.body = some c → LmOk E15 C15 Try.f15.ntmps c := fun _ _ => noCfg_lm
noncomputable def m15 (a0 : Int) : Option (Bool) :=
  bif ((Int.tmod a0 100) == 0) then
    some ((Int.tmod a0 400) == 0)
  else
    some ((Int.tmod a0 4) == 0)
noncomputable def e15 : PmE := entry 15 [(.int .i64)] false .bool (fun x => m15 x.1)
theorem q15 (x : tyL [(.int .i64)]) : execF E15 C15 Try.f15 (datL [(.int .i64)] x) [] (retK false .bool) = m15 x.1 := by kernel_rfl
theorem p15 : PmOk Try.prog e15 := pm_ok (E := E15) ok15 ord lm15 Try.func15 ca15 q15

/-! 17: consol/consolref07.Last -/
theorem ca17 : callable Try.prog 17 := ⟨Try.f17, Try.func17, by kernel_rfl, by kernel_rfl⟩
noncomputable def E17 : Env := mkEnv2 Try.prog [e15] []
theorem ok17 : EnvOk E17 := mkEnv2_ok (by simp only [List.mem_cons, List.not_mem_nil, or_false, forall_eq]; exact p15) (by simp)
noncomputable def C17 : Cfg := noCfg
theorem lm17 : ∀ c, Try.f17.body = some c → LmOk E17 C17 Try.f17.ntmps c := fun _ _ => noCfg_lm
noncomputable def m17 (a0 : Int) (a1 : Int) : Option (Int) :=
  bif ((decide (a1 < 1)) || (decide (a1 > 12))) then
    some 0
  else
    (bif ((a1 == 2) == true) then (m15 a0) else some false).bind fun r1 =>
    bif ((a1 == 2) && r1) then
      some 29
    else
      asrt true (decide (0 ≤ (IntKind.i64.wrap (a1 - 1))) && decide ((IntKind.i64.wrap (a1 - 1)) < (List.length [31, 28, 31, 30, 31, 30, 31, 31, 30, 31, 30, 31] : Int))) (
        (([31, 28, 31, 30, 31, 30, 31, 31, 30, 31, 30, 31])[((IntKind.i64.wrap (a1 - 1)) : Int).toNat]?).bind fun x2 =>
        some x2)
noncomputable def e17 : PmE := entry 17 [(.int .i64), (.int .i64)] false (.int .i64) (fun x => m17 x.1 x.2.1)
theorem q17 (x : tyL [(.int .i64), (.int .i64)]) : execF E17 C17 Try.f17 (datL [(.int .i64), (.int .i64)] x) [] (retK false (.int .i64)) = m17 x.1 x.2.1 := by kernel_rfl
theorem p17 : PmOk Try.prog e17 := pm_ok (E := E17) ok17 ord lm17 Try.func17 ca17 q17

/-! 27: consol/consolref07.year -/
theorem ca27 : callable Try.prog 27 := ⟨Try.f27, Try.func27, by kernel_rfl, by kernel_rfl⟩
noncomputable def E27 : Env := mkEnv2 Try.prog [e15] []
theorem ok27 : EnvOk E27 := mkEnv2_ok (by simp only [List.mem_cons, List.not_mem_nil, or_false, forall_eq]; exact p15) (by simp)
noncomputable def C27 : Cfg := noCfg
theorem lm27 : ∀ c, Try.f27.body = some c → LmOk E27 C27 Try.f27.ntmps c := fun _ _ => noCfg_lm
noncomputable def m27 (a0 : Int) : Option (Int) :=
  (m15 a0).bind fun r1 =>
  bif r1 then
    some 366
  else
    some 365
noncomputable def e27 : PmE := entry 27 [(.int .i64)] false (.int .i64) (fun x => m27 x.1)
theorem q27 (x : tyL [(.int .i64)]) : execF E27 C27 Try.f27 (datL [(.int .i64)] x) [] (retK false (.int .i64)) = m27 x.1 := by kernel_rfl
theorem p27 : PmOk Try.prog e27 := pm_ok (E := E27) ok27 ord lm27 Try.func27 ca27 q27

/-! 9: consol/consolref07.Of -/
theorem ca9 : callable Try.prog 9 := ⟨Try.f9, Try.func9, by kernel_rfl, by kernel_rfl⟩
noncomputable def E9 : Env := mkEnv2 Try.prog [e17, e27] []
theorem ok9 : EnvOk E9 := mkEnv2_ok (by simp only [List.mem_cons, List.not_mem_nil, or_false, forall_eq_or_imp, forall_eq]; exact ⟨p17, p27⟩) (by simp)
/-- a round of a loop of consol/consolref07.Of -/
noncomputable def s9_1 {R : Type} (t0 : Int) (t1 : Int) (kn : Int → Int → Option R) (k1 : Int → Option R) (t8 : Int) (t9 : Int) : Option R :=
  bif (decide (t9 < t1)) then
    (m17 t0 t9).bind fun r2 =>
    kn (IntKind.i64.wrap (t8 + r2)) (IntKind.i64.wrap (t9 + 1))
  else
    k1 t8
noncomputable def l9_1 {R : Type} (t0 : Int) (t1 : Int) (k1 : Int → Option R) : Nat → Int → Int → Option R
  | 0, _, _ => none
  | n + 1, t8, t9 => s9_1 t0 t1 (l9_1 t0 t1 k1 n) k1 t8 t9
noncomputable def L9_1 : LE := ⟨6, 0, ⟨[(0, (.dat (.int .i64))), (1, (.dat (.int .i64))), (8, (.dat (.int .i64))), (9, (.dat (.int .i64)))], []⟩, fun R n x k => l9_1 x.1.1 x.1.2.1 (fun y0 => k (.exit 0) ⟨[(0, (.dat (.int .i64) x.1.1)), (8, (.dat (.int .i64) y0))], []⟩) n x.1.2.2.1 x.1.2.2.2.1⟩
/-- a round of a loop of consol/consolref07.Of -/
noncomputable def s9_2 {R : Type} (t0 : Int) (kn : Int → Int → Option R) (k1 : Int → Option R) (t8 : Int) (t10 : Int) : Option R :=
  bif ((decide (t10 < t0)) && (decide (t8 ≤ 200000))) then
    (m27 t10).bind fun r4 =>
    kn (IntKind.i64.wrap (t8 + r4)) (IntKind.i64.wrap (t10 + 1))
  else
    k1 t8
noncomputable def l9_2 {R : Type} (t0 : Int) (k1 : Int → Option R) : Nat → Int → Int → Option R
  | 0, _, _ => none
  | n + 1, t8, t10 => s9_2 t0 (l9_2 t0 k1 n) k1 t8 t10
noncomputable def L9_2 : LE := ⟨10, 0, ⟨[(0, (.dat (.int .i64))), (8, (.dat (.int .i64))), (10, (.dat (.int .i64)))], []⟩, fun R n x k => l9_2 x.1.1 (fun y0 => k (.exit 2) ⟨[(0, (.dat (.int .i64) x.1.1)), (8, (.dat (.int .i64) y0))], []⟩) n x.1.2.1 x.1.2.2.1⟩
noncomputable def C9 : Cfg := mkCfg [(6, ⟨[0, 1, 8, 9], []⟩), (10, ⟨[0, 8, 10], []⟩)] [(6, (⟨[0, 8], []⟩, ⟨[6, 7], []⟩)), (10, (⟨[0, 8], []⟩, ⟨[6, 7], []⟩))] (([(0, L9_1), (1, L9_2)] : List (Nat × LE)).map (·.2))
theorem ek9_1 : EOk E9 C9 Try.f9.ntmps (bodyL Try.f9 0) L9_1 := eok_of (e := L9_1) (fun R x Kn k => s9_1 x.1.1 x.1.2.1 (fun v0 v1 => Kn ((x.1.1, x.1.2.1, v0, v1, ()), (()))) (fun y0 => k (.exit 0) ⟨[(0, (.dat (.int .i64) x.1.1)), (8, (.dat (.int .i64) y0))], []⟩) x.1.2.2.1 x.1.2.2.2.1) (fun _ _ _ => rfl) (fun _ _ _ _ => rfl) (fun R x Kn k => by kernel_rfl)
theorem ek9_2 : EOk E9 C9 Try.f9.ntmps (bodyL Try.f9 1) L9_2 := eok_of (e := L9_2) (fun R x Kn k => s9_2 x.1.1 (fun v0 v1 => Kn ((x.1.1, v0, v1, ()), (()))) (fun y0 => k (.exit 2) ⟨[(0, (.dat (.int .i64) x.1.1)), (8, (.dat (.int .i64) y0))], []⟩) x.1.2.1 x.1.2.2.1) (fun _ _ _ => rfl) (fun _ _ _ _ => rfl) (fun R x Kn k => by kernel_rfl)
theorem lm9 : ∀ c, Try.f9.body = some c → LmOk E9 C9 Try.f9.ntmps c := lmOk_of (ps := [(0, L9_1), (1, L9_2)]) (by kernel_rfl) (by kernel_rfl) ⟨ek9_1, ek9_2, trivial⟩
noncomputable def m9 (a0 : Int) (a1 : Int) (a2 : Int) : Option ((Int × (Int × Unit))) :=
  (bif ((((decide (a1 < 1)) || (decide (a1 > 12))) || (decide (a2 < 1))) == false) then (m17 a0 a1) else some 0).bind fun r1 =>
  bif ((((decide (a1 < 1)) || (decide (a1 > 12))) || (decide (a2 < 1))) || (decide (a2 > r1))) then
    some (0, 23, ())
  else
    l9_1 a0 a1 (fun y3 =>
        l9_2 a0 (fun y5 =>
            bif ((decide (a0 < 1900)) || (decide (y5 > 200000))) then
              some (0, 3, ())
            else
              some (y5, 0, ())) FUEL y3 1900) FUEL (IntKind.i64.wrap (a2 - 1)) 1
noncomputable def e9 : PmE := entry 9 [(.int .i64), (.int .i64), (.int .i64)] true (.cons (.int .i64) (.cons (.int .i64) .nil)) (fun x => m9 x.1 x.2.1 x.2.2.1)
theorem q9 (x : tyL [(.int .i64), (.int .i64), (.int .i64)]) : execF E9 C9 Try.f9 (datL [(.int .i64), (.int .i64), (.int .i64)] x) [] (retK true (.cons (.int .i64) (.cons (.int .i64) .nil))) = m9 x.1 x.2.1 x.2.2.1 := by kernel_rfl
theorem p9 : PmOk Try.prog e9 := pm_ok (E := E9) ok9 ord lm9 Try.func9 ca9 q9

/-! 11: consol/consolref07.Parts -/
theorem ca11 : callable Try.prog 11 := ⟨Try.f11, Try.func11, by kernel_rfl, by kernel_rfl⟩
noncomputable def E11 : Env := mkEnv2 Try.prog [e17, e27] []
theorem ok11 : EnvOk E11 := mkEnv2_ok (by simp only [List.mem_cons, List.not_mem_nil, or_false, forall_eq_or_imp, forall_eq]; exact ⟨p17, p27⟩) (by simp)
/-- a round of a loop of consol/consolref07.Parts -/
noncomputable def s11_1 {R : Type} (kn : Int → Int → Option R) (k1 : Int → Int → Option R) (t0 : Int) (t6 : Int) : Option R :=
  (m27 t6).bind fun r1 =>
  bif (decide (t0 ≥ r1)) then
    (m27 t6).bind fun r2 =>
    kn (IntKind.i64.wrap (t0 - r2)) (IntKind.i64.wrap (t6 + 1))
  else
    k1 t0 t6
noncomputable def l11_1 {R : Type} (k1 : Int → Int → Option R) : Nat → Int → Int → Option R
  | 0, _, _ => none
  | n + 1, t0, t6 => s11_1 (l11_1 k1 n) k1 t0 t6
noncomputable def L11_1 : LE := ⟨5, 0, ⟨[(0, (.dat (.int .i64))), (6, (.dat (.int .i64)))], []⟩, fun R n x k => l11_1 (fun y0 y1 => k (.exit 0) ⟨[(0, (.dat (.int .i64) y0)), (6, (.dat (.int .i64) y1))], []⟩) n x.1.1 x.1.2.1⟩
/-- a round of a loop of consol/consolref07.Parts -/
noncomputable def s11_2 {R : Type} (t6 : Int) (kn : Int → Int → Option R) (k1 : Int → Int → Option R) (t0 : Int) (t7 : Int) : Option R :=
  (m17 t6 t7).bind fun r5 =>
  bif (decide (t0 ≥ r5)) then
    (m17 t6 t7).bind fun r6 =>
    kn (IntKind.i64.wrap (t0 - r6)) (IntKind.i64.wrap (t7 + 1))
  else
    k1 t0 t7
noncomputable def l11_2 {R : Type} (t6 : Int) (k1 : Int → Int → Option R) : Nat → Int → Int → Option R
  | 0, _, _ => none
  | n + 1, t0, t7 => s11_2 t6 (l11_2 t6 k1 n) k1 t0 t7
noncomputable def L11_2 : LE := ⟨9, 0, ⟨[(0, (.dat (.int .i64))), (6, (.dat (.int .i64))), (7, (.dat (.int .i64)))], []⟩, fun R n x k => l11_2 x.1.2.1 (fun y0 y1 => k (.exit 2) ⟨[(0, (.dat (.int .i64) y0)), (6, (.dat (.int .i64) x.1.2.1)), (7, (.dat (.int .i64) y1))], []⟩) n x.1.1 x.1.2.2.1⟩
noncomputable def C11 : Cfg := mkCfg [(5, ⟨[0, 6], []⟩), (9, ⟨[0, 6, 7], []⟩)] [(5, (⟨[0, 6], []⟩, ⟨[2, 3, 4, 5], []⟩)), (9, (⟨[0, 6, 7], []⟩, ⟨[2, 3, 4, 5], []⟩))] (([(0, L11_1), (1, L11_2)] : List (Nat × LE)).map (·.2))
theorem ek11_1 : EOk E11 C11 Try.f11.ntmps (bodyL Try.f11 0) L11_1 := eok_of (e := L11_1) (fun R x Kn k => s11_1 (fun v0 v1 => Kn ((v0, v1, ()), (()))) (fun y0 y1 => k (.exit 0) ⟨[(0, (.dat (.int .i64) y0)), (6, (.dat (.int .i64) y1))], []⟩) x.1.1 x.1.2.1) (fun _ _ _ => rfl) (fun _ _ _ _ => rfl) (fun R x Kn k => by kernel_rfl)
theorem ek11_2 : EOk E11 C11 Try.f11.ntmps (bodyL Try.f11 1) L11_2 := eok_of (e := L11_2) (fun R x Kn k => s11_2 x.1.2.1 (fun v0 v1 => Kn ((v0, x.1.2.1, v1, ()), (()))) (fun y0 y1 => k (.exit 2) ⟨[(0, (.dat (.int .i64) y0)), (6, (.dat (.int .i64) x.1.2.1)), (7, (.dat (.int .i64) y1))], []⟩) x.1.1 x.1.2.2.1) (fun _ _ _ => rfl) (fun _ _ _ _ => rfl) (fun R x Kn k => by kernel_rfl)
theorem lm11 : ∀ c, Try.f11.body = some c → LmOk E11 C11 Try.f11.ntmps c := lmOk_of (ps := [(0, L11_1), (1, L11_2)]) (by kernel_rfl) (by kernel_rfl) ⟨ek11_1, ek11_2, trivial⟩
noncomputable def m11 (a0 : Int) : Option ((Int × (Int × (Int × (Int × Unit))))) :=
  bif ((decide (a0 < 0)) || (decide (a0 > 200000))) then
    some (0, 0, 0, 3, ())
  else
    l11_1 (fun y3 y4 =>
        l11_2 y4 (fun y7 y8 =>
            some (y4, y8, (IntKind.i64.wrap (y7 + 1)), 0, ())) FUEL y3 1) FUEL a0 1900
noncomputable def e11 : PmE := entry 11 [(.int .i64)] true (.cons (.int .i64) (.cons (.int .i64) (.cons (.int .i64) (.cons (.int .i64) .nil)))) (fun x => m11 x.1)
theorem q11 (x : tyL [(.int .i64)]) : execF E11 C11 Try.f11 (datL [(.int .i64)] x) [] (retK true (.cons (.int .i64) (.cons (.int .i64) (.cons (.int .i64) (.cons (.int .i64) .nil))))) = m11 x.1 := by kernel_rfl
theorem p11 : PmOk Try.prog e11 := pm_ok (E := E11) ok11 ord lm11 Try.func11 ca11 q11

/-! 13: consol/consolref07.Read -/
theorem ca13 : callable Try.prog 13 := ⟨Try.f13, Try.func13, by kernel_rfl, by kernel_rfl⟩
noncomputable def E13 : Env := mkEnv2 Try.prog [e9] []
theorem ok13 : EnvOk E13 := mkEnv2_ok (by simp only [List.mem_cons, List.not_mem_nil, or_false, forall_eq]; exact p9) (by simp)
/-- a round of a loop of consol/consolref07.Read -/
noncomputable def s13_1 {R : Type} (t0 : List UInt8) (kn : Int → Int → (List Int) → Option R) (k1 : Int → (List Int) → Option R) (k2 : Option R) (t5 : Int) (t6 : Int) (o0 : (List Int)) : Option R :=
  bif (decide (t6 < (List.length t0 : Int))) then
    cont (fun (k5 : (Int × (List Int)) → _) =>
      bif ((t6 == 4) || (t6 == 7)) then
        (idx t0 t6).bind fun c1 =>
        bif ((c1.toNat : Int) != 45) then
          k2
        else
          asrt true (decide (List.length (α := Int) o0 + List.length (α := Int) [t5] ≤ LIM)) (
            k5 (0, (o0 ++ [t5])))
      else
        (idx t0 t6).bind fun c2 =>
        (idxG ((decide ((c2.toNat : Int) < 48)) == false) (0 : UInt8) t0 t6).bind fun c3 =>
        bif ((decide ((c2.toNat : Int) < 48)) || (decide ((c3.toNat : Int) > 57))) then
          k2
        else
          (idx t0 t6).bind fun c4 =>
          k5 ((IntKind.i64.wrap ((IntKind.i64.wrap (10 * t5)) + (IntKind.i64.wrap (IntKind.u8.wrap ((c4.toNat : Int) - 48))))), o0)) fun y5 =>
    kn y5.1 (IntKind.i64.wrap (t6 + 1)) y5.2
  else
    k1 t5 o0
noncomputable def l13_1 {R : Type} (t0 : List UInt8) (k1 : Int → (List Int) → Option R) (k2 : Option R) : Nat → Int → Int → (List Int) → Option R
  | 0, _, _, _ => none
  | n + 1, t5, t6, o0 => s13_1 t0 (l13_1 t0 k1 k2 n) k1 k2 t5 t6 o0
noncomputable def L13_1 : LE := ⟨7, 0, ⟨[(0, (.dat .str)), (4, (.own 0)), (5, (.dat (.int .i64))), (6, (.dat (.int .i64)))], [(.arr (.int .i64))]⟩, fun R n x k => l13_1 x.1.1 (fun y0 y1 => k (.exit 0) ⟨[(4, (.own 0)), (5, (.dat (.int .i64) y0))], [(.arr (.int .i64) y1)]⟩) (k .ret ⟨[(2, (.dat (.int .i64) 0)), (3, (.dat (.int .i64) 2))], []⟩) n x.1.2.2.1 x.1.2.2.2.1 x.2.1⟩
noncomputable def C13 : Cfg := mkCfg [(7, ⟨[0, 4, 5, 6], [(4, (.int .i64))]⟩), (8, ⟨[0, 4, 5, 6], [(4, (.int .i64))]⟩)] [(7, (⟨[4, 5], []⟩, ⟨[2, 3], []⟩))] (([(0, L13_1)] : List (Nat × LE)).map (·.2))
theorem ek13_1 : EOk E13 C13 Try.f13.ntmps (bodyL Try.f13 0) L13_1 := eok_of (e := L13_1) (fun R x Kn k => s13_1 x.1.1 (fun v0 v1 v2 => Kn ((x.1.1, (), v0, v1, ()), (v2, ()))) (fun y0 y1 => k (.exit 0) ⟨[(4, (.own 0)), (5, (.dat (.int .i64) y0))], [(.arr (.int .i64) y1)]⟩) (k .ret ⟨[(2, (.dat (.int .i64) 0)), (3, (.dat (.int .i64) 2))], []⟩) x.1.2.2.1 x.1.2.2.2.1 x.2.1) (fun _ _ _ => rfl) (fun _ _ _ _ => rfl) (fun R x Kn k => by kernel_rfl)
theorem lm13 : ∀ c, Try.f13.body = some c → LmOk E13 C13 Try.f13.ntmps c := lmOk_of (ps := [(0, L13_1)]) (by kernel_rfl) (by kernel_rfl) ⟨ek13_1, trivial⟩
noncomputable def m13 (a0 : List UInt8) : Option ((Int × (Int × Unit))) :=
  bif ((List.length a0 : Int) != 10) then
    some (0, 2, ())
  else
    l13_1 a0 (fun y6 y7 =>
        asrt true (decide (0 ≤ 0) && decide (0 < (List.length y7 : Int))) (
          ((y7)[(0 : Int).toNat]?).bind fun x8 =>
          asrt true (decide (0 ≤ 1) && decide (1 < (List.length y7 : Int))) (
            ((y7)[(1 : Int).toNat]?).bind fun x9 =>
            (m9 x8 x9 y6).bind fun r10 =>
            some (r10.1, r10.2.1, ())))) (
        some (0, 2, ())) FUEL 0 0 []
noncomputable def e13 : PmE := entry 13 [.str] true (.cons (.int .i64) (.cons (.int .i64) .nil)) (fun x => m13 x.1)
theorem q13 (x : tyL [.str]) : execF E13 C13 Try.f13 (datL [.str] x) [] (retK true (.cons (.int .i64) (.cons (.int .i64) .nil))) = m13 x.1 := by kernel_rfl
theorem p13 : PmOk Try.prog e13 := pm_ok (E := E13) ok13 ord lm13 Try.func13 ca13 q13

/-! 19: consol/consolref07.Weekday -/
theorem ca19 : callable Try.prog 19 := ⟨Try.f19, Try.func19, by kernel_rfl, by kernel_rfl⟩
noncomputable def E19 : Env := mkEnv2 Try.prog [] []
theorem ok19 : EnvOk E19 := mkEnv2_ok (by simp) (by simp)
noncomputable def C19 : Cfg := noCfg
theorem lm19 : ∀ c, Try.f19.body = some c → LmOk E19 C19 Try.f19.ntmps c := fun _ _ => noCfg_lm
noncomputable def m19 (a0 : Int) : Option (Int) :=
  bif ((decide (a0 < 0)) || (decide (a0 > 200000))) then
    some (-1)
  else
    some (Int.tmod a0 7)
noncomputable def e19 : PmE := entry 19 [(.int .i64)] false (.int .i64) (fun x => m19 x.1)
theorem q19 (x : tyL [(.int .i64)]) : execF E19 C19 Try.f19 (datL [(.int .i64)] x) [] (retK false (.int .i64)) = m19 x.1 := by kernel_rfl
theorem p19 : PmOk Try.prog e19 := pm_ok (E := E19) ok19 ord lm19 Try.func19 ca19 q19

/-! 30: consol/consolref07.two -/
theorem ca30 : callable Try.prog 30 := ⟨Try.f30, Try.func30, by kernel_rfl, by kernel_rfl⟩
noncomputable def E30 : Env := mkEnv2 Try.prog [] []
theorem ok30 : EnvOk E30 := mkEnv2_ok (by simp) (by simp)
noncomputable def C30 : Cfg := noCfg
theorem lm30 : ∀ c, Try.f30.body = some c → LmOk E30 C30 Try.f30.ntmps c := fun _ _ => noCfg_lm
noncomputable def m30 (a0 : Int) : Option (List UInt8) :=
  some (List.map (fun n => UInt8.ofNat (Int.toNat n)) [(IntKind.u8.wrap (IntKind.i64.wrap (48 + (Int.tmod (IntKind.i64.wrap (Int.tdiv a0 10)) 10)))), (IntKind.u8.wrap (IntKind.i64.wrap (48 + (Int.tmod a0 10))))])
noncomputable def e30 : PmE := entry 30 [(.int .i64)] false .str (fun x => m30 x.1)
theorem q30 (x : tyL [(.int .i64)]) : execF E30 C30 Try.f30 (datL [(.int .i64)] x) [] (retK false .str) = m30 x.1 := by kernel_rfl
theorem p30 : PmOk Try.prog e30 := pm_ok (E := E30) ok30 ord lm30 Try.func30 ca30 q30

/-! 21: consol/consolref07.Text -/
theorem ca21 : callable Try.prog 21 := ⟨Try.f21, Try.func21, by kernel_rfl, by kernel_rfl⟩
noncomputable def E21 : Env := mkEnv2 Try.prog [e11, e30] []
theorem ok21 : EnvOk E21 := mkEnv2_ok (by simp only [List.mem_cons, List.not_mem_nil, or_false, forall_eq_or_imp, forall_eq]; exact ⟨p11, p30⟩) (by simp)
noncomputable def C21 : Cfg := noCfg
theorem lm21 : ∀ c, Try.f21.body = some c → LmOk E21 C21 Try.f21.ntmps c := fun _ _ => noCfg_lm
noncomputable def m21 (a0 : Int) : Option (List UInt8) :=
  (m11 a0).bind fun r1 =>
  bif (r1.2.2.2.1 != 0) then
    some []
  else
    (m30 (IntKind.i64.wrap (Int.tdiv r1.1 100))).bind fun r2 =>
    (m30 (Int.tmod r1.1 100)).bind fun r3 =>
    asrt true (decide (r2.length + r3.length ≤ 4294967296)) (
      asrt true (decide ((r2 ++ r3).length + ([45] : List UInt8).length ≤ 4294967296)) (
        (m30 r1.2.1).bind fun r4 =>
        asrt true (decide (((r2 ++ r3) ++ [45]).length + r4.length ≤ 4294967296)) (
          asrt true (decide ((((r2 ++ r3) ++ [45]) ++ r4).length + ([45] : List UInt8).length ≤ 4294967296)) (
            (m30 r1.2.2.1).bind fun r5 =>
            asrt true (decide (((((r2 ++ r3) ++ [45]) ++ r4) ++ [45]).length + r5.length ≤ 4294967296)) (
              some (((((r2 ++ r3) ++ [45]) ++ r4) ++ [45]) ++ r5))))))
noncomputable def e21 : PmE := entry 21 [(.int .i64)] false .str (fun x => m21 x.1)
theorem q21 (x : tyL [(.int .i64)]) : execF E21 C21 Try.f21 (datL [(.int .i64)] x) [] (retK false .str) = m21 x.1 := by kernel_rfl
theorem p21 : PmOk Try.prog e21 := pm_ok (E := E21) ok21 ord lm21 Try.func21 ca21 q21

/-! 23: consol/consolref07.AddMonths -/
theorem ca23 : callable Try.prog 23 := ⟨Try.f23, Try.func23, by kernel_rfl, by kernel_rfl⟩
noncomputable def E23 : Env := mkEnv2 Try.prog [e9, e11, e17] []
theorem ok23 : EnvOk E23 := mkEnv2_ok (by simp only [List.mem_cons, List.not_mem_nil, or_false, forall_eq_or_imp, forall_eq]; exact ⟨p9, p11, p17⟩) (by simp)
/-- a round of a loop of consol/consolref07.AddMonths -/
noncomputable def s23_1 {R : Type} (kn : Int → Int → Int → Option R) (k1 : Int → Int → Int → Option R) (t1 : Int) (t6 : Int) (t7 : Int) : Option R :=
  bif (decide (t1 > 0)) then
    cont (fun (k2 : (Int × Int) → _) =>
      bif ((IntKind.i64.wrap (t7 + 1)) == 13) then
        k2 ((IntKind.i64.wrap (t6 + 1)), 1)
      else
        k2 (t6, (IntKind.i64.wrap (t7 + 1)))) fun y2 =>
    kn (IntKind.i64.wrap (t1 - 1)) y2.1 y2.2
  else
    k1 t1 t6 t7
noncomputable def l23_1 {R : Type} (k1 : Int → Int → Int → Option R) : Nat → Int → Int → Int → Option R
  | 0, _, _, _ => none
  | n + 1, t1, t6, t7 => s23_1 (l23_1 k1 n) k1 t1 t6 t7
noncomputable def L23_1 : LE := ⟨5, 0, ⟨[(1, (.dat (.int .i64))), (6, (.dat (.int .i64))), (7, (.dat (.int .i64))), (8, (.dat (.int .i64)))], []⟩, fun R n x k => l23_1 (fun y0 y1 y2 => k (.exit 0) ⟨[(1, (.dat (.int .i64) y0)), (6, (.dat (.int .i64) y1)), (7, (.dat (.int .i64) y2)), (8, (.dat (.int .i64) x.1.2.2.2.1))], []⟩) n x.1.1 x.1.2.1 x.1.2.2.1⟩
/-- a round of a loop of consol/consolref07.AddMonths -/
noncomputable def s23_2 {R : Type} (kn : Int → Int → Int → Option R) (k1 : Int → Int → Option R) (t1 : Int) (t6 : Int) (t7 : Int) : Option R :=
  bif (decide (t1 < 0)) then
    cont (fun (k6 : (Int × Int) → _) =>
      bif ((IntKind.i64.wrap (t7 - 1)) == 0) then
        k6 ((IntKind.i64.wrap (t6 - 1)), 12)
      else
        k6 (t6, (IntKind.i64.wrap (t7 - 1)))) fun y6 =>
    kn (IntKind.i64.wrap (t1 + 1)) y6.1 y6.2
  else
    k1 t6 t7
noncomputable def l23_2 {R : Type} (k1 : Int → Int → Option R) : Nat → Int → Int → Int → Option R
  | 0, _, _, _ => none
  | n + 1, t1, t6, t7 => s23_2 (l23_2 k1 n) k1 t1 t6 t7
noncomputable def L23_2 : LE := ⟨11, 0, ⟨[(1, (.dat (.int .i64))), (6, (.dat (.int .i64))), (7, (.dat (.int .i64))), (8, (.dat (.int .i64)))], []⟩, fun R n x k => l23_2 (fun y0 y1 => k (.exit 2) ⟨[(6, (.dat (.int .i64) y0)), (7, (.dat (.int .i64) y1)), (8, (.dat (.int .i64) x.1.2.2.2.1))], []⟩) n x.1.1 x.1.2.1 x.1.2.2.1⟩
noncomputable def C23 : Cfg := mkCfg [(5, ⟨[1, 6, 7, 8], []⟩), (10, ⟨[1, 6, 7, 8], []⟩), (11, ⟨[1, 6, 7, 8], []⟩), (16, ⟨[1, 6, 7, 8], []⟩)] [(5, (⟨[1, 6, 7, 8], []⟩, ⟨[4, 5], []⟩)), (11, (⟨[6, 7, 8], []⟩, ⟨[4, 5], []⟩))] (([(0, L23_1), (1, L23_2)] : List (Nat × LE)).map (·.2))
theorem ek23_1 : EOk E23 C23 Try.f23.ntmps (bodyL Try.f23 0) L23_1 := eok_of (e := L23_1) (fun R x Kn k => s23_1 (fun v0 v1 v2 => Kn ((v0, v1, v2, x.1.2.2.2.1, ()), (()))) (fun y0 y1 y2 => k (.exit 0) ⟨[(1, (.dat (.int .i64) y0)), (6, (.dat (.int .i64) y1)), (7, (.dat (.int .i64) y2)), (8, (.dat (.int .i64) x.1.2.2.2.1))], []⟩) x.1.1 x.1.2.1 x.1.2.2.1) (fun _ _ _ => rfl) (fun _ _ _ _ => rfl) (fun R x Kn k => by kernel_rfl)
theorem ek23_2 : EOk E23 C23 Try.f23.ntmps (bodyL Try.f23 1) L23_2 := eok_of (e := L23_2) (fun R x Kn k => s23_2 (fun v0 v1 v2 => Kn ((v0, v1, v2, x.1.2.2.2.1, ()), (()))) (fun y0 y1 => k (.exit 2) ⟨[(6, (.dat (.int .i64) y0)), (7, (.dat (.int .i64) y1)), (8, (.dat (.int .i64) x.1.2.2.2.1))], []⟩) x.1.1 x.1.2.1 x.1.2.2.1) (fun _ _ _ => rfl) (fun _ _ _ _ => rfl) (fun R x Kn k => by kernel_rfl)
theorem lm23 : ∀ c, Try.f23.body = some c → LmOk E23 C23 Try.f23.ntmps c := lmOk_of (ps := [(0, L23_1), (1, L23_2)]) (by kernel_rfl) (by kernel_rfl) ⟨ek23_1, ek23_2, trivial⟩
noncomputable def m23 (a0 : Int) (a1 : Int) : Option ((Int × (Int × Unit))) :=
  (m11 a0).bind fun r1 =>
  bif (((r1.2.2.2.1 != 0) || (decide (a1 < (-10000)))) || (decide (a1 > 10000))) then
    some (0, 3, ())
  else
    l23_1 (fun y3 y4 y5 =>
        l23_2 (fun y7 y8 =>
            (m17 y7 y8).bind fun r9 =>
            (m9 y7 y8 (bif decide (r9 < r1.2.2.1) then r9 else r1.2.2.1)).bind fun r10 =>
            some (r10.1, r10.2.1, ())) FUEL y3 y4 y5) FUEL a1 r1.1 r1.2.1
noncomputable def e23 : PmE := entry 23 [(.int .i64), (.int .i64)] true (.cons (.int .i64) (.cons (.int .i64) .nil)) (fun x => m23 x.1 x.2.1)
theorem q23 (x : tyL [(.int .i64), (.int .i64)]) : execF E23 C23 Try.f23 (datL [(.int .i64), (.int .i64)] x) [] (retK true (.cons (.int .i64) (.cons (.int .i64) .nil))) = m23 x.1 x.2.1 := by kernel_rfl
theorem p23 : PmOk Try.prog e23 := pm_ok (E := E23) ok23 ord lm23 Try.func23 ca23 q23

/-! 3: consol/consollaw07.DateTells -/
theorem ca3 : callable Try.prog 3 := ⟨Try.f3, Try.func3, by kernel_rfl, by kernel_rfl⟩
noncomputable def E3 : Env := mkEnv2 Try.prog [e7, e8, e9, e10, e11, e12, e13, e14, e15, e16, e17, e18, e19, e20, e21, e22, e23] []
theorem ok3 : EnvOk E3 := mkEnv2_ok (by simp only [List.mem_cons, List.not_mem_nil, or_false, forall_eq_or_imp, forall_eq]; exact ⟨p7, p8, p9, p10, p11, p12, p13, p14, p15, p16, p17, p18, p19, p20, p21, p22, p23⟩) (by simp)
noncomputable def C3 : Cfg := noCfg
theorem lm3 : ∀ c, Try.f3.body = some c → LmOk E3 C3 Try.f3.ntmps c := fun _ _ => noCfg_lm
noncomputable def m3 (a0 : Int) (a1 : Int) (a2 : Int) (a3 : Int) (a4 : Int) (a5 : List UInt8) : Option (Bool) :=
  (m7).bind fun r1 =>
  (m8 a0 a1 a2).bind fun r2 =>
  (m9 a0 a1 a2).bind fun r3 =>
  (m10 a3).bind fun r4 =>
  (m11 a3).bind fun r5 =>
  (m12 a5).bind fun r6 =>
  (m13 a5).bind fun r7 =>
  (bif (((((((((r2.1 == r3.1) && (r2.2.1 == r3.2.1)) && (r4.1 == r5.1)) && (r4.2.1 == r5.2.1)) && (r4.2.2.1 == r5.2.2.1)) && (r4.2.2.2.1 == r5.2.2.2.1)) && (r6.1 == r7.1)) && (r6.2.1 == r7.2.1)) == true) then (m14 a0) else some false).bind fun r8 =>
  (bif (((((((((r2.1 == r3.1) && (r2.2.1 == r3.2.1)) && (r4.1 == r5.1)) && (r4.2.1 == r5.2.1)) && (r4.2.2.1 == r5.2.2.1)) && (r4.2.2.2.1 == r5.2.2.2.1)) && (r6.1 == r7.1)) && (r6.2.1 == r7.2.1)) == true) then (m15 a0) else some false).bind fun r9 =>
  (bif ((((((((((r2.1 == r3.1) && (r2.2.1 == r3.2.1)) && (r4.1 == r5.1)) && (r4.2.1 == r5.2.1)) && (r4.2.2.1 == r5.2.2.1)) && (r4.2.2.2.1 == r5.2.2.2.1)) && (r6.1 == r7.1)) && (r6.2.1 == r7.2.1)) && (r8 == r9)) == true) then (m16 a0 a1) else some 0).bind fun r10 =>
  (bif ((((((((((r2.1 == r3.1) && (r2.2.1 == r3.2.1)) && (r4.1 == r5.1)) && (r4.2.1 == r5.2.1)) && (r4.2.2.1 == r5.2.2.1)) && (r4.2.2.2.1 == r5.2.2.2.1)) && (r6.1 == r7.1)) && (r6.2.1 == r7.2.1)) && (r8 == r9)) == true) then (m17 a0 a1) else some 0).bind fun r11 =>
  (bif (((((((((((r2.1 == r3.1) && (r2.2.1 == r3.2.1)) && (r4.1 == r5.1)) && (r4.2.1 == r5.2.1)) && (r4.2.2.1 == r5.2.2.1)) && (r4.2.2.2.1 == r5.2.2.2.1)) && (r6.1 == r7.1)) && (r6.2.1 == r7.2.1)) && (r8 == r9)) && (r10 == r11)) == true) then (m18 a3) else some 0).bind fun r12 =>
  (bif (((((((((((r2.1 == r3.1) && (r2.2.1 == r3.2.1)) && (r4.1 == r5.1)) && (r4.2.1 == r5.2.1)) && (r4.2.2.1 == r5.2.2.1)) && (r4.2.2.2.1 == r5.2.2.2.1)) && (r6.1 == r7.1)) && (r6.2.1 == r7.2.1)) && (r8 == r9)) && (r10 == r11)) == true) then (m19 a3) else some 0).bind fun r13 =>
  (bif ((((((((((((r2.1 == r3.1) && (r2.2.1 == r3.2.1)) && (r4.1 == r5.1)) && (r4.2.1 == r5.2.1)) && (r4.2.2.1 == r5.2.2.1)) && (r4.2.2.2.1 == r5.2.2.2.1)) && (r6.1 == r7.1)) && (r6.2.1 == r7.2.1)) && (r8 == r9)) && (r10 == r11)) && (r12 == r13)) == true) then (m20 a3) else some []).bind fun r14 =>
  (bif ((((((((((((r2.1 == r3.1) && (r2.2.1 == r3.2.1)) && (r4.1 == r5.1)) && (r4.2.1 == r5.2.1)) && (r4.2.2.1 == r5.2.2.1)) && (r4.2.2.2.1 == r5.2.2.2.1)) && (r6.1 == r7.1)) && (r6.2.1 == r7.2.1)) && (r8 == r9)) && (r10 == r11)) && (r12 == r13)) == true) then (m21 a3) else some []).bind fun r15 =>
  bif (((decide (a4 > 2000)) && (decide (a4 ≤ 10000))) || ((decide (a4 < (-2000))) && (decide (a4 ≥ (-10000))))) then
    some (r1 && ((((((((((((r2.1 == r3.1) && (r2.2.1 == r3.2.1)) && (r4.1 == r5.1)) && (r4.2.1 == r5.2.1)) && (r4.2.2.1 == r5.2.2.1)) && (r4.2.2.2.1 == r5.2.2.2.1)) && (r6.1 == r7.1)) && (r6.2.1 == r7.2.1)) && (r8 == r9)) && (r10 == r11)) && (r12 == r13)) && (r14 == r15)))
  else
    (m22 a3 a4).bind fun r16 =>
    (m23 a3 a4).bind fun r17 =>
    some (((r1 && ((((((((((((r2.1 == r3.1) && (r2.2.1 == r3.2.1)) && (r4.1 == r5.1)) && (r4.2.1 == r5.2.1)) && (r4.2.2.1 == r5.2.2.1)) && (r4.2.2.2.1 == r5.2.2.2.1)) && (r6.1 == r7.1)) && (r6.2.1 == r7.2.1)) && (r8 == r9)) && (r10 == r11)) && (r12 == r13)) && (r14 == r15))) && (r16.1 == r17.1)) && (r16.2.1 == r17.2.1))
noncomputable def e3 : PmE := entry 3 [(.int .i64), (.int .i64), (.int .i64), (.int .i64), (.int .i64), .str] false .bool (fun x => m3 x.1 x.2.1 x.2.2.1 x.2.2.2.1 x.2.2.2.2.1 x.2.2.2.2.2.1)
theorem q3 (x : tyL [(.int .i64), (.int .i64), (.int .i64), (.int .i64), (.int .i64), .str]) : execF E3 C3 Try.f3 (datL [(.int .i64), (.int .i64), (.int .i64), (.int .i64), (.int .i64), .str] x) [] (retK false .bool) = m3 x.1 x.2.1 x.2.2.1 x.2.2.2.1 x.2.2.2.2.1 x.2.2.2.2.2.1 := by kernel_rfl
theorem p3 : PmOk Try.prog e3 := pm_ok (E := E3) ok3 ord lm3 Try.func3 ca3 q3

end Go.Proofs.Ytecidmdihmcclaa
