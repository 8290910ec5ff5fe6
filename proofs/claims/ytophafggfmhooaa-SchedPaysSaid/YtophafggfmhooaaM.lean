/- Models of the functions that the statements reach. -/
import Derived.Test.YtophafggfmhooaaE32
import Derived.Test.YtophafggfmhooaaChecked
import Derived.KernelRfl
namespace Go.Proofs.Ytophafggfmhooaa
open Go Go.Eng
set_option linter.unusedVariables false

/-- x, y, signed, code -/
abbrev G7 : GT := .cons (.int .i64) (.cons (.int .i64) (.cons .bool (.cons (.int .u8) (.nil))))
abbrev T7 : Type := Int × Int × Bool × Int × Unit
/-- msg, addr -/
abbrev G13 : GT := .cons .str (.cons (.int .u64) (.nil))
abbrev T13 : Type := (List UInt8) × Int × Unit
/-- Op, N, Unit, S, Args -/
abbrev G24 : GT := .cons (.int .i64) (.cons (.int .i64) (.cons (.int .i64) (.cons .str (.cons .opq (.nil)))))
abbrev T24 : Type := Int × Int × Int × (List UInt8) × Value × Unit
/-- Name, Issuer, Face, From, To, Every, Count, Adjust, Record, Rank, Lets, Coupon, Cap, Covenants, Favour, Cross, Calls, Notice, Sink, Majority, Fast -/
abbrev G29 : GT := .cons .str (.cons .str (.cons (.int .i64) (.cons (.int .i64) (.cons (.int .i64) (.cons (.int .i64) (.cons (.int .i64) (.cons (.int .i64) (.cons (.int .i64) (.cons (.int .i64) (.cons (.sl (.cons .str (.cons G24 .nil))) (.cons G24 (.cons (.int .i64) (.cons (.sl (.cons .str (.cons G24 (.cons (.int .i64) .nil)))) (.cons (.sl .str) (.cons (.int .i64) (.cons (.sl (.cons (.int .i64) (.cons (.int .i64) .nil))) (.cons (.int .i64) (.cons (.int .i64) (.cons (.int .i64) (.cons (.int .i64) (.nil)))))))))))))))))))))
abbrev T29 : Type := (List UInt8) × (List UInt8) × Int × Int × Int × Int × Int × Int × Int × Int × (List ((List UInt8) × (T24 × Unit))) × T24 × Int × (List ((List UInt8) × (T24 × (Int × Unit)))) × (List (List UInt8)) × Int × (List (Int × (Int × Unit))) × Int × Int × Int × Int × Unit
/-- Rest, Days -/
abbrev G32 : GT := .cons (.sl (.int .i64)) (.cons (.sl (.int .i64)) (.nil))
abbrev T32 : Type := (List Int) × (List Int) × Unit
/-- From, To, Pay, Record -/
abbrev G46 : GT := .cons (.int .i64) (.cons (.int .i64) (.cons (.int .i64) (.cons (.int .i64) (.nil))))
abbrev T46 : Type := Int × Int × Int × Int × Unit
/-- Name, Body -/
abbrev G91 : GT := .cons .str (.cons G24 (.nil))
abbrev T91 : Type := (List UInt8) × T24 × Unit
/-- Name, Must, Grace -/
abbrev G93 : GT := .cons .str (.cons G24 (.cons (.int .i64) (.nil)))
abbrev T93 : Type := (List UInt8) × T24 × Int × Unit
/-- From, Price -/
abbrev G95 : GT := .cons (.int .i64) (.cons (.int .i64) (.nil))
abbrev T95 : Type := Int × Int × Unit

theorem ord : Try.prog.follows .mixedOrders = true := by kernel_rfl

/-! 24: consol/consollaw10.terms -/
theorem ca24 : callable Try.prog 24 := ⟨Try.f24, Try.func24, by kernel_rfl, by kernel_rfl⟩
noncomputable def E24 : Env := mkEnv2 Try.prog [] []
theorem ok24 : EnvOk E24 := mkEnv2_ok (by simp) (by simp)
noncomputable def C24 : Cfg := noCfg
theorem lm24 : ∀ c, Try.f24.body = some c → LmOk E24 C24 Try.f24.ntmps c := fun _ _ => noCfg_lm
noncomputable def m24  : Option (T29) :=
  some ([], [], 0, 46051, 46125, 1, 0, 1, 2, 0, [], (0, 0, 0, [], (Value.slice none 0 0), ()), 0, [], [], 0, [], 0, 0, 0, 0, ())
noncomputable def e24 : PmE := entry 24 [] false G29 (fun x => m24 )
theorem q24 (x : tyL []) : execF E24 C24 Try.f24 (datL [] x) [] (retK false G29) = m24  := by kernel_rfl
theorem p24 : PmOk Try.prog e24 := pm_ok (E := E24) ok24 ord lm24 Try.func24 ca24 q24

/-! 25: consol/consollaw10.week -/
theorem ca25 : callable Try.prog 25 := ⟨Try.f25, Try.func25, by kernel_rfl, by kernel_rfl⟩
noncomputable def E25 : Env := mkEnv2 Try.prog [] []
theorem ok25 : EnvOk E25 := mkEnv2_ok (by simp) (by simp)
noncomputable def C25 : Cfg := noCfg
theorem lm25 : ∀ c, Try.f25.body = some c → LmOk E25 C25 Try.f25.ntmps c := fun _ _ => noCfg_lm
noncomputable def m25  : Option (T32) :=
  some ([5, 6], [], ())
noncomputable def e25 : PmE := entry 25 [] false G32 (fun x => m25 )
theorem q25 (x : tyL []) : execF E25 C25 Try.f25 (datL [] x) [] (retK false G32) = m25  := by kernel_rfl
theorem p25 : PmOk Try.prog e25 := pm_ok (E := E25) ok25 ord lm25 Try.func25 ca25 q25

/-! 43: consol/sched.within -/
theorem ca43 : callable Try.prog 43 := ⟨Try.f43, Try.func43, by kernel_rfl, by kernel_rfl⟩
noncomputable def E43 : Env := mkEnv2 Try.prog [] []
theorem ok43 : EnvOk E43 := mkEnv2_ok (by simp) (by simp)
noncomputable def C43 : Cfg := noCfg
theorem lm43 : ∀ c, Try.f43.body = some c → LmOk E43 C43 Try.f43.ntmps c := fun _ _ => noCfg_lm
noncomputable def m43 (a0 : Int) (a1 : Int) (a2 : Int) : Option (Bool) :=
  some ((decide (a1 ≤ a0)) && (decide (a0 ≤ a2)))
noncomputable def e43 : PmE := entry 43 [(.int .i64), (.int .i64), (.int .i64)] false .bool (fun x => m43 x.1 x.2.1 x.2.2.1)
theorem q43 (x : tyL [(.int .i64), (.int .i64), (.int .i64)]) : execF E43 C43 Try.f43 (datL [(.int .i64), (.int .i64), (.int .i64)] x) [] (retK false .bool) = m43 x.1 x.2.1 x.2.2.1 := by kernel_rfl
theorem p43 : PmOk Try.prog e43 := pm_ok (E := E43) ok43 ord lm43 Try.func43 ca43 q43

/-! 26: consol/sched.valid -/
theorem ca26 : callable Try.prog 26 := ⟨Try.f26, Try.func26, by kernel_rfl, by kernel_rfl⟩
noncomputable def E26 : Env := mkEnv2 Try.prog [e43] []
theorem ok26 : EnvOk E26 := mkEnv2_ok (by simp only [List.mem_cons, List.not_mem_nil, or_false, forall_eq]; exact p43) (by simp)
noncomputable def C26 : Cfg := noCfg
theorem lm26 : ∀ c, Try.f26.body = some c → LmOk E26 C26 Try.f26.ntmps c := fun _ _ => noCfg_lm
noncomputable def m26 (a0 : T29) : Option (Bool) :=
  (bif ((((decide (a0.2.2.2.1 < a0.2.2.2.2.1)) && (decide (a0.2.2.2.1 ≥ 0))) && (decide (a0.2.2.2.2.1 ≤ 200000))) == true) then (m43 a0.2.2.2.2.2.1 1 1200) else some false).bind fun r1 =>
  (bif (((((decide (a0.2.2.2.1 < a0.2.2.2.2.1)) && (decide (a0.2.2.2.1 ≥ 0))) && (decide (a0.2.2.2.2.1 ≤ 200000))) && r1) == true) then (m43 a0.2.2.2.2.2.2.2.1 0 3) else some false).bind fun r2 =>
  (bif ((((((decide (a0.2.2.2.1 < a0.2.2.2.2.1)) && (decide (a0.2.2.2.1 ≥ 0))) && (decide (a0.2.2.2.2.1 ≤ 200000))) && r1) && r2) == true) then (m43 a0.2.2.2.2.2.2.2.2.1 0 1000) else some false).bind fun r3 =>
  some ((((((decide (a0.2.2.2.1 < a0.2.2.2.2.1)) && (decide (a0.2.2.2.1 ≥ 0))) && (decide (a0.2.2.2.2.1 ≤ 200000))) && r1) && r2) && r3)
noncomputable def e26 : PmE := entry 26 [G29] false .bool (fun x => m26 x.1)
theorem q26 (x : tyL [G29]) : execF E26 C26 Try.f26 (datL [G29] x) [] (retK false .bool) = m26 x.1 := by kernel_rfl
theorem p26 : PmOk Try.prog e26 := pm_ok (E := E26) ok26 ord lm26 Try.func26 ca26 q26

/-! 44: consol/cal.ascending -/
theorem ca44 : callable Try.prog 44 := ⟨Try.f44, Try.func44, by kernel_rfl, by kernel_rfl⟩
noncomputable def E44 : Env := mkEnv2 Try.prog [] []
theorem ok44 : EnvOk E44 := mkEnv2_ok (by simp) (by simp)
/-- a round of a loop of consol/cal.ascending -/
noncomputable def s44_1 {R : Type} (t1 : Int) (t8 : (List Int)) (t9 : Int) (kn : Int → Int → Option R) (k1 : Option R) (k2 : Option R) (t5 : Int) (t10 : Int) : Option R :=
  bif (decide (t10 < t9)) then
    (idx t8 t10).bind fun x1 =>
    bif ((decide (x1 ≤ t5)) || (decide (x1 > t1))) then
      k2
    else
      kn x1 (IntKind.i64.wrap (t10 + 1))
  else
    k1
noncomputable def l44_1 {R : Type} (t1 : Int) (t8 : (List Int)) (t9 : Int) (k1 : Option R) (k2 : Option R) : Nat → Int → Int → Option R
  | 0, _, _ => none
  | n + 1, t5, t10 => s44_1 t1 t8 t9 (l44_1 t1 t8 t9 k1 k2 n) k1 k2 t5 t10
noncomputable def L44_1 : LE := ⟨4, 0, ⟨[(1, (.dat (.int .i64))), (5, (.dat (.int .i64))), (8, (.dat (.sl (.int .i64)))), (9, (.dat (.int .i64))), (10, (.dat (.int .i64)))], []⟩, fun R n x k => l44_1 x.1.1 x.1.2.2.1 x.1.2.2.2.1 (k (.exit 0) ⟨[], []⟩) (k .ret ⟨[(4, (.dat .bool false))], []⟩) n x.1.2.1 x.1.2.2.2.2.1⟩
noncomputable def C44 : Cfg := mkCfg [(4, ⟨[1, 5, 8, 9, 10], []⟩)] [(4, (⟨[], []⟩, ⟨[4], []⟩))] (([(0, L44_1)] : List (Nat × LE)).map (·.2))
theorem ek44_1 : EOk E44 C44 Try.f44.ntmps (bodyL Try.f44 0) L44_1 := eok_of (e := L44_1) (fun R x Kn k => s44_1 x.1.1 x.1.2.2.1 x.1.2.2.2.1 (fun v0 v1 => Kn ((x.1.1, v0, x.1.2.2.1, x.1.2.2.2.1, v1, ()), (()))) (k (.exit 0) ⟨[], []⟩) (k .ret ⟨[(4, (.dat .bool false))], []⟩) x.1.2.1 x.1.2.2.2.2.1) (fun _ _ _ => rfl) (fun _ _ _ _ => rfl) (fun R x Kn k => by kernel_rfl)
theorem lm44 : ∀ c, Try.f44.body = some c → LmOk E44 C44 Try.f44.ntmps c := lmOk_of (ps := [(0, L44_1)]) (by kernel_rfl) (by kernel_rfl) ⟨ek44_1, trivial⟩
noncomputable def m44 (a0 : (List Int)) (a1 : Int) : Option (Bool) :=
  l44_1 a1 a0 (List.length a0 : Int) (
      some true) (
      some false) FUEL (-1) 0
noncomputable def e44 : PmE := entry 44 [(.sl (.int .i64)), (.int .i64)] false .bool (fun x => m44 x.1 x.2.1)
theorem q44 (x : tyL [(.sl (.int .i64)), (.int .i64)]) : execF E44 C44 Try.f44 (datL [(.sl (.int .i64)), (.int .i64)] x) [] (retK false .bool) = m44 x.1 x.2.1 := by kernel_rfl
theorem p44 : PmOk Try.prog e44 := pm_ok (E := E44) ok44 ord lm44 Try.func44 ca44 q44

/-! 27: consol/cal.Right -/
theorem ca27 : callable Try.prog 27 := ⟨Try.f27, Try.func27, by kernel_rfl, by kernel_rfl⟩
noncomputable def E27 : Env := mkEnv2 Try.prog [e44] []
theorem ok27 : EnvOk E27 := mkEnv2_ok (by simp only [List.mem_cons, List.not_mem_nil, or_false, forall_eq]; exact p44) (by simp)
noncomputable def C27 : Cfg := noCfg
theorem lm27 : ∀ c, Try.f27.body = some c → LmOk E27 C27 Try.f27.ntmps c := fun _ _ => noCfg_lm
noncomputable def m27 (a0 : T32) : Option (Bool) :=
  (bif (((decide ((List.length a0.1 : Int) ≤ 6)) && (decide ((List.length a0.2.1 : Int) ≤ 4000))) == true) then (m44 a0.1 6) else some false).bind fun r1 =>
  (bif ((((decide ((List.length a0.1 : Int) ≤ 6)) && (decide ((List.length a0.2.1 : Int) ≤ 4000))) && r1) == true) then (m44 a0.2.1 200000) else some false).bind fun r2 =>
  some ((((decide ((List.length a0.1 : Int) ≤ 6)) && (decide ((List.length a0.2.1 : Int) ≤ 4000))) && r1) && r2)
noncomputable def e27 : PmE := entry 27 [G32] false .bool (fun x => m27 x.1)
theorem q27 (x : tyL [G32]) : execF E27 C27 Try.f27 (datL [G32] x) [] (retK false .bool) = m27 x.1 := by kernel_rfl
theorem p27 : PmOk Try.prog e27 := pm_ok (E := E27) ok27 ord lm27 Try.func27 ca27 q27

/-! 37: consol/date.isDay -/
theorem ca37 : callable Try.prog 37 := ⟨Try.f37, Try.func37, by kernel_rfl, by kernel_rfl⟩
noncomputable def E37 : Env := mkEnv2 Try.prog [] []
theorem ok37 : EnvOk E37 := mkEnv2_ok (by simp) (by simp)
noncomputable def C37 : Cfg := noCfg
theorem lm37 : ∀ c, Try.f37.body = some c → LmOk E37 C37 Try.f37.ntmps c := fun _ _ => noCfg_lm
noncomputable def m37 (a0 : Int) : Option (Bool) :=
  some ((decide (a0 ≥ 0)) && (decide (a0 ≤ 200000)))
noncomputable def e37 : PmE := entry 37 [(.int .i64)] false .bool (fun x => m37 x.1)
theorem q37 (x : tyL [(.int .i64)]) : execF E37 C37 Try.f37 (datL [(.int .i64)] x) [] (retK false .bool) = m37 x.1 := by kernel_rfl
theorem p37 : PmOk Try.prog e37 := pm_ok (E := E37) ok37 ord lm37 Try.func37 ca37 q37

/-! 38: consol/date.before -/
theorem ca38 : callable Try.prog 38 := ⟨Try.f38, Try.func38, by kernel_rfl, by kernel_rfl⟩
noncomputable def E38 : Env := mkEnv2 Try.prog [] []
theorem ok38 : EnvOk E38 := mkEnv2_ok (by simp) (by simp)
noncomputable def C38 : Cfg := noCfg
theorem lm38 : ∀ c, Try.f38.body = some c → LmOk E38 C38 Try.f38.ntmps c := fun _ _ => noCfg_lm
noncomputable def m38 (a0 : Int) : Option (Int) :=
  some (IntKind.i64.wrap ((IntKind.i64.wrap ((IntKind.i64.wrap ((IntKind.i64.wrap ((IntKind.i64.wrap (365 * (IntKind.i64.wrap ((IntKind.i64.wrap (a0 - 1)) - 1899)))) + (IntKind.i64.wrap (Int.tdiv (IntKind.i64.wrap (a0 - 1)) 4)))) - (IntKind.i64.wrap (Int.tdiv (IntKind.i64.wrap (a0 - 1)) 100)))) + (IntKind.i64.wrap (Int.tdiv (IntKind.i64.wrap (a0 - 1)) 400)))) - 460))
noncomputable def e38 : PmE := entry 38 [(.int .i64)] false (.int .i64) (fun x => m38 x.1)
theorem q38 (x : tyL [(.int .i64)]) : execF E38 C38 Try.f38 (datL [(.int .i64)] x) [] (retK false (.int .i64)) = m38 x.1 := by kernel_rfl
theorem p38 : PmOk Try.prog e38 := pm_ok (E := E38) ok38 ord lm38 Try.func38 ca38 q38

/-! 39: consol/date.Leap -/
theorem ca39 : callable Try.prog 39 := ⟨Try.f39, Try.func39, by kernel_rfl, by kernel_rfl⟩
noncomputable def E39 : Env := mkEnv2 Try.prog [] []
theorem ok39 : EnvOk E39 := mkEnv2_ok (by simp) (by simp)
noncomputable def C39 : Cfg := noCfg
theorem lm39 : ∀ c, Try.f39.body = some c → LmOk E39 C39 Try.f39.ntmps c := fun _ _ => noCfg_lm
noncomputable def m39 (a0 : Int) : Option (Bool) :=
  asrt (((Int.tmod a0 4) == 0) == true) true (
    asrt ((((Int.tmod a0 4) == 0) == true) && (((Int.tmod a0 100) != 0) == false)) true (
      some (((Int.tmod a0 4) == 0) && (((Int.tmod a0 100) != 0) || ((Int.tmod a0 400) == 0)))))
noncomputable def e39 : PmE := entry 39 [(.int .i64)] false .bool (fun x => m39 x.1)
theorem q39 (x : tyL [(.int .i64)]) : execF E39 C39 Try.f39 (datL [(.int .i64)] x) [] (retK false .bool) = m39 x.1 := by kernel_rfl
theorem p39 : PmOk Try.prog e39 := pm_ok (E := E39) ok39 ord lm39 Try.func39 ca39 q39

/-! 20: consol/date.Last -/
theorem ca20 : callable Try.prog 20 := ⟨Try.f20, Try.func20, by kernel_rfl, by kernel_rfl⟩
noncomputable def E20 : Env := mkEnv2 Try.prog [e39] []
theorem ok20 : EnvOk E20 := mkEnv2_ok (by simp only [List.mem_cons, List.not_mem_nil, or_false, forall_eq]; exact p39) (by simp)
noncomputable def C20 : Cfg := mkCfg [(10, ⟨[0, 5, 6], []⟩), (15, ⟨[0, 5, 14], []⟩), (20, ⟨[], []⟩)] [] (([] : List (Nat × LE)).map (·.2))
theorem lm20 : ∀ c, Try.f20.body = some c → LmOk E20 C20 Try.f20.ntmps c := lmOk_of (ps := []) (by kernel_rfl) (by kernel_rfl) trivial
noncomputable def m20 (a0 : Int) (a1 : Int) : Option (Int) :=
  cont (fun (k1 : Bool → _) =>
    bif (a1 == 1) then
      k1 (a1 == 1)
    else
      bif (a1 == 3) then
        k1 (a1 == 3)
      else
        bif (a1 == 5) then
          k1 (a1 == 5)
        else
          bif (a1 == 7) then
            k1 (a1 == 7)
          else
            bif (a1 == 8) then
              k1 (a1 == 8)
            else
              bif (a1 == 10) then
                k1 (a1 == 10)
              else
                k1 (a1 == 12)) fun y1 =>
  bif y1 then
    some 31
  else
    cont (fun (k2 : Bool → _) =>
      bif (a1 == 4) then
        k2 (a1 == 4)
      else
        bif (a1 == 6) then
          k2 (a1 == 6)
        else
          bif (a1 == 9) then
            k2 (a1 == 9)
          else
            k2 (a1 == 11)) fun y2 =>
    bif y2 then
      some 30
    else
      bif (a1 == 2) then
        (m39 a0).bind fun r3 =>
        bif r3 then
          some 29
        else
          some 28
      else
        some 0
noncomputable def e20 : PmE := entry 20 [(.int .i64), (.int .i64)] false (.int .i64) (fun x => m20 x.1 x.2.1)
theorem q20 (x : tyL [(.int .i64), (.int .i64)]) : execF E20 C20 Try.f20 (datL [(.int .i64), (.int .i64)] x) [] (retK false (.int .i64)) = m20 x.1 x.2.1 := by kernel_rfl
theorem p20 : PmOk Try.prog e20 := pm_ok (E := E20) ok20 ord lm20 Try.func20 ca20 q20

/-! 19: consol/date.Parts -/
theorem ca19 : callable Try.prog 19 := ⟨Try.f19, Try.func19, by kernel_rfl, by kernel_rfl⟩
noncomputable def E19 : Env := mkEnv2 Try.prog [e20, e37, e38] []
theorem ok19 : EnvOk E19 := mkEnv2_ok (by simp only [List.mem_cons, List.not_mem_nil, or_false, forall_eq_or_imp, forall_eq]; exact ⟨p20, p37, p38⟩) (by simp)
/-- a round of a loop of consol/date.Parts -/
noncomputable def s19_1 {R : Type} (t0 : Int) (kn : Int → Option R) (k1 : Int → Option R) (t2 : Int) : Option R :=
  (m38 (IntKind.i64.wrap (t2 + 1))).bind fun r2 =>
  bif (decide (r2 ≤ t0)) then
    kn (IntKind.i64.wrap (t2 + 1))
  else
    k1 t2
noncomputable def l19_1 {R : Type} (t0 : Int) (k1 : Int → Option R) : Nat → Int → Option R
  | 0, _ => none
  | n + 1, t2 => s19_1 t0 (l19_1 t0 k1 n) k1 t2
noncomputable def L19_1 : LE := ⟨5, 0, ⟨[(0, (.dat (.int .i64))), (2, (.dat (.int .i64)))], []⟩, fun R n x k => l19_1 x.1.1 (fun y0 => k (.exit 0) ⟨[(0, (.dat (.int .i64) x.1.1)), (2, (.dat (.int .i64) y0))], []⟩) n x.1.2.1⟩
/-- a round of a loop of consol/date.Parts -/
noncomputable def s19_2 {R : Type} (t2 : Int) (kn : Int → Int → Option R) (k1 : Int → Int → Option R) (t3 : Int) (t6 : Int) : Option R :=
  (m20 t2 t3).bind fun r5 =>
  bif (decide (t6 ≥ r5)) then
    (m20 t2 t3).bind fun r6 =>
    kn (IntKind.i64.wrap (t3 + 1)) (IntKind.i64.wrap (t6 - r6))
  else
    k1 t3 t6
noncomputable def l19_2 {R : Type} (t2 : Int) (k1 : Int → Int → Option R) : Nat → Int → Int → Option R
  | 0, _, _ => none
  | n + 1, t3, t6 => s19_2 t2 (l19_2 t2 k1 n) k1 t3 t6
noncomputable def L19_2 : LE := ⟨9, 0, ⟨[(2, (.dat (.int .i64))), (3, (.dat (.int .i64))), (6, (.dat (.int .i64)))], []⟩, fun R n x k => l19_2 x.1.1 (fun y0 y1 => k (.exit 2) ⟨[(2, (.dat (.int .i64) x.1.1)), (3, (.dat (.int .i64) y0)), (6, (.dat (.int .i64) y1))], []⟩) n x.1.2.1 x.1.2.2.1⟩
noncomputable def C19 : Cfg := mkCfg [(5, ⟨[0, 2], []⟩), (9, ⟨[2, 3, 6], []⟩)] [(5, (⟨[0, 2], []⟩, ⟨[2, 3, 4, 5], []⟩)), (9, (⟨[2, 3, 6], []⟩, ⟨[2, 3, 4, 5], []⟩))] (([(0, L19_1), (1, L19_2)] : List (Nat × LE)).map (·.2))
theorem ek19_1 : EOk E19 C19 Try.f19.ntmps (bodyL Try.f19 0) L19_1 := eok_of (e := L19_1) (fun R x Kn k => s19_1 x.1.1 (fun v0 => Kn ((x.1.1, v0, ()), (()))) (fun y0 => k (.exit 0) ⟨[(0, (.dat (.int .i64) x.1.1)), (2, (.dat (.int .i64) y0))], []⟩) x.1.2.1) (fun _ _ _ => rfl) (fun _ _ _ _ => rfl) (fun R x Kn k => by kernel_rfl)
theorem ek19_2 : EOk E19 C19 Try.f19.ntmps (bodyL Try.f19 1) L19_2 := eok_of (e := L19_2) (fun R x Kn k => s19_2 x.1.1 (fun v0 v1 => Kn ((x.1.1, v0, v1, ()), (()))) (fun y0 y1 => k (.exit 2) ⟨[(2, (.dat (.int .i64) x.1.1)), (3, (.dat (.int .i64) y0)), (6, (.dat (.int .i64) y1))], []⟩) x.1.2.1 x.1.2.2.1) (fun _ _ _ => rfl) (fun _ _ _ _ => rfl) (fun R x Kn k => by kernel_rfl)
theorem lm19 : ∀ c, Try.f19.body = some c → LmOk E19 C19 Try.f19.ntmps c := lmOk_of (ps := [(0, L19_1), (1, L19_2)]) (by kernel_rfl) (by kernel_rfl) ⟨ek19_1, ek19_2, trivial⟩
noncomputable def m19 (a0 : Int) : Option (T46) :=
  (m37 a0).bind fun r1 =>
  bif (!r1) then
    some (0, 0, 0, 3, ())
  else
    l19_1 a0 (fun y3 =>
        (m38 y3).bind fun r4 =>
        l19_2 y3 (fun y7 y8 =>
            some (y3, y7, (IntKind.i64.wrap (y8 + 1)), 0, ())) FUEL 1 (IntKind.i64.wrap (a0 - r4))) FUEL (IntKind.i64.wrap (1900 + (IntKind.i64.wrap (Int.tdiv a0 366))))
noncomputable def e19 : PmE := entry 19 [(.int .i64)] true G46 (fun x => m19 x.1)
theorem q19 (x : tyL [(.int .i64)]) : execF E19 C19 Try.f19 (datL [(.int .i64)] x) [] (retK true G46) = m19 x.1 := by kernel_rfl
theorem p19 : PmOk Try.prog e19 := pm_ok (E := E19) ok19 ord lm19 Try.func19 ca19 q19

/-! 40: consol/date.Of -/
theorem ca40 : callable Try.prog 40 := ⟨Try.f40, Try.func40, by kernel_rfl, by kernel_rfl⟩
noncomputable def E40 : Env := mkEnv2 Try.prog [e20, e37, e38] []
theorem ok40 : EnvOk E40 := mkEnv2_ok (by simp only [List.mem_cons, List.not_mem_nil, or_false, forall_eq_or_imp, forall_eq]; exact ⟨p20, p37, p38⟩) (by simp)
/-- a round of a loop of consol/date.Of -/
noncomputable def s40_1 {R : Type} (t0 : Int) (t1 : Int) (kn : Int → Int → Option R) (k1 : Int → Option R) (t8 : Int) (t9 : Int) : Option R :=
  bif (decide (t9 < t1)) then
    (m20 t0 t9).bind fun r3 =>
    kn (IntKind.i64.wrap (t8 + r3)) (IntKind.i64.wrap (t9 + 1))
  else
    k1 t8
noncomputable def l40_1 {R : Type} (t0 : Int) (t1 : Int) (k1 : Int → Option R) : Nat → Int → Int → Option R
  | 0, _, _ => none
  | n + 1, t8, t9 => s40_1 t0 t1 (l40_1 t0 t1 k1 n) k1 t8 t9
noncomputable def L40_1 : LE := ⟨8, 0, ⟨[(0, (.dat (.int .i64))), (1, (.dat (.int .i64))), (8, (.dat (.int .i64))), (9, (.dat (.int .i64)))], []⟩, fun R n x k => l40_1 x.1.1 x.1.2.1 (fun y0 => k (.exit 0) ⟨[(8, (.dat (.int .i64) y0))], []⟩) n x.1.2.2.1 x.1.2.2.2.1⟩
noncomputable def C40 : Cfg := mkCfg [(8, ⟨[0, 1, 8, 9], []⟩)] [(8, (⟨[8], []⟩, ⟨[6, 7], []⟩))] (([(0, L40_1)] : List (Nat × LE)).map (·.2))
theorem ek40_1 : EOk E40 C40 Try.f40.ntmps (bodyL Try.f40 0) L40_1 := eok_of (e := L40_1) (fun R x Kn k => s40_1 x.1.1 x.1.2.1 (fun v0 v1 => Kn ((x.1.1, x.1.2.1, v0, v1, ()), (()))) (fun y0 => k (.exit 0) ⟨[(8, (.dat (.int .i64) y0))], []⟩) x.1.2.2.1 x.1.2.2.2.1) (fun _ _ _ => rfl) (fun _ _ _ _ => rfl) (fun R x Kn k => by kernel_rfl)
theorem lm40 : ∀ c, Try.f40.body = some c → LmOk E40 C40 Try.f40.ntmps c := lmOk_of (ps := [(0, L40_1)]) (by kernel_rfl) (by kernel_rfl) ⟨ek40_1, trivial⟩
noncomputable def m40 (a0 : Int) (a1 : Int) (a2 : Int) : Option (T95) :=
  (bif ((decide (a2 < 1)) == false) then (m20 a0 a1) else some 0).bind fun r1 =>
  bif ((decide (a2 < 1)) || (decide (a2 > r1))) then
    some (0, 23, ())
  else
    bif ((decide (a0 < 1900)) || (decide (a0 > 3000))) then
      some (0, 3, ())
    else
      (m38 a0).bind fun r2 =>
      l40_1 a0 a1 (fun y4 =>
          (m37 y4).bind fun r5 =>
          bif (!r5) then
            some (0, 3, ())
          else
            some (y4, 0, ())) FUEL (IntKind.i64.wrap ((IntKind.i64.wrap (r2 + a2)) - 1)) 1
noncomputable def e40 : PmE := entry 40 [(.int .i64), (.int .i64), (.int .i64)] true G95 (fun x => m40 x.1 x.2.1 x.2.2.1)
theorem q40 (x : tyL [(.int .i64), (.int .i64), (.int .i64)]) : execF E40 C40 Try.f40 (datL [(.int .i64), (.int .i64), (.int .i64)] x) [] (retK true G95) = m40 x.1 x.2.1 x.2.2.1 := by kernel_rfl
theorem p40 : PmOk Try.prog e40 := pm_ok (E := E40) ok40 ord lm40 Try.func40 ca40 q40

/-! 21: consol/date.AddMonths -/
theorem ca21 : callable Try.prog 21 := ⟨Try.f21, Try.func21, by kernel_rfl, by kernel_rfl⟩
noncomputable def E21 : Env := mkEnv2 Try.prog [e19, e20, e40] []
theorem ok21 : EnvOk E21 := mkEnv2_ok (by simp only [List.mem_cons, List.not_mem_nil, or_false, forall_eq_or_imp, forall_eq]; exact ⟨p19, p20, p40⟩) (by simp)
noncomputable def C21 : Cfg := noCfg
theorem lm21 : ∀ c, Try.f21.body = some c → LmOk E21 C21 Try.f21.ntmps c := fun _ _ => noCfg_lm
noncomputable def m21 (a0 : Int) (a1 : Int) : Option (T95) :=
  (m19 a0).bind fun r1 =>
  bif (((r1.2.2.2.1 != 0) || (decide (a1 < (-10000)))) || (decide (a1 > 10000))) then
    some (0, 3, ())
  else
    (m20 (IntKind.i64.wrap (Int.tdiv (IntKind.i64.wrap ((IntKind.i64.wrap ((IntKind.i64.wrap ((IntKind.i64.wrap (12 * r1.1)) + r1.2.1)) - 1)) + a1)) 12)) (IntKind.i64.wrap ((Int.tmod (IntKind.i64.wrap ((IntKind.i64.wrap ((IntKind.i64.wrap ((IntKind.i64.wrap (12 * r1.1)) + r1.2.1)) - 1)) + a1)) 12) + 1))).bind fun r2 =>
    (m40 (IntKind.i64.wrap (Int.tdiv (IntKind.i64.wrap ((IntKind.i64.wrap ((IntKind.i64.wrap ((IntKind.i64.wrap (12 * r1.1)) + r1.2.1)) - 1)) + a1)) 12)) (IntKind.i64.wrap ((Int.tmod (IntKind.i64.wrap ((IntKind.i64.wrap ((IntKind.i64.wrap ((IntKind.i64.wrap (12 * r1.1)) + r1.2.1)) - 1)) + a1)) 12) + 1)) (bif decide (r2 < r1.2.2.1) then r2 else r1.2.2.1)).bind fun r3 =>
    some (r3.1, r3.2.1, ())
noncomputable def e21 : PmE := entry 21 [(.int .i64), (.int .i64)] true G95 (fun x => m21 x.1 x.2.1)
theorem q21 (x : tyL [(.int .i64), (.int .i64)]) : execF E21 C21 Try.f21 (datL [(.int .i64), (.int .i64)] x) [] (retK true G95) = m21 x.1 x.2.1 := by kernel_rfl
theorem p21 : PmOk Try.prog e21 := pm_ok (E := E21) ok21 ord lm21 Try.func21 ca21 q21

/-! 41: consol/cal.valid -/
theorem ca41 : callable Try.prog 41 := ⟨Try.f41, Try.func41, by kernel_rfl, by kernel_rfl⟩
noncomputable def E41 : Env := mkEnv2 Try.prog [] []
theorem ok41 : EnvOk E41 := mkEnv2_ok (by simp) (by simp)
noncomputable def C41 : Cfg := noCfg
theorem lm41 : ∀ c, Try.f41.body = some c → LmOk E41 C41 Try.f41.ntmps c := fun _ _ => noCfg_lm
noncomputable def m41 (a0 : Int) : Option (Bool) :=
  some ((decide (a0 ≥ 0)) && (decide (a0 ≤ 200000)))
noncomputable def e41 : PmE := entry 41 [(.int .i64)] false .bool (fun x => m41 x.1)
theorem q41 (x : tyL [(.int .i64)]) : execF E41 C41 Try.f41 (datL [(.int .i64)] x) [] (retK false .bool) = m41 x.1 := by kernel_rfl
theorem p41 : PmOk Try.prog e41 := pm_ok (E := E41) ok41 ord lm41 Try.func41 ca41 q41

/-! 63: cmp.isNaN[int] -/
theorem ca63 : callable Try.prog 63 := ⟨Try.f63, Try.func63, by kernel_rfl, by kernel_rfl⟩
noncomputable def E63 : Env := mkEnv2 Try.prog [] []
theorem ok63 : EnvOk E63 := mkEnv2_ok (by simp) (by simp)
noncomputable def C63 : Cfg := noCfg
theorem lm63 : ∀ c, Try.f63.body = some c → LmOk E63 C63 Try.f63.ntmps c := fun _ _ => noCfg_lm
noncomputable def m63 (a0 : Int) : Option (Bool) :=
  some (a0 != a0)
noncomputable def e63 : PmE := entry 63 [(.int .i64)] false .bool (fun x => m63 x.1)
theorem q63 (x : tyL [(.int .i64)]) : execF E63 C63 Try.f63 (datL [(.int .i64)] x) [] (retK false .bool) = m63 x.1 := by kernel_rfl
theorem p63 : PmOk Try.prog e63 := pm_ok (E := E63) ok63 ord lm63 Try.func63 ca63 q63

/-! 58: cmp.Less[int] -/
theorem ca58 : callable Try.prog 58 := ⟨Try.f58, Try.func58, by kernel_rfl, by kernel_rfl⟩
noncomputable def E58 : Env := mkEnv2 Try.prog [e63] []
theorem ok58 : EnvOk E58 := mkEnv2_ok (by simp only [List.mem_cons, List.not_mem_nil, or_false, forall_eq]; exact p63) (by simp)
noncomputable def C58 : Cfg := noCfg
theorem lm58 : ∀ c, Try.f58.body = some c → LmOk E58 C58 Try.f58.ntmps c := fun _ _ => noCfg_lm
noncomputable def m58 (a0 : Int) (a1 : Int) : Option (Bool) :=
  (m63 a0).bind fun r1 =>
  (bif (r1 == true) then (m63 a1) else some false).bind fun r2 =>
  some ((r1 && (!r2)) || (decide (a0 < a1)))
noncomputable def e58 : PmE := entry 58 [(.int .i64), (.int .i64)] false .bool (fun x => m58 x.1 x.2.1)
theorem q58 (x : tyL [(.int .i64), (.int .i64)]) : execF E58 C58 Try.f58 (datL [(.int .i64), (.int .i64)] x) [] (retK false .bool) = m58 x.1 x.2.1 := by kernel_rfl
theorem p58 : PmOk Try.prog e58 := pm_ok (E := E58) ok58 ord lm58 Try.func58 ca58 q58

/-! 59: slices.isNaN[int] -/
theorem ca59 : callable Try.prog 59 := ⟨Try.f59, Try.func59, by kernel_rfl, by kernel_rfl⟩
noncomputable def E59 : Env := mkEnv2 Try.prog [] []
theorem ok59 : EnvOk E59 := mkEnv2_ok (by simp) (by simp)
noncomputable def C59 : Cfg := noCfg
theorem lm59 : ∀ c, Try.f59.body = some c → LmOk E59 C59 Try.f59.ntmps c := fun _ _ => noCfg_lm
noncomputable def m59 (a0 : Int) : Option (Bool) :=
  some (a0 != a0)
noncomputable def e59 : PmE := entry 59 [(.int .i64)] false .bool (fun x => m59 x.1)
theorem q59 (x : tyL [(.int .i64)]) : execF E59 C59 Try.f59 (datL [(.int .i64)] x) [] (retK false .bool) = m59 x.1 := by kernel_rfl
theorem p59 : PmOk Try.prog e59 := pm_ok (E := E59) ok59 ord lm59 Try.func59 ca59 q59

/-! 52: slices.BinarySearch[[]int,int] -/
theorem ca52 : callable Try.prog 52 := ⟨Try.f52, Try.func52, by kernel_rfl, by kernel_rfl⟩
noncomputable def E52 : Env := mkEnv2 Try.prog [e58, e59] []
theorem ok52 : EnvOk E52 := mkEnv2_ok (by simp only [List.mem_cons, List.not_mem_nil, or_false, forall_eq_or_imp, forall_eq]; exact ⟨p58, p59⟩) (by simp)
/-- a round of a loop of slices.BinarySearch[[]int,int] -/
noncomputable def s52_1 {R : Type} (t0 : (List Int)) (t1 : Int) (kn : Int → Int → Option R) (k1 : Int → Option R) (t7 : Int) (t8 : Int) : Option R :=
  bif (decide (t7 < t8)) then
    (idx t0 (IntKind.i64.wrap (shr2 (IntKind.u64.wrap (IntKind.i64.wrap (t7 + t8))) 1))).bind fun x1 =>
    (m58 x1 t1).bind fun r2 =>
    bif r2 then
      kn (IntKind.i64.wrap ((IntKind.i64.wrap (shr2 (IntKind.u64.wrap (IntKind.i64.wrap (t7 + t8))) 1)) + 1)) t8
    else
      kn t7 (IntKind.i64.wrap (shr2 (IntKind.u64.wrap (IntKind.i64.wrap (t7 + t8))) 1))
  else
    k1 t7
noncomputable def l52_1 {R : Type} (t0 : (List Int)) (t1 : Int) (k1 : Int → Option R) : Nat → Int → Int → Option R
  | 0, _, _ => none
  | n + 1, t7, t8 => s52_1 t0 t1 (l52_1 t0 t1 k1 n) k1 t7 t8
noncomputable def L52_1 : LE := ⟨4, 0, ⟨[(0, (.dat (.sl (.int .i64)))), (1, (.dat (.int .i64))), (6, (.dat (.int .i64))), (7, (.dat (.int .i64))), (8, (.dat (.int .i64)))], []⟩, fun R n x k => l52_1 x.1.1 x.1.2.1 (fun y0 => k (.exit 0) ⟨[(0, (.dat (.sl (.int .i64)) x.1.1)), (1, (.dat (.int .i64) x.1.2.1)), (6, (.dat (.int .i64) x.1.2.2.1)), (7, (.dat (.int .i64) y0))], []⟩) n x.1.2.2.2.1 x.1.2.2.2.2.1⟩
noncomputable def C52 : Cfg := mkCfg [(4, ⟨[0, 1, 6, 7, 8], []⟩)] [(4, (⟨[0, 1, 6, 7], []⟩, ⟨[4, 5], []⟩))] (([(0, L52_1)] : List (Nat × LE)).map (·.2))
theorem ek52_1 : EOk E52 C52 Try.f52.ntmps (bodyL Try.f52 0) L52_1 := eok_of (e := L52_1) (fun R x Kn k => s52_1 x.1.1 x.1.2.1 (fun v0 v1 => Kn ((x.1.1, x.1.2.1, x.1.2.2.1, v0, v1, ()), (()))) (fun y0 => k (.exit 0) ⟨[(0, (.dat (.sl (.int .i64)) x.1.1)), (1, (.dat (.int .i64) x.1.2.1)), (6, (.dat (.int .i64) x.1.2.2.1)), (7, (.dat (.int .i64) y0))], []⟩) x.1.2.2.2.1 x.1.2.2.2.2.1) (fun _ _ _ => rfl) (fun _ _ _ _ => rfl) (fun R x Kn k => by kernel_rfl)
theorem lm52 : ∀ c, Try.f52.body = some c → LmOk E52 C52 Try.f52.ntmps c := lmOk_of (ps := [(0, L52_1)]) (by kernel_rfl) (by kernel_rfl) ⟨ek52_1, trivial⟩
noncomputable def m52 (a0 : (List Int)) (a1 : Int) : Option ((Int × (Bool × Unit))) :=
  l52_1 a0 a1 (fun y3 =>
      (idxG ((decide (y3 < (List.length a0 : Int))) == true) 0 a0 y3).bind fun x4 =>
      (idxG (((decide (y3 < (List.length a0 : Int))) == true) && ((x4 == a1) == false)) 0 a0 y3).bind fun x5 =>
      (bif (((decide (y3 < (List.length a0 : Int))) == true) && ((x4 == a1) == false)) then (m59 x5) else some false).bind fun r6 =>
      (bif ((((decide (y3 < (List.length a0 : Int))) == true) && ((x4 == a1) == false)) && (r6 == true)) then (m59 a1) else some false).bind fun r7 =>
      some (y3, ((decide (y3 < (List.length a0 : Int))) && ((x4 == a1) || (r6 && r7))), ())) FUEL 0 (List.length a0 : Int)
noncomputable def e52 : PmE := entry 52 [(.sl (.int .i64)), (.int .i64)] true (.cons (.int .i64) (.cons .bool .nil)) (fun x => m52 x.1 x.2.1)
theorem q52 (x : tyL [(.sl (.int .i64)), (.int .i64)]) : execF E52 C52 Try.f52 (datL [(.sl (.int .i64)), (.int .i64)] x) [] (retK true (.cons (.int .i64) (.cons .bool .nil))) = m52 x.1 x.2.1 := by kernel_rfl
theorem p52 : PmOk Try.prog e52 := pm_ok (E := E52) ok52 ord lm52 Try.func52 ca52 q52

/-! 60: slices.Index[[]int,int] -/
theorem ca60 : callable Try.prog 60 := ⟨Try.f60, Try.func60, by kernel_rfl, by kernel_rfl⟩
noncomputable def E60 : Env := mkEnv2 Try.prog [] []
theorem ok60 : EnvOk E60 := mkEnv2_ok (by simp) (by simp)
/-- a round of a loop of slices.Index[[]int,int] -/
noncomputable def s60_1 {R : Type} (t0 : (List Int)) (t1 : Int) (t7 : Int) (kn : Int → Option R) (k1 : Option R) (k2 : Int → Option R) (t8 : Int) : Option R :=
  bif (decide (t8 < t7)) then
    (idx t0 t8).bind fun x1 =>
    bif (t1 == x1) then
      k2 t8
    else
      kn (IntKind.i64.wrap (t8 + 1))
  else
    k1
noncomputable def l60_1 {R : Type} (t0 : (List Int)) (t1 : Int) (t7 : Int) (k1 : Option R) (k2 : Int → Option R) : Nat → Int → Option R
  | 0, _ => none
  | n + 1, t8 => s60_1 t0 t1 t7 (l60_1 t0 t1 t7 k1 k2 n) k1 k2 t8
noncomputable def L60_1 : LE := ⟨3, 0, ⟨[(0, (.dat (.sl (.int .i64)))), (1, (.dat (.int .i64))), (7, (.dat (.int .i64))), (8, (.dat (.int .i64)))], []⟩, fun R n x k => l60_1 x.1.1 x.1.2.1 x.1.2.2.1 (k (.exit 0) ⟨[], []⟩) (fun y0 => k .ret ⟨[(4, (.dat (.int .i64) y0))], []⟩) n x.1.2.2.2.1⟩
noncomputable def C60 : Cfg := mkCfg [(3, ⟨[0, 1, 7, 8], []⟩)] [(3, (⟨[], []⟩, ⟨[4], []⟩))] (([(0, L60_1)] : List (Nat × LE)).map (·.2))
theorem ek60_1 : EOk E60 C60 Try.f60.ntmps (bodyL Try.f60 0) L60_1 := eok_of (e := L60_1) (fun R x Kn k => s60_1 x.1.1 x.1.2.1 x.1.2.2.1 (fun v0 => Kn ((x.1.1, x.1.2.1, x.1.2.2.1, v0, ()), (()))) (k (.exit 0) ⟨[], []⟩) (fun y0 => k .ret ⟨[(4, (.dat (.int .i64) y0))], []⟩) x.1.2.2.2.1) (fun _ _ _ => rfl) (fun _ _ _ _ => rfl) (fun R x Kn k => by kernel_rfl)
theorem lm60 : ∀ c, Try.f60.body = some c → LmOk E60 C60 Try.f60.ntmps c := lmOk_of (ps := [(0, L60_1)]) (by kernel_rfl) (by kernel_rfl) ⟨ek60_1, trivial⟩
noncomputable def m60 (a0 : (List Int)) (a1 : Int) : Option (Int) :=
  l60_1 a0 a1 (List.length a0 : Int) (
      some (-1)) (fun y2 =>
      some y2) FUEL 0
noncomputable def e60 : PmE := entry 60 [(.sl (.int .i64)), (.int .i64)] false (.int .i64) (fun x => m60 x.1 x.2.1)
theorem q60 (x : tyL [(.sl (.int .i64)), (.int .i64)]) : execF E60 C60 Try.f60 (datL [(.sl (.int .i64)), (.int .i64)] x) [] (retK false (.int .i64)) = m60 x.1 x.2.1 := by kernel_rfl
theorem p60 : PmOk Try.prog e60 := pm_ok (E := E60) ok60 ord lm60 Try.func60 ca60 q60

/-! 53: slices.Contains[[]int,int] -/
theorem ca53 : callable Try.prog 53 := ⟨Try.f53, Try.func53, by kernel_rfl, by kernel_rfl⟩
noncomputable def E53 : Env := mkEnv2 Try.prog [e60] []
theorem ok53 : EnvOk E53 := mkEnv2_ok (by simp only [List.mem_cons, List.not_mem_nil, or_false, forall_eq]; exact p60) (by simp)
noncomputable def C53 : Cfg := noCfg
theorem lm53 : ∀ c, Try.f53.body = some c → LmOk E53 C53 Try.f53.ntmps c := fun _ _ => noCfg_lm
noncomputable def m53 (a0 : (List Int)) (a1 : Int) : Option (Bool) :=
  (m60 a0 a1).bind fun r1 =>
  some (decide (r1 ≥ 0))
noncomputable def e53 : PmE := entry 53 [(.sl (.int .i64)), (.int .i64)] false .bool (fun x => m53 x.1 x.2.1)
theorem q53 (x : tyL [(.sl (.int .i64)), (.int .i64)]) : execF E53 C53 Try.f53 (datL [(.sl (.int .i64)), (.int .i64)] x) [] (retK false .bool) = m53 x.1 x.2.1 := by kernel_rfl
theorem p53 : PmOk Try.prog e53 := pm_ok (E := E53) ok53 ord lm53 Try.func53 ca53 q53

/-! 42: consol/cal.open -/
theorem ca42 : callable Try.prog 42 := ⟨Try.f42, Try.func42, by kernel_rfl, by kernel_rfl⟩
noncomputable def E42 : Env := mkEnv2 Try.prog [e52, e53] []
theorem ok42 : EnvOk E42 := mkEnv2_ok (by simp only [List.mem_cons, List.not_mem_nil, or_false, forall_eq_or_imp, forall_eq]; exact ⟨p52, p53⟩) (by simp)
noncomputable def C42 : Cfg := noCfg
theorem lm42 : ∀ c, Try.f42.body = some c → LmOk E42 C42 Try.f42.ntmps c := fun _ _ => noCfg_lm
noncomputable def m42 (a0 : T32) (a1 : Int) : Option (Bool) :=
  (m52 a0.2.1 a1).bind fun r1 =>
  asrt ((!r1.2.1) == true) true (
    (bif ((!r1.2.1) == true) then (m53 a0.1 (Int.tmod a1 7)) else some false).bind fun r2 =>
    some ((!r1.2.1) && (!r2)))
noncomputable def e42 : PmE := entry 42 [G32, (.int .i64)] false .bool (fun x => m42 x.1 x.2.1)
theorem q42 (x : tyL [G32, (.int .i64)]) : execF E42 C42 Try.f42 (datL [G32, (.int .i64)] x) [] (retK false .bool) = m42 x.1 x.2.1 := by kernel_rfl
theorem p42 : PmOk Try.prog e42 := pm_ok (E := E42) ok42 ord lm42 Try.func42 ca42 q42

/-! 45: consol/cal.walk -/
theorem ca45 : callable Try.prog 45 := ⟨Try.f45, Try.func45, by kernel_rfl, by kernel_rfl⟩
noncomputable def E45 : Env := mkEnv2 Try.prog [e41, e42] []
theorem ok45 : EnvOk E45 := mkEnv2_ok (by simp only [List.mem_cons, List.not_mem_nil, or_false, forall_eq_or_imp, forall_eq]; exact ⟨p41, p42⟩) (by simp)
/-- a round of a loop of consol/cal.walk -/
noncomputable def s45_1 {R : Type} (t2 : Int) (o0 : T32) (kn : Int → Option R) (k1 : Option R) (k2 : Int → Option R) (t1 : Int) : Option R :=
  (m41 t1).bind fun r1 =>
  bif r1 then
    (m42 o0 t1).bind fun r2 =>
    bif r2 then
      k2 t1
    else
      kn (IntKind.i64.wrap (t1 + t2))
  else
    k1
noncomputable def l45_1 {R : Type} (t2 : Int) (o0 : T32) (k1 : Option R) (k2 : Int → Option R) : Nat → Int → Option R
  | 0, _ => none
  | n + 1, t1 => s45_1 t2 o0 (l45_1 t2 o0 k1 k2 n) k1 k2 t1
noncomputable def L45_1 : LE := ⟨2, 0, ⟨[(1, (.dat (.int .i64))), (2, (.dat (.int .i64))), (3, (.box 0 [] 0))], [(.box (.dat G32))]⟩, fun R n x k => l45_1 x.1.2.1 x.2.1 (k (.exit 0) ⟨[], []⟩) (fun y0 => k .ret ⟨[(6, (.dat (.int .i64) y0)), (7, (.dat (.int .i64) 0))], []⟩) n x.1.1⟩
noncomputable def C45 : Cfg := mkCfg [(2, ⟨[1, 2, 3], []⟩)] [(2, (⟨[], []⟩, ⟨[6, 7], []⟩))] (([(0, L45_1)] : List (Nat × LE)).map (·.2))
theorem ek45_1 : EOk E45 C45 Try.f45.ntmps (bodyL Try.f45 0) L45_1 := eok_of (e := L45_1) (fun R x Kn k => s45_1 x.1.2.1 x.2.1 (fun v0 => Kn ((v0, x.1.2.1, (), ()), (x.2.1, ()))) (k (.exit 0) ⟨[], []⟩) (fun y0 => k .ret ⟨[(6, (.dat (.int .i64) y0)), (7, (.dat (.int .i64) 0))], []⟩) x.1.1) (fun _ _ _ => rfl) (fun _ _ _ _ => rfl) (fun R x Kn k => by kernel_rfl)
theorem lm45 : ∀ c, Try.f45.body = some c → LmOk E45 C45 Try.f45.ntmps c := lmOk_of (ps := [(0, L45_1)]) (by kernel_rfl) (by kernel_rfl) ⟨ek45_1, trivial⟩
noncomputable def m45 (a0 : T32) (a1 : Int) (a2 : Int) : Option (T95) :=
  l45_1 a2 a0 (
      some (0, 3, ())) (fun y3 =>
      some (y3, 0, ())) FUEL a1
noncomputable def e45 : PmE := entry 45 [G32, (.int .i64), (.int .i64)] true G95 (fun x => m45 x.1 x.2.1 x.2.2.1)
theorem q45 (x : tyL [G32, (.int .i64), (.int .i64)]) : execF E45 C45 Try.f45 (datL [G32, (.int .i64), (.int .i64)] x) [] (retK true G95) = m45 x.1 x.2.1 x.2.2.1 := by kernel_rfl
theorem p45 : PmOk Try.prog e45 := pm_ok (E := E45) ok45 ord lm45 Try.func45 ca45 q45

/-! 46: consol/cal.month -/
theorem ca46 : callable Try.prog 46 := ⟨Try.f46, Try.func46, by kernel_rfl, by kernel_rfl⟩
noncomputable def E46 : Env := mkEnv2 Try.prog [e19] []
theorem ok46 : EnvOk E46 := mkEnv2_ok (by simp only [List.mem_cons, List.not_mem_nil, or_false, forall_eq]; exact p19) (by simp)
noncomputable def C46 : Cfg := noCfg
theorem lm46 : ∀ c, Try.f46.body = some c → LmOk E46 C46 Try.f46.ntmps c := fun _ _ => noCfg_lm
noncomputable def m46 (a0 : Int) : Option (Int) :=
  (m19 a0).bind fun r1 =>
  some (IntKind.i64.wrap ((IntKind.i64.wrap (12 * r1.1)) + r1.2.1))
noncomputable def e46 : PmE := entry 46 [(.int .i64)] false (.int .i64) (fun x => m46 x.1)
theorem q46 (x : tyL [(.int .i64)]) : execF E46 C46 Try.f46 (datL [(.int .i64)] x) [] (retK false (.int .i64)) = m46 x.1 := by kernel_rfl
theorem p46 : PmOk Try.prog e46 := pm_ok (E := E46) ok46 ord lm46 Try.func46 ca46 q46

/-! 28: consol/cal.Adjust -/
theorem ca28 : callable Try.prog 28 := ⟨Try.f28, Try.func28, by kernel_rfl, by kernel_rfl⟩
noncomputable def E28 : Env := mkEnv2 Try.prog [e27, e41, e45, e46] []
theorem ok28 : EnvOk E28 := mkEnv2_ok (by simp only [List.mem_cons, List.not_mem_nil, or_false, forall_eq_or_imp, forall_eq]; exact ⟨p27, p41, p45, p46⟩) (by simp)
noncomputable def C28 : Cfg := mkCfg [(13, ⟨[1, 3], []⟩)] [] (([] : List (Nat × LE)).map (·.2))
theorem lm28 : ∀ c, Try.f28.body = some c → LmOk E28 C28 Try.f28.ntmps c := lmOk_of (ps := []) (by kernel_rfl) (by kernel_rfl) trivial
noncomputable def m28 (a0 : T32) (a1 : Int) (a2 : Int) : Option (T95) :=
  (m27 a0).bind fun r1 =>
  (bif ((!r1) == false) then (m41 a1) else some false).bind fun r2 =>
  bif ((((!r1) || (!r2)) || (decide (a2 < 0))) || (decide (a2 ≥ 4))) then
    some (0, 1, ())
  else
    cont (fun (k7 : Unit → _) =>
      bif (a2 == 0) then
        some (a1, 0, ())
      else
        bif (a2 == 1) then
          (m45 a0 a1 1).bind fun r3 =>
          some (r3.1, r3.2.1, ())
        else
          bif (a2 == 2) then
            (m45 a0 a1 1).bind fun r4 =>
            (bif ((r4.2.1 == 0) == true) then (m46 r4.1) else some 0).bind fun r5 =>
            (bif ((r4.2.1 == 0) == true) then (m46 a1) else some 0).bind fun r6 =>
            bif ((r4.2.1 == 0) && (r5 == r6)) then
              some (r4.1, 0, ())
            else
              k7 ()
          else
            k7 ()) fun _ =>
    (m45 a0 a1 (-1)).bind fun r8 =>
    some (r8.1, r8.2.1, ())
noncomputable def e28 : PmE := entry 28 [G32, (.int .i64), (.int .i64)] true G95 (fun x => m28 x.1 x.2.1 x.2.2.1)
theorem q28 (x : tyL [G32, (.int .i64), (.int .i64)]) : execF E28 C28 Try.f28 (datL [G32, (.int .i64), (.int .i64)] x) [] (retK true G95) = m28 x.1 x.2.1 x.2.2.1 := by kernel_rfl
theorem p28 : PmOk Try.prog e28 := pm_ok (E := E28) ok28 ord lm28 Try.func28 ca28 q28

/-! 29: consol/cal.Back -/
theorem ca29 : callable Try.prog 29 := ⟨Try.f29, Try.func29, by kernel_rfl, by kernel_rfl⟩
noncomputable def E29 : Env := mkEnv2 Try.prog [e27, e41, e45] []
theorem ok29 : EnvOk E29 := mkEnv2_ok (by simp only [List.mem_cons, List.not_mem_nil, or_false, forall_eq_or_imp, forall_eq]; exact ⟨p27, p41, p45⟩) (by simp)
/-- a round of a loop of consol/cal.Back -/
noncomputable def s29_1 {R : Type} (t26 : Int) (o0 : T32) (kn : Int → Int → Option R) (k1 : Int → Option R) (k2 : Int → Option R) (t1 : Int) (t27 : Int) : Option R :=
  bif (decide (t27 < t26)) then
    (m45 o0 (IntKind.i64.wrap (t1 - 1)) (-1)).bind fun r3 =>
    bif (r3.2.1 != 0) then
      k2 r3.2.1
    else
      kn r3.1 (IntKind.i64.wrap (t27 + 1))
  else
    k1 t1
noncomputable def l29_1 {R : Type} (t26 : Int) (o0 : T32) (k1 : Int → Option R) (k2 : Int → Option R) : Nat → Int → Int → Option R
  | 0, _, _ => none
  | n + 1, t1, t27 => s29_1 t26 o0 (l29_1 t26 o0 k1 k2 n) k1 k2 t1 t27
noncomputable def L29_1 : LE := ⟨5, 0, ⟨[(1, (.dat (.int .i64))), (3, (.box 0 [] 0)), (26, (.dat (.int .i64))), (27, (.dat (.int .i64)))], [(.box (.dat G32))]⟩, fun R n x k => l29_1 x.1.2.2.1 x.2.1 (fun y0 => k (.exit 0) ⟨[(1, (.dat (.int .i64) y0))], []⟩) (fun y0 => k .ret ⟨[(6, (.dat (.int .i64) 0)), (7, (.dat (.int .i64) y0))], []⟩) n x.1.1 x.1.2.2.2.1⟩
noncomputable def C29 : Cfg := mkCfg [(5, ⟨[1, 3, 26, 27], []⟩)] [(5, (⟨[1], []⟩, ⟨[6, 7], []⟩))] (([(0, L29_1)] : List (Nat × LE)).map (·.2))
theorem ek29_1 : EOk E29 C29 Try.f29.ntmps (bodyL Try.f29 0) L29_1 := eok_of (e := L29_1) (fun R x Kn k => s29_1 x.1.2.2.1 x.2.1 (fun v0 v1 => Kn ((v0, (), x.1.2.2.1, v1, ()), (x.2.1, ()))) (fun y0 => k (.exit 0) ⟨[(1, (.dat (.int .i64) y0))], []⟩) (fun y0 => k .ret ⟨[(6, (.dat (.int .i64) 0)), (7, (.dat (.int .i64) y0))], []⟩) x.1.1 x.1.2.2.2.1) (fun _ _ _ => rfl) (fun _ _ _ _ => rfl) (fun R x Kn k => by kernel_rfl)
theorem lm29 : ∀ c, Try.f29.body = some c → LmOk E29 C29 Try.f29.ntmps c := lmOk_of (ps := [(0, L29_1)]) (by kernel_rfl) (by kernel_rfl) ⟨ek29_1, trivial⟩
noncomputable def m29 (a0 : T32) (a1 : Int) (a2 : Int) : Option (T95) :=
  (m27 a0).bind fun r1 =>
  (bif ((!r1) == false) then (m41 a1) else some false).bind fun r2 =>
  bif ((((!r1) || (!r2)) || (decide (a2 < 0))) || (decide (a2 > 1000))) then
    some (0, 1, ())
  else
    l29_1 a2 a0 (fun y4 =>
        some (y4, 0, ())) (fun y5 =>
        some (0, y5, ())) FUEL a1 0
noncomputable def e29 : PmE := entry 29 [G32, (.int .i64), (.int .i64)] true G95 (fun x => m29 x.1 x.2.1 x.2.2.1)
theorem q29 (x : tyL [G32, (.int .i64), (.int .i64)]) : execF E29 C29 Try.f29 (datL [G32, (.int .i64), (.int .i64)] x) [] (retK true G95) = m29 x.1 x.2.1 x.2.2.1 := by kernel_rfl
theorem p29 : PmOk Try.prog e29 := pm_ok (E := E29) ok29 ord lm29 Try.func29 ca29 q29

/-! 11: consol/sched.Periods -/
theorem ca11 : callable Try.prog 11 := ⟨Try.f11, Try.func11, by kernel_rfl, by kernel_rfl⟩
noncomputable def E11 : Env := mkEnv2 Try.prog [e21, e26, e27, e28, e29] []
theorem ok11 : EnvOk E11 := mkEnv2_ok (by simp only [List.mem_cons, List.not_mem_nil, or_false, forall_eq_or_imp, forall_eq]; exact ⟨p21, p26, p27, p28, p29⟩) (by simp)
/-- a round of a loop of consol/sched.Periods -/
noncomputable def s11_1 {R : Type} (o0 : T29) (o1 : T32) (kn : Int → Int → (List T46) → Option R) (k1 : (List T46) → Option R) (k2 : Int → Option R) (t7 : Int) (t8 : Int) (o2 : (List T46)) : Option R :=
  bif (decide (t7 < o0.2.2.2.2.1)) then
    (m21 o0.2.2.2.1 t8).bind fun r3 =>
    cont (fun (k4 : Int → _) =>
      bif ((r3.2.1 != 0) || (decide (r3.1 > o0.2.2.2.2.1))) then
        k4 o0.2.2.2.2.1
      else
        k4 r3.1) fun y4 =>
    (m28 o1 y4 o0.2.2.2.2.2.2.2.1).bind fun r5 =>
    bif (r5.2.1 != 0) then
      k2 r5.2.1
    else
      (m29 o1 r5.1 o0.2.2.2.2.2.2.2.2.1).bind fun r6 =>
      bif (r6.2.1 != 0) then
        k2 r6.2.1
      else
        asrt true (decide (List.length (α := T46) o2 + List.length (α := T46) [(t7, y4, r5.1, r6.1, ())] ≤ LIM)) (
          kn y4 (IntKind.i64.wrap (t8 + o0.2.2.2.2.2.1)) (o2 ++ [(t7, y4, r5.1, r6.1, ())]))
  else
    k1 o2
noncomputable def l11_1 {R : Type} (o0 : T29) (o1 : T32) (k1 : (List T46) → Option R) (k2 : Int → Option R) : Nat → Int → Int → (List T46) → Option R
  | 0, _, _, _ => none
  | n + 1, t7, t8, o2 => s11_1 o0 o1 (l11_1 o0 o1 k1 k2 n) k1 k2 t7 t8 o2
noncomputable def L11_1 : LE := ⟨6, 0, ⟨[(2, (.box 0 [] 0)), (3, (.box 1 [] 0)), (6, (.own 2)), (7, (.dat (.int .i64))), (8, (.dat (.int .i64)))], [(.box (.dat G29)), (.box (.dat G32)), (.arr G46)]⟩, fun R n x k => l11_1 x.2.1 x.2.2.1 (fun y0 => k (.exit 0) ⟨[(6, (.own 0))], [(.arr G46 y0)]⟩) (fun y0 => k .ret ⟨[(4, .nils), (5, (.dat (.int .i64) y0))], []⟩) n x.1.2.2.2.1 x.1.2.2.2.2.1 x.2.2.2.1⟩
noncomputable def C11 : Cfg := mkCfg [(6, ⟨[2, 3, 6, 7, 8], [(6, G46)]⟩), (7, ⟨[2, 3, 6, 7, 8], []⟩), (11, ⟨[2, 3, 6, 7, 8, 9], []⟩)] [(6, (⟨[6], []⟩, ⟨[4, 5], []⟩))] (([(0, L11_1)] : List (Nat × LE)).map (·.2))
theorem ek11_1 : EOk E11 C11 Try.f11.ntmps (bodyL Try.f11 0) L11_1 := eok_of (e := L11_1) (fun R x Kn k => s11_1 x.2.1 x.2.2.1 (fun v0 v1 v2 => Kn (((), (), (), v0, v1, ()), (x.2.1, x.2.2.1, v2, ()))) (fun y0 => k (.exit 0) ⟨[(6, (.own 0))], [(.arr G46 y0)]⟩) (fun y0 => k .ret ⟨[(4, .nils), (5, (.dat (.int .i64) y0))], []⟩) x.1.2.2.2.1 x.1.2.2.2.2.1 x.2.2.2.1) (fun _ _ _ => rfl) (fun _ _ _ _ => rfl) (fun R x Kn k => by kernel_rfl)
theorem lm11 : ∀ c, Try.f11.body = some c → LmOk E11 C11 Try.f11.ntmps c := lmOk_of (ps := [(0, L11_1)]) (by kernel_rfl) (by kernel_rfl) ⟨ek11_1, trivial⟩
noncomputable def m11 (a0 : T29) (a1 : T32) : Option (((List T46) × (Int × Unit))) :=
  (m26 a0).bind fun r1 =>
  (bif ((!r1) == false) then (m27 a1) else some false).bind fun r2 =>
  bif ((!r1) || (!r2)) then
    some ([], 1, ())
  else
    l11_1 a0 a1 (fun y7 =>
        some (y7, 0, ())) (fun y8 =>
        some ([], y8, ())) FUEL a0.2.2.2.1 a0.2.2.2.2.2.1 []
noncomputable def e11 : PmE := entry 11 [G29, G32] true (.cons (.sl G46) (.cons (.int .i64) .nil)) (fun x => m11 x.1 x.2.1)
theorem q11 (x : tyL [G29, G32]) : execF E11 C11 Try.f11 (datL [G29, G32] x) [] (retK true (.cons (.sl G46) (.cons (.int .i64) .nil))) = m11 x.1 x.2.1 := by kernel_rfl
theorem p11 : PmOk Try.prog e11 := pm_ok (E := E11) ok11 ord lm11 Try.func11 ca11 q11

/-! 13: consol/sched.At -/
theorem ca36 : callable Try.prog 36 := ⟨Try.f36, Try.func36, by kernel_rfl, by kernel_rfl⟩
noncomputable def E13i36 : Env := mkEnv2 Try.prog [] []
theorem ok13i36 : EnvOk E13i36 := mkEnv2_ok (by simp) (by simp)
noncomputable def C13i36 : Cfg := noCfg
theorem lm13i36 : ∀ c, Try.f36.body = some c → LmOk E13i36 C13i36 Try.f36.ntmps c := fun _ _ => noCfg_lm
noncomputable def c13i36 : CmE := inl E13i36 C13i36 36 Try.f36
theorem d13i36 : CmOk Try.prog c13i36 := inl_ok (E := E13i36) ok13i36 ord lm13i36 Try.func36 ca36

theorem ca35 : callable Try.prog 35 := ⟨Try.f35, Try.func35, by kernel_rfl, by kernel_rfl⟩
noncomputable def E13i35 : Env := mkEnv2 Try.prog [] [c13i36]
theorem ok13i35 : EnvOk E13i35 := mkEnv2_ok (by simp) (by simp only [List.mem_cons, List.not_mem_nil, or_false, forall_eq]; exact d13i36)
/-- a round of a loop of slices.IndexFunc[[]consol/api.Period,consol/api.Period] -/
noncomputable def s13_1 {R : Type} (t0 : (List T46)) (t7 : Int) (o0 : Int) (kn : Int → Option R) (k1 : Option R) (k2 : Int → Option R) (t8 : Int) : Option R :=
  bif (decide (t8 < t7)) then
    (idx t0 t8).bind fun x1 =>
    bif ((decide (x1.1 ≤ o0)) && (decide (o0 < x1.2.1))) then
      k2 t8
    else
      kn (IntKind.i64.wrap (t8 + 1))
  else
    k1
noncomputable def l13_1 {R : Type} (t0 : (List T46)) (t7 : Int) (o0 : Int) (k1 : Option R) (k2 : Int → Option R) : Nat → Int → Option R
  | 0, _ => none
  | n + 1, t8 => s13_1 t0 t7 o0 (l13_1 t0 t7 o0 k1 k2 n) k1 k2 t8
noncomputable def L13_1 : LE := ⟨3, 1, ⟨[(0, (.dat (.sl G46))), (1, (.fn 36 (.scons (.box 0 [] 0) .snil))), (7, (.dat (.int .i64))), (8, (.dat (.int .i64)))], [(.box (.dat (.int .i64)))]⟩, fun R n x k => l13_1 x.1.1 x.1.2.2.1 x.2.1 (k (.exit 0) ⟨[], [(.box (.dat (.int .i64) x.2.1))]⟩) (fun y0 => k .ret ⟨[(4, (.dat (.int .i64) y0))], [(.box (.dat (.int .i64) x.2.1))]⟩) n x.1.2.2.2.1⟩
noncomputable def C13i35 : Cfg := mkCfg [(3, ⟨[0, 1, 7, 8], []⟩)] [(3, (⟨[], []⟩, ⟨[4], []⟩))] (([(0, L13_1)] : List (Nat × LE)).map (·.2))
theorem ek13_1 : EOk E13i35 C13i35 Try.f35.ntmps (bodyL Try.f35 0) L13_1 := eok_of (e := L13_1) (fun R x Kn k => s13_1 x.1.1 x.1.2.2.1 x.2.1 (fun v0 => Kn ((x.1.1, ((), ()), x.1.2.2.1, v0, ()), (x.2.1, ()))) (k (.exit 0) ⟨[], [(.box (.dat (.int .i64) x.2.1))]⟩) (fun y0 => k .ret ⟨[(4, (.dat (.int .i64) y0))], [(.box (.dat (.int .i64) x.2.1))]⟩) x.1.2.2.2.1) (fun _ _ _ => rfl) (fun _ _ _ _ => rfl) (fun R x Kn k => by kernel_rfl)
theorem lm13i35 : ∀ c, Try.f35.body = some c → LmOk E13i35 C13i35 Try.f35.ntmps c := lmOk_of (ps := [(0, L13_1)]) (by kernel_rfl) (by kernel_rfl) ⟨ek13_1, trivial⟩
noncomputable def c13i35 : CmE := inl E13i35 C13i35 35 Try.f35
theorem d13i35 : CmOk Try.prog c13i35 := inl_ok (E := E13i35) ok13i35 ord lm13i35 Try.func35 ca35

theorem ca13 : callable Try.prog 13 := ⟨Try.f13, Try.func13, by kernel_rfl, by kernel_rfl⟩
noncomputable def E13 : Env := mkEnv2 Try.prog [] [c13i35]
theorem ok13 : EnvOk E13 := mkEnv2_ok (by simp) (by simp only [List.mem_cons, List.not_mem_nil, or_false, forall_eq]; exact d13i35)
noncomputable def C13 : Cfg := noCfg
theorem lm13 : ∀ c, Try.f13.body = some c → LmOk E13 C13 Try.f13.ntmps c := fun _ _ => noCfg_lm
noncomputable def m13 (a0 : (List T46)) (a1 : Int) : Option ((Int × (Bool × Unit))) :=
  l13_1 a0 (List.length a0 : Int) a1 (
      some ((bif decide (0 > (-1)) then 0 else (-1)), (decide ((-1) ≥ 0)), ())) (fun y2 =>
      some ((bif decide (0 > y2) then 0 else y2), (decide (y2 ≥ 0)), ())) FUEL 0
noncomputable def e13 : PmE := entry 13 [(.sl G46), (.int .i64)] true (.cons (.int .i64) (.cons .bool .nil)) (fun x => m13 x.1 x.2.1)
theorem q13 (x : tyL [(.sl G46), (.int .i64)]) : execF E13 C13 Try.f13 (datL [(.sl G46), (.int .i64)] x) [] (retK true (.cons (.int .i64) (.cons .bool .nil))) = m13 x.1 x.2.1 := by kernel_rfl
theorem p13 : PmOk Try.prog e13 := pm_ok (E := E13) ok13 ord lm13 Try.func13 ca13 q13

/-! 15: consol/consolref10.Same -/
theorem ca15 : callable Try.prog 15 := ⟨Try.f15, Try.func15, by kernel_rfl, by kernel_rfl⟩
noncomputable def E15 : Env := mkEnv2 Try.prog [] []
theorem ok15 : EnvOk E15 := mkEnv2_ok (by simp) (by simp)
/-- a round of a loop of consol/consolref10.Same -/
noncomputable def s15_1 {R : Type} (t0 : (List T46)) (t1 : (List T46)) (kn : Int → Option R) (k1 : Option R) (k2 : Option R) (t5 : Int) : Option R :=
  bif (decide (t5 < (List.length t0 : Int))) then
    (idx t0 t5).bind fun x1 =>
    (idx t1 t5).bind fun x2 =>
    bif (!((x1.1 == x2.1) && ((x1.2.1 == x2.2.1) && ((x1.2.2.1 == x2.2.2.1) && ((x1.2.2.2.1 == x2.2.2.2.1) && true))))) then
      k2
    else
      kn (IntKind.i64.wrap (t5 + 1))
  else
    k1
noncomputable def l15_1 {R : Type} (t0 : (List T46)) (t1 : (List T46)) (k1 : Option R) (k2 : Option R) : Nat → Int → Option R
  | 0, _ => none
  | n + 1, t5 => s15_1 t0 t1 (l15_1 t0 t1 k1 k2 n) k1 k2 t5
noncomputable def L15_1 : LE := ⟨5, 0, ⟨[(0, (.dat (.sl G46))), (1, (.dat (.sl G46))), (5, (.dat (.int .i64)))], []⟩, fun R n x k => l15_1 x.1.1 x.1.2.1 (k (.exit 0) ⟨[], []⟩) (k .ret ⟨[(4, (.dat .bool false))], []⟩) n x.1.2.2.1⟩
noncomputable def C15 : Cfg := mkCfg [(5, ⟨[0, 1, 5], []⟩)] [(5, (⟨[], []⟩, ⟨[4], []⟩))] (([(0, L15_1)] : List (Nat × LE)).map (·.2))
theorem ek15_1 : EOk E15 C15 Try.f15.ntmps (bodyL Try.f15 0) L15_1 := eok_of (e := L15_1) (fun R x Kn k => s15_1 x.1.1 x.1.2.1 (fun v0 => Kn ((x.1.1, x.1.2.1, v0, ()), (()))) (k (.exit 0) ⟨[], []⟩) (k .ret ⟨[(4, (.dat .bool false))], []⟩) x.1.2.2.1) (fun _ _ _ => rfl) (fun _ _ _ _ => rfl) (fun R x Kn k => by kernel_rfl)
theorem lm15 : ∀ c, Try.f15.body = some c → LmOk E15 C15 Try.f15.ntmps c := lmOk_of (ps := [(0, L15_1)]) (by kernel_rfl) (by kernel_rfl) ⟨ek15_1, trivial⟩
noncomputable def m15 (a0 : (List T46)) (a1 : (List T46)) : Option (Bool) :=
  bif ((List.length a0 : Int) != (List.length a1 : Int)) then
    some false
  else
    l15_1 a0 a1 (
        some true) (
        some false) FUEL 0
noncomputable def e15 : PmE := entry 15 [(.sl G46), (.sl G46)] false .bool (fun x => m15 x.1 x.2.1)
theorem q15 (x : tyL [(.sl G46), (.sl G46)]) : execF E15 C15 Try.f15 (datL [(.sl G46), (.sl G46)] x) [] (retK false .bool) = m15 x.1 x.2.1 := by kernel_rfl
theorem p15 : PmOk Try.prog e15 := pm_ok (E := E15) ok15 ord lm15 Try.func15 ca15 q15

/-! 17: consol/sched.Due -/
theorem ca17 : callable Try.prog 17 := ⟨Try.f17, Try.func17, by kernel_rfl, by kernel_rfl⟩
noncomputable def E17 : Env := mkEnv2 Try.prog [] []
theorem ok17 : EnvOk E17 := mkEnv2_ok (by simp) (by simp)
/-- a round of a loop of consol/sched.Due -/
noncomputable def s17_1 {R : Type} (t1 : Int) (t8 : (List T46)) (t9 : Int) (kn : Int → (List Int) → Option R) (k1 : (List Int) → Option R) (t10 : Int) (o0 : (List Int)) : Option R :=
  bif (decide (t10 < t9)) then
    cont (fun (k2 : (List Int) → _) =>
      (idx t8 t10).bind fun x1 =>
      bif (x1.2.2.1 == t1) then
        asrt true (decide (List.length (α := Int) o0 + List.length (α := Int) [t10] ≤ LIM)) (
          k2 (o0 ++ [t10]))
      else
        k2 o0) fun y2 =>
    kn (IntKind.i64.wrap (t10 + 1)) y2
  else
    k1 o0
noncomputable def l17_1 {R : Type} (t1 : Int) (t8 : (List T46)) (t9 : Int) (k1 : (List Int) → Option R) : Nat → Int → (List Int) → Option R
  | 0, _, _ => none
  | n + 1, t10, o0 => s17_1 t1 t8 t9 (l17_1 t1 t8 t9 k1 n) k1 t10 o0
noncomputable def L17_1 : LE := ⟨4, 0, ⟨[(1, (.dat (.int .i64))), (5, (.own 0)), (8, (.dat (.sl G46))), (9, (.dat (.int .i64))), (10, (.dat (.int .i64)))], [(.arr (.int .i64))]⟩, fun R n x k => l17_1 x.1.1 x.1.2.2.1 x.1.2.2.2.1 (fun y0 => k (.exit 0) ⟨[(5, (.own 0))], [(.arr (.int .i64) y0)]⟩) n x.1.2.2.2.2.1 x.2.1⟩
noncomputable def C17 : Cfg := mkCfg [(4, ⟨[1, 5, 8, 9, 10], [(5, (.int .i64))]⟩), (8, ⟨[1, 5, 8, 9, 10], [(5, (.int .i64))]⟩)] [(4, (⟨[5], []⟩, ⟨[4], []⟩))] (([(0, L17_1)] : List (Nat × LE)).map (·.2))
theorem ek17_1 : EOk E17 C17 Try.f17.ntmps (bodyL Try.f17 0) L17_1 := eok_of (e := L17_1) (fun R x Kn k => s17_1 x.1.1 x.1.2.2.1 x.1.2.2.2.1 (fun v0 v1 => Kn ((x.1.1, (), x.1.2.2.1, x.1.2.2.2.1, v0, ()), (v1, ()))) (fun y0 => k (.exit 0) ⟨[(5, (.own 0))], [(.arr (.int .i64) y0)]⟩) x.1.2.2.2.2.1 x.2.1) (fun _ _ _ => rfl) (fun _ _ _ _ => rfl) (fun R x Kn k => by kernel_rfl)
theorem lm17 : ∀ c, Try.f17.body = some c → LmOk E17 C17 Try.f17.ntmps c := lmOk_of (ps := [(0, L17_1)]) (by kernel_rfl) (by kernel_rfl) ⟨ek17_1, trivial⟩
noncomputable def m17 (a0 : (List T46)) (a1 : Int) : Option ((List Int)) :=
  l17_1 a1 a0 (List.length a0 : Int) (fun y3 =>
      some y3) FUEL 0 []
noncomputable def e17 : PmE := entry 17 [(.sl G46), (.int .i64)] false (.sl (.int .i64)) (fun x => m17 x.1 x.2.1)
theorem q17 (x : tyL [(.sl G46), (.int .i64)]) : execF E17 C17 Try.f17 (datL [(.sl G46), (.int .i64)] x) [] (retK false (.sl (.int .i64))) = m17 x.1 x.2.1 := by kernel_rfl
theorem p17 : PmOk Try.prog e17 := pm_ok (E := E17) ok17 ord lm17 Try.func17 ca17 q17

/-! 16: consol/consolref10.Ints -/
theorem ca16 : callable Try.prog 16 := ⟨Try.f16, Try.func16, by kernel_rfl, by kernel_rfl⟩
noncomputable def E16 : Env := mkEnv2 Try.prog [] []
theorem ok16 : EnvOk E16 := mkEnv2_ok (by simp) (by simp)
/-- a round of a loop of consol/consolref10.Ints -/
noncomputable def s16_1 {R : Type} (t0 : (List Int)) (t1 : (List Int)) (kn : Int → Option R) (k1 : Option R) (k2 : Option R) (t5 : Int) : Option R :=
  bif (decide (t5 < (List.length t0 : Int))) then
    (idx t0 t5).bind fun x1 =>
    (idx t1 t5).bind fun x2 =>
    bif (x1 != x2) then
      k2
    else
      kn (IntKind.i64.wrap (t5 + 1))
  else
    k1
noncomputable def l16_1 {R : Type} (t0 : (List Int)) (t1 : (List Int)) (k1 : Option R) (k2 : Option R) : Nat → Int → Option R
  | 0, _ => none
  | n + 1, t5 => s16_1 t0 t1 (l16_1 t0 t1 k1 k2 n) k1 k2 t5
noncomputable def L16_1 : LE := ⟨5, 0, ⟨[(0, (.dat (.sl (.int .i64)))), (1, (.dat (.sl (.int .i64)))), (5, (.dat (.int .i64)))], []⟩, fun R n x k => l16_1 x.1.1 x.1.2.1 (k (.exit 0) ⟨[], []⟩) (k .ret ⟨[(4, (.dat .bool false))], []⟩) n x.1.2.2.1⟩
noncomputable def C16 : Cfg := mkCfg [(5, ⟨[0, 1, 5], []⟩)] [(5, (⟨[], []⟩, ⟨[4], []⟩))] (([(0, L16_1)] : List (Nat × LE)).map (·.2))
theorem ek16_1 : EOk E16 C16 Try.f16.ntmps (bodyL Try.f16 0) L16_1 := eok_of (e := L16_1) (fun R x Kn k => s16_1 x.1.1 x.1.2.1 (fun v0 => Kn ((x.1.1, x.1.2.1, v0, ()), (()))) (k (.exit 0) ⟨[], []⟩) (k .ret ⟨[(4, (.dat .bool false))], []⟩) x.1.2.2.1) (fun _ _ _ => rfl) (fun _ _ _ _ => rfl) (fun R x Kn k => by kernel_rfl)
theorem lm16 : ∀ c, Try.f16.body = some c → LmOk E16 C16 Try.f16.ntmps c := lmOk_of (ps := [(0, L16_1)]) (by kernel_rfl) (by kernel_rfl) ⟨ek16_1, trivial⟩
noncomputable def m16 (a0 : (List Int)) (a1 : (List Int)) : Option (Bool) :=
  bif ((List.length a0 : Int) != (List.length a1 : Int)) then
    some false
  else
    l16_1 a0 a1 (
        some true) (
        some false) FUEL 0
noncomputable def e16 : PmE := entry 16 [(.sl (.int .i64)), (.sl (.int .i64))] false .bool (fun x => m16 x.1 x.2.1)
theorem q16 (x : tyL [(.sl (.int .i64)), (.sl (.int .i64))]) : execF E16 C16 Try.f16 (datL [(.sl (.int .i64)), (.sl (.int .i64))] x) [] (retK false .bool) = m16 x.1 x.2.1 := by kernel_rfl
theorem p16 : PmOk Try.prog e16 := pm_ok (E := E16) ok16 ord lm16 Try.func16 ca16 q16

/-! 9: consol/consollaw10.small -/
theorem ca9 : callable Try.prog 9 := ⟨Try.f9, Try.func9, by kernel_rfl, by kernel_rfl⟩
noncomputable def E9 : Env := mkEnv2 Try.prog [e11, e13, e15, e16, e17, e24, e25] []
theorem ok9 : EnvOk E9 := mkEnv2_ok (by simp only [List.mem_cons, List.not_mem_nil, or_false, forall_eq_or_imp, forall_eq]; exact ⟨p11, p13, p15, p16, p17, p24, p25⟩) (by simp)
noncomputable def C9 : Cfg := noCfg
theorem lm9 : ∀ c, Try.f9.body = some c → LmOk E9 C9 Try.f9.ntmps c := fun _ _ => noCfg_lm
noncomputable def m9  : Option (Bool) :=
  (m24).bind fun r1 =>
  (m25).bind fun r2 =>
  (m11 r1 r2).bind fun r3 =>
  bif (((List.length r3.1 : Int) != 3) || (r3.2.1 != 0)) then
    some false
  else
    (m13 r3.1 46079).bind fun r4 =>
    (m15 r3.1 [(46051, 46079, 46081, 46077, ()), (46079, 46110, 46110, 46106, ()), (46110, 46125, 46125, 46123, ())]).bind fun r5 =>
    (bif (((r5 && (r4.1 == 1)) && r4.2.1) == true) then (m17 r3.1 46081) else some []).bind fun r6 =>
    bif (((r5 && (r4.1 == 1)) && r4.2.1) == true) then
      (bif (((r5 && (r4.1 == 1)) && r4.2.1) == true) then (m16 r6 [0]) else some false).bind fun r7 =>
      some (((r5 && (r4.1 == 1)) && r4.2.1) && r7)
    else
      (bif (((r5 && (r4.1 == 1)) && r4.2.1) == true) then (m16 r6 []) else some false).bind fun r8 =>
      some (((r5 && (r4.1 == 1)) && r4.2.1) && r8)
noncomputable def e9 : PmE := entry 9 [] false .bool (fun x => m9 )
theorem q9 (x : tyL []) : execF E9 C9 Try.f9 (datL [] x) [] (retK false .bool) = m9  := by kernel_rfl
theorem p9 : PmOk Try.prog e9 := pm_ok (E := E9) ok9 ord lm9 Try.func9 ca9 q9

/-! 10: consol/consolref10.Few -/
theorem ca10 : callable Try.prog 10 := ⟨Try.f10, Try.func10, by kernel_rfl, by kernel_rfl⟩
noncomputable def E10 : Env := mkEnv2 Try.prog [] []
theorem ok10 : EnvOk E10 := mkEnv2_ok (by simp) (by simp)
noncomputable def C10 : Cfg := noCfg
theorem lm10 : ∀ c, Try.f10.body = some c → LmOk E10 C10 Try.f10.ntmps c := fun _ _ => noCfg_lm
noncomputable def m10 (a0 : T29) (a1 : T32) : Option (Bool) :=
  bif (((decide ((List.length a1.2.1 : Int) > 200)) || (decide ((List.length a1.1 : Int) > 10))) || (decide (a0.2.2.2.2.2.2.2.2.1 > 50))) then
    some false
  else
    bif (((((decide (a0.2.2.2.1 < 0)) || (decide (a0.2.2.2.2.1 > 200000))) || (decide (a0.2.2.2.1 ≥ a0.2.2.2.2.1))) || (decide (a0.2.2.2.2.2.1 < 1))) || (decide (a0.2.2.2.2.2.1 > 1200))) then
      some true
    else
      asrt true ((IntKind.i64.wrap (28 * a0.2.2.2.2.2.1)) != 0) (
        some (decide ((IntKind.i64.wrap (Int.tdiv (IntKind.i64.wrap (a0.2.2.2.2.1 - a0.2.2.2.1)) (IntKind.i64.wrap (28 * a0.2.2.2.2.2.1)))) ≤ 120)))
noncomputable def e10 : PmE := entry 10 [G29, G32] false .bool (fun x => m10 x.1 x.2.1)
theorem q10 (x : tyL [G29, G32]) : execF E10 C10 Try.f10 (datL [G29, G32] x) [] (retK false .bool) = m10 x.1 x.2.1 := by kernel_rfl
theorem p10 : PmOk Try.prog e10 := pm_ok (E := E10) ok10 ord lm10 Try.func10 ca10 q10

/-! 30: consol/consolref10.Right -/
theorem ca30 : callable Try.prog 30 := ⟨Try.f30, Try.func30, by kernel_rfl, by kernel_rfl⟩
noncomputable def E30 : Env := mkEnv2 Try.prog [] []
theorem ok30 : EnvOk E30 := mkEnv2_ok (by simp) (by simp)
noncomputable def C30 : Cfg := noCfg
theorem lm30 : ∀ c, Try.f30.body = some c → LmOk E30 C30 Try.f30.ntmps c := fun _ _ => noCfg_lm
noncomputable def m30 (a0 : T29) : Option (Bool) :=
  bif (((decide (a0.2.2.2.1 < 0)) || (decide (a0.2.2.2.2.1 > 200000))) || (decide (a0.2.2.2.1 ≥ a0.2.2.2.2.1))) then
    some false
  else
    some ((((((decide (a0.2.2.2.2.2.1 ≥ 1)) && (decide (a0.2.2.2.2.2.1 ≤ 1200))) && (decide (a0.2.2.2.2.2.2.2.1 ≥ 0))) && (decide (a0.2.2.2.2.2.2.2.1 < 4))) && (decide (a0.2.2.2.2.2.2.2.2.1 ≥ 0))) && (decide (a0.2.2.2.2.2.2.2.2.1 ≤ 1000)))
noncomputable def e30 : PmE := entry 30 [G29] false .bool (fun x => m30 x.1)
theorem q30 (x : tyL [G29]) : execF E30 C30 Try.f30 (datL [G29] x) [] (retK false .bool) = m30 x.1 := by kernel_rfl
theorem p30 : PmOk Try.prog e30 := pm_ok (E := E30) ok30 ord lm30 Try.func30 ca30 q30

/-! 47: consol/consolref08.ascending -/
theorem ca47 : callable Try.prog 47 := ⟨Try.f47, Try.func47, by kernel_rfl, by kernel_rfl⟩
noncomputable def E47 : Env := mkEnv2 Try.prog [] []
theorem ok47 : EnvOk E47 := mkEnv2_ok (by simp) (by simp)
/-- a round of a loop of consol/consolref08.ascending -/
noncomputable def s47_1 {R : Type} (t0 : (List Int)) (t1 : Int) (kn : Int → Option R) (k1 : Option R) (k2 : Option R) (t5 : Int) : Option R :=
  bif (decide (t5 < (List.length t0 : Int))) then
    (idx t0 t5).bind fun x1 =>
    (idxG ((decide (x1 < 0)) == false) 0 t0 t5).bind fun x2 =>
    (idxG ((((decide (x1 < 0)) || (decide (x2 > t1))) == false) && ((decide (t5 > 0)) == true)) 0 t0 (IntKind.i64.wrap (t5 - 1))).bind fun x3 =>
    (idxG ((((decide (x1 < 0)) || (decide (x2 > t1))) == false) && ((decide (t5 > 0)) == true)) 0 t0 t5).bind fun x4 =>
    bif (((decide (x1 < 0)) || (decide (x2 > t1))) || ((decide (t5 > 0)) && (decide (x3 ≥ x4)))) then
      k2
    else
      kn (IntKind.i64.wrap (t5 + 1))
  else
    k1
noncomputable def l47_1 {R : Type} (t0 : (List Int)) (t1 : Int) (k1 : Option R) (k2 : Option R) : Nat → Int → Option R
  | 0, _ => none
  | n + 1, t5 => s47_1 t0 t1 (l47_1 t0 t1 k1 k2 n) k1 k2 t5
noncomputable def L47_1 : LE := ⟨3, 0, ⟨[(0, (.dat (.sl (.int .i64)))), (1, (.dat (.int .i64))), (5, (.dat (.int .i64)))], []⟩, fun R n x k => l47_1 x.1.1 x.1.2.1 (k (.exit 0) ⟨[], []⟩) (k .ret ⟨[(4, (.dat .bool false))], []⟩) n x.1.2.2.1⟩
noncomputable def C47 : Cfg := mkCfg [(3, ⟨[0, 1, 5], []⟩)] [(3, (⟨[], []⟩, ⟨[4], []⟩))] (([(0, L47_1)] : List (Nat × LE)).map (·.2))
theorem ek47_1 : EOk E47 C47 Try.f47.ntmps (bodyL Try.f47 0) L47_1 := eok_of (e := L47_1) (fun R x Kn k => s47_1 x.1.1 x.1.2.1 (fun v0 => Kn ((x.1.1, x.1.2.1, v0, ()), (()))) (k (.exit 0) ⟨[], []⟩) (k .ret ⟨[(4, (.dat .bool false))], []⟩) x.1.2.2.1) (fun _ _ _ => rfl) (fun _ _ _ _ => rfl) (fun R x Kn k => by kernel_rfl)
theorem lm47 : ∀ c, Try.f47.body = some c → LmOk E47 C47 Try.f47.ntmps c := lmOk_of (ps := [(0, L47_1)]) (by kernel_rfl) (by kernel_rfl) ⟨ek47_1, trivial⟩
noncomputable def m47 (a0 : (List Int)) (a1 : Int) : Option (Bool) :=
  l47_1 a0 a1 (
      some true) (
      some false) FUEL 0
noncomputable def e47 : PmE := entry 47 [(.sl (.int .i64)), (.int .i64)] false .bool (fun x => m47 x.1 x.2.1)
theorem q47 (x : tyL [(.sl (.int .i64)), (.int .i64)]) : execF E47 C47 Try.f47 (datL [(.sl (.int .i64)), (.int .i64)] x) [] (retK false .bool) = m47 x.1 x.2.1 := by kernel_rfl
theorem p47 : PmOk Try.prog e47 := pm_ok (E := E47) ok47 ord lm47 Try.func47 ca47 q47

/-! 31: consol/consolref08.Right -/
theorem ca31 : callable Try.prog 31 := ⟨Try.f31, Try.func31, by kernel_rfl, by kernel_rfl⟩
noncomputable def E31 : Env := mkEnv2 Try.prog [e47] []
theorem ok31 : EnvOk E31 := mkEnv2_ok (by simp only [List.mem_cons, List.not_mem_nil, or_false, forall_eq]; exact p47) (by simp)
noncomputable def C31 : Cfg := noCfg
theorem lm31 : ∀ c, Try.f31.body = some c → LmOk E31 C31 Try.f31.ntmps c := fun _ _ => noCfg_lm
noncomputable def m31 (a0 : T32) : Option (Bool) :=
  (bif (((decide ((List.length a0.1 : Int) ≤ 6)) && (decide ((List.length a0.2.1 : Int) ≤ 4000))) == true) then (m47 a0.1 6) else some false).bind fun r1 =>
  (bif ((((decide ((List.length a0.1 : Int) ≤ 6)) && (decide ((List.length a0.2.1 : Int) ≤ 4000))) && r1) == true) then (m47 a0.2.1 200000) else some false).bind fun r2 =>
  some ((((decide ((List.length a0.1 : Int) ≤ 6)) && (decide ((List.length a0.2.1 : Int) ≤ 4000))) && r1) && r2)
noncomputable def e31 : PmE := entry 31 [G32] false .bool (fun x => m31 x.1)
theorem q31 (x : tyL [G32]) : execF E31 C31 Try.f31 (datL [G32] x) [] (retK false .bool) = m31 x.1 := by kernel_rfl
theorem p31 : PmOk Try.prog e31 := pm_ok (E := E31) ok31 ord lm31 Try.func31 ca31 q31

/-! 61: consol/consolref07.Leap -/
theorem ca61 : callable Try.prog 61 := ⟨Try.f61, Try.func61, by kernel_rfl, by kernel_rfl⟩
noncomputable def E61 : Env := mkEnv2 Try.prog [] []
theorem ok61 : EnvOk E61 := mkEnv2_ok (by simp) (by simp)
noncomputable def C61 : Cfg := noCfg
theorem lm61 : ∀ c, Try.f61.body = some c → LmOk E61 C61 Try.f61.ntmps c := fun _ _ => noCfg_lm
noncomputable def m61 (a0 : Int) : Option (Bool) :=
  bif ((Int.tmod a0 100) == 0) then
    some ((Int.tmod a0 400) == 0)
  else
    some ((Int.tmod a0 4) == 0)
noncomputable def e61 : PmE := entry 61 [(.int .i64)] false .bool (fun x => m61 x.1)
theorem q61 (x : tyL [(.int .i64)]) : execF E61 C61 Try.f61 (datL [(.int .i64)] x) [] (retK false .bool) = m61 x.1 := by kernel_rfl
theorem p61 : PmOk Try.prog e61 := pm_ok (E := E61) ok61 ord lm61 Try.func61 ca61 q61

/-! 57: consol/consolref07.year -/
theorem ca57 : callable Try.prog 57 := ⟨Try.f57, Try.func57, by kernel_rfl, by kernel_rfl⟩
noncomputable def E57 : Env := mkEnv2 Try.prog [e61] []
theorem ok57 : EnvOk E57 := mkEnv2_ok (by simp only [List.mem_cons, List.not_mem_nil, or_false, forall_eq]; exact p61) (by simp)
noncomputable def C57 : Cfg := noCfg
theorem lm57 : ∀ c, Try.f57.body = some c → LmOk E57 C57 Try.f57.ntmps c := fun _ _ => noCfg_lm
noncomputable def m57 (a0 : Int) : Option (Int) :=
  (m61 a0).bind fun r1 =>
  bif r1 then
    some 366
  else
    some 365
noncomputable def e57 : PmE := entry 57 [(.int .i64)] false (.int .i64) (fun x => m57 x.1)
theorem q57 (x : tyL [(.int .i64)]) : execF E57 C57 Try.f57 (datL [(.int .i64)] x) [] (retK false (.int .i64)) = m57 x.1 := by kernel_rfl
theorem p57 : PmOk Try.prog e57 := pm_ok (E := E57) ok57 ord lm57 Try.func57 ca57 q57

/-! 55: consol/consolref07.Last -/
theorem ca55 : callable Try.prog 55 := ⟨Try.f55, Try.func55, by kernel_rfl, by kernel_rfl⟩
noncomputable def E55 : Env := mkEnv2 Try.prog [e61] []
theorem ok55 : EnvOk E55 := mkEnv2_ok (by simp only [List.mem_cons, List.not_mem_nil, or_false, forall_eq]; exact p61) (by simp)
noncomputable def C55 : Cfg := noCfg
theorem lm55 : ∀ c, Try.f55.body = some c → LmOk E55 C55 Try.f55.ntmps c := fun _ _ => noCfg_lm
noncomputable def m55 (a0 : Int) (a1 : Int) : Option (Int) :=
  bif ((decide (a1 < 1)) || (decide (a1 > 12))) then
    some 0
  else
    (bif ((a1 == 2) == true) then (m61 a0) else some false).bind fun r1 =>
    bif ((a1 == 2) && r1) then
      some 29
    else
      asrt true (decide (0 ≤ (IntKind.i64.wrap (a1 - 1))) && decide ((IntKind.i64.wrap (a1 - 1)) < (List.length [31, 28, 31, 30, 31, 30, 31, 31, 30, 31, 30, 31] : Int))) (
        (([31, 28, 31, 30, 31, 30, 31, 31, 30, 31, 30, 31])[((IntKind.i64.wrap (a1 - 1)) : Int).toNat]?).bind fun x2 =>
        some x2)
noncomputable def e55 : PmE := entry 55 [(.int .i64), (.int .i64)] false (.int .i64) (fun x => m55 x.1 x.2.1)
theorem q55 (x : tyL [(.int .i64), (.int .i64)]) : execF E55 C55 Try.f55 (datL [(.int .i64), (.int .i64)] x) [] (retK false (.int .i64)) = m55 x.1 x.2.1 := by kernel_rfl
theorem p55 : PmOk Try.prog e55 := pm_ok (E := E55) ok55 ord lm55 Try.func55 ca55 q55

/-! 51: consol/consolref07.Parts -/
theorem ca51 : callable Try.prog 51 := ⟨Try.f51, Try.func51, by kernel_rfl, by kernel_rfl⟩
noncomputable def E51 : Env := mkEnv2 Try.prog [e55, e57] []
theorem ok51 : EnvOk E51 := mkEnv2_ok (by simp only [List.mem_cons, List.not_mem_nil, or_false, forall_eq_or_imp, forall_eq]; exact ⟨p55, p57⟩) (by simp)
/-- a round of a loop of consol/consolref07.Parts -/
noncomputable def s51_1 {R : Type} (kn : Int → Int → Option R) (k1 : Int → Int → Option R) (t0 : Int) (t6 : Int) : Option R :=
  (m57 t6).bind fun r1 =>
  bif (decide (t0 ≥ r1)) then
    (m57 t6).bind fun r2 =>
    kn (IntKind.i64.wrap (t0 - r2)) (IntKind.i64.wrap (t6 + 1))
  else
    k1 t0 t6
noncomputable def l51_1 {R : Type} (k1 : Int → Int → Option R) : Nat → Int → Int → Option R
  | 0, _, _ => none
  | n + 1, t0, t6 => s51_1 (l51_1 k1 n) k1 t0 t6
noncomputable def L51_1 : LE := ⟨5, 0, ⟨[(0, (.dat (.int .i64))), (6, (.dat (.int .i64)))], []⟩, fun R n x k => l51_1 (fun y0 y1 => k (.exit 0) ⟨[(0, (.dat (.int .i64) y0)), (6, (.dat (.int .i64) y1))], []⟩) n x.1.1 x.1.2.1⟩
/-- a round of a loop of consol/consolref07.Parts -/
noncomputable def s51_2 {R : Type} (t6 : Int) (kn : Int → Int → Option R) (k1 : Int → Int → Option R) (t0 : Int) (t7 : Int) : Option R :=
  (m55 t6 t7).bind fun r5 =>
  bif (decide (t0 ≥ r5)) then
    (m55 t6 t7).bind fun r6 =>
    kn (IntKind.i64.wrap (t0 - r6)) (IntKind.i64.wrap (t7 + 1))
  else
    k1 t0 t7
noncomputable def l51_2 {R : Type} (t6 : Int) (k1 : Int → Int → Option R) : Nat → Int → Int → Option R
  | 0, _, _ => none
  | n + 1, t0, t7 => s51_2 t6 (l51_2 t6 k1 n) k1 t0 t7
noncomputable def L51_2 : LE := ⟨9, 0, ⟨[(0, (.dat (.int .i64))), (6, (.dat (.int .i64))), (7, (.dat (.int .i64)))], []⟩, fun R n x k => l51_2 x.1.2.1 (fun y0 y1 => k (.exit 2) ⟨[(0, (.dat (.int .i64) y0)), (6, (.dat (.int .i64) x.1.2.1)), (7, (.dat (.int .i64) y1))], []⟩) n x.1.1 x.1.2.2.1⟩
noncomputable def C51 : Cfg := mkCfg [(5, ⟨[0, 6], []⟩), (9, ⟨[0, 6, 7], []⟩)] [(5, (⟨[0, 6], []⟩, ⟨[2, 3, 4, 5], []⟩)), (9, (⟨[0, 6, 7], []⟩, ⟨[2, 3, 4, 5], []⟩))] (([(0, L51_1), (1, L51_2)] : List (Nat × LE)).map (·.2))
theorem ek51_1 : EOk E51 C51 Try.f51.ntmps (bodyL Try.f51 0) L51_1 := eok_of (e := L51_1) (fun R x Kn k => s51_1 (fun v0 v1 => Kn ((v0, v1, ()), (()))) (fun y0 y1 => k (.exit 0) ⟨[(0, (.dat (.int .i64) y0)), (6, (.dat (.int .i64) y1))], []⟩) x.1.1 x.1.2.1) (fun _ _ _ => rfl) (fun _ _ _ _ => rfl) (fun R x Kn k => by kernel_rfl)
theorem ek51_2 : EOk E51 C51 Try.f51.ntmps (bodyL Try.f51 1) L51_2 := eok_of (e := L51_2) (fun R x Kn k => s51_2 x.1.2.1 (fun v0 v1 => Kn ((v0, x.1.2.1, v1, ()), (()))) (fun y0 y1 => k (.exit 2) ⟨[(0, (.dat (.int .i64) y0)), (6, (.dat (.int .i64) x.1.2.1)), (7, (.dat (.int .i64) y1))], []⟩) x.1.1 x.1.2.2.1) (fun _ _ _ => rfl) (fun _ _ _ _ => rfl) (fun R x Kn k => by kernel_rfl)
theorem lm51 : ∀ c, Try.f51.body = some c → LmOk E51 C51 Try.f51.ntmps c := lmOk_of (ps := [(0, L51_1), (1, L51_2)]) (by kernel_rfl) (by kernel_rfl) ⟨ek51_1, ek51_2, trivial⟩
noncomputable def m51 (a0 : Int) : Option (T46) :=
  bif ((decide (a0 < 0)) || (decide (a0 > 200000))) then
    some (0, 0, 0, 3, ())
  else
    l51_1 (fun y3 y4 =>
        l51_2 y4 (fun y7 y8 =>
            some (y4, y8, (IntKind.i64.wrap (y7 + 1)), 0, ())) FUEL y3 1) FUEL a0 1900
noncomputable def e51 : PmE := entry 51 [(.int .i64)] true G46 (fun x => m51 x.1)
theorem q51 (x : tyL [(.int .i64)]) : execF E51 C51 Try.f51 (datL [(.int .i64)] x) [] (retK true G46) = m51 x.1 := by kernel_rfl
theorem p51 : PmOk Try.prog e51 := pm_ok (E := E51) ok51 ord lm51 Try.func51 ca51 q51

/-! 54: consol/consolref07.Of -/
theorem ca54 : callable Try.prog 54 := ⟨Try.f54, Try.func54, by kernel_rfl, by kernel_rfl⟩
noncomputable def E54 : Env := mkEnv2 Try.prog [e55, e57] []
theorem ok54 : EnvOk E54 := mkEnv2_ok (by simp only [List.mem_cons, List.not_mem_nil, or_false, forall_eq_or_imp, forall_eq]; exact ⟨p55, p57⟩) (by simp)
/-- a round of a loop of consol/consolref07.Of -/
noncomputable def s54_1 {R : Type} (t0 : Int) (t1 : Int) (kn : Int → Int → Option R) (k1 : Int → Option R) (t8 : Int) (t9 : Int) : Option R :=
  bif (decide (t9 < t1)) then
    (m55 t0 t9).bind fun r2 =>
    kn (IntKind.i64.wrap (t8 + r2)) (IntKind.i64.wrap (t9 + 1))
  else
    k1 t8
noncomputable def l54_1 {R : Type} (t0 : Int) (t1 : Int) (k1 : Int → Option R) : Nat → Int → Int → Option R
  | 0, _, _ => none
  | n + 1, t8, t9 => s54_1 t0 t1 (l54_1 t0 t1 k1 n) k1 t8 t9
noncomputable def L54_1 : LE := ⟨6, 0, ⟨[(0, (.dat (.int .i64))), (1, (.dat (.int .i64))), (8, (.dat (.int .i64))), (9, (.dat (.int .i64)))], []⟩, fun R n x k => l54_1 x.1.1 x.1.2.1 (fun y0 => k (.exit 0) ⟨[(0, (.dat (.int .i64) x.1.1)), (8, (.dat (.int .i64) y0))], []⟩) n x.1.2.2.1 x.1.2.2.2.1⟩
/-- a round of a loop of consol/consolref07.Of -/
noncomputable def s54_2 {R : Type} (t0 : Int) (kn : Int → Int → Option R) (k1 : Int → Option R) (t8 : Int) (t10 : Int) : Option R :=
  bif ((decide (t10 < t0)) && (decide (t8 ≤ 200000))) then
    (m57 t10).bind fun r4 =>
    kn (IntKind.i64.wrap (t8 + r4)) (IntKind.i64.wrap (t10 + 1))
  else
    k1 t8
noncomputable def l54_2 {R : Type} (t0 : Int) (k1 : Int → Option R) : Nat → Int → Int → Option R
  | 0, _, _ => none
  | n + 1, t8, t10 => s54_2 t0 (l54_2 t0 k1 n) k1 t8 t10
noncomputable def L54_2 : LE := ⟨10, 0, ⟨[(0, (.dat (.int .i64))), (8, (.dat (.int .i64))), (10, (.dat (.int .i64)))], []⟩, fun R n x k => l54_2 x.1.1 (fun y0 => k (.exit 2) ⟨[(0, (.dat (.int .i64) x.1.1)), (8, (.dat (.int .i64) y0))], []⟩) n x.1.2.1 x.1.2.2.1⟩
noncomputable def C54 : Cfg := mkCfg [(6, ⟨[0, 1, 8, 9], []⟩), (10, ⟨[0, 8, 10], []⟩)] [(6, (⟨[0, 8], []⟩, ⟨[6, 7], []⟩)), (10, (⟨[0, 8], []⟩, ⟨[6, 7], []⟩))] (([(0, L54_1), (1, L54_2)] : List (Nat × LE)).map (·.2))
theorem ek54_1 : EOk E54 C54 Try.f54.ntmps (bodyL Try.f54 0) L54_1 := eok_of (e := L54_1) (fun R x Kn k => s54_1 x.1.1 x.1.2.1 (fun v0 v1 => Kn ((x.1.1, x.1.2.1, v0, v1, ()), (()))) (fun y0 => k (.exit 0) ⟨[(0, (.dat (.int .i64) x.1.1)), (8, (.dat (.int .i64) y0))], []⟩) x.1.2.2.1 x.1.2.2.2.1) (fun _ _ _ => rfl) (fun _ _ _ _ => rfl) (fun R x Kn k => by kernel_rfl)
theorem ek54_2 : EOk E54 C54 Try.f54.ntmps (bodyL Try.f54 1) L54_2 := eok_of (e := L54_2) (fun R x Kn k => s54_2 x.1.1 (fun v0 v1 => Kn ((x.1.1, v0, v1, ()), (()))) (fun y0 => k (.exit 2) ⟨[(0, (.dat (.int .i64) x.1.1)), (8, (.dat (.int .i64) y0))], []⟩) x.1.2.1 x.1.2.2.1) (fun _ _ _ => rfl) (fun _ _ _ _ => rfl) (fun R x Kn k => by kernel_rfl)
theorem lm54 : ∀ c, Try.f54.body = some c → LmOk E54 C54 Try.f54.ntmps c := lmOk_of (ps := [(0, L54_1), (1, L54_2)]) (by kernel_rfl) (by kernel_rfl) ⟨ek54_1, ek54_2, trivial⟩
noncomputable def m54 (a0 : Int) (a1 : Int) (a2 : Int) : Option (T95) :=
  (bif ((((decide (a1 < 1)) || (decide (a1 > 12))) || (decide (a2 < 1))) == false) then (m55 a0 a1) else some 0).bind fun r1 =>
  bif ((((decide (a1 < 1)) || (decide (a1 > 12))) || (decide (a2 < 1))) || (decide (a2 > r1))) then
    some (0, 23, ())
  else
    l54_1 a0 a1 (fun y3 =>
        l54_2 a0 (fun y5 =>
            bif ((decide (a0 < 1900)) || (decide (y5 > 200000))) then
              some (0, 3, ())
            else
              some (y5, 0, ())) FUEL y3 1900) FUEL (IntKind.i64.wrap (a2 - 1)) 1
noncomputable def e54 : PmE := entry 54 [(.int .i64), (.int .i64), (.int .i64)] true G95 (fun x => m54 x.1 x.2.1 x.2.2.1)
theorem q54 (x : tyL [(.int .i64), (.int .i64), (.int .i64)]) : execF E54 C54 Try.f54 (datL [(.int .i64), (.int .i64), (.int .i64)] x) [] (retK true G95) = m54 x.1 x.2.1 x.2.2.1 := by kernel_rfl
theorem p54 : PmOk Try.prog e54 := pm_ok (E := E54) ok54 ord lm54 Try.func54 ca54 q54

/-! 48: consol/consolref07.AddMonths -/
theorem ca48 : callable Try.prog 48 := ⟨Try.f48, Try.func48, by kernel_rfl, by kernel_rfl⟩
noncomputable def E48 : Env := mkEnv2 Try.prog [e51, e54, e55] []
theorem ok48 : EnvOk E48 := mkEnv2_ok (by simp only [List.mem_cons, List.not_mem_nil, or_false, forall_eq_or_imp, forall_eq]; exact ⟨p51, p54, p55⟩) (by simp)
/-- a round of a loop of consol/consolref07.AddMonths -/
noncomputable def s48_1 {R : Type} (kn : Int → Int → Int → Option R) (k1 : Int → Int → Int → Option R) (t1 : Int) (t6 : Int) (t7 : Int) : Option R :=
  bif (decide (t1 > 0)) then
    cont (fun (k2 : (Int × Int) → _) =>
      bif ((IntKind.i64.wrap (t7 + 1)) == 13) then
        k2 ((IntKind.i64.wrap (t6 + 1)), 1)
      else
        k2 (t6, (IntKind.i64.wrap (t7 + 1)))) fun y2 =>
    kn (IntKind.i64.wrap (t1 - 1)) y2.1 y2.2
  else
    k1 t1 t6 t7
noncomputable def l48_1 {R : Type} (k1 : Int → Int → Int → Option R) : Nat → Int → Int → Int → Option R
  | 0, _, _, _ => none
  | n + 1, t1, t6, t7 => s48_1 (l48_1 k1 n) k1 t1 t6 t7
noncomputable def L48_1 : LE := ⟨5, 0, ⟨[(1, (.dat (.int .i64))), (6, (.dat (.int .i64))), (7, (.dat (.int .i64))), (8, (.dat (.int .i64)))], []⟩, fun R n x k => l48_1 (fun y0 y1 y2 => k (.exit 0) ⟨[(1, (.dat (.int .i64) y0)), (6, (.dat (.int .i64) y1)), (7, (.dat (.int .i64) y2)), (8, (.dat (.int .i64) x.1.2.2.2.1))], []⟩) n x.1.1 x.1.2.1 x.1.2.2.1⟩
/-- a round of a loop of consol/consolref07.AddMonths -/
noncomputable def s48_2 {R : Type} (kn : Int → Int → Int → Option R) (k1 : Int → Int → Option R) (t1 : Int) (t6 : Int) (t7 : Int) : Option R :=
  bif (decide (t1 < 0)) then
    cont (fun (k6 : (Int × Int) → _) =>
      bif ((IntKind.i64.wrap (t7 - 1)) == 0) then
        k6 ((IntKind.i64.wrap (t6 - 1)), 12)
      else
        k6 (t6, (IntKind.i64.wrap (t7 - 1)))) fun y6 =>
    kn (IntKind.i64.wrap (t1 + 1)) y6.1 y6.2
  else
    k1 t6 t7
noncomputable def l48_2 {R : Type} (k1 : Int → Int → Option R) : Nat → Int → Int → Int → Option R
  | 0, _, _, _ => none
  | n + 1, t1, t6, t7 => s48_2 (l48_2 k1 n) k1 t1 t6 t7
noncomputable def L48_2 : LE := ⟨11, 0, ⟨[(1, (.dat (.int .i64))), (6, (.dat (.int .i64))), (7, (.dat (.int .i64))), (8, (.dat (.int .i64)))], []⟩, fun R n x k => l48_2 (fun y0 y1 => k (.exit 2) ⟨[(6, (.dat (.int .i64) y0)), (7, (.dat (.int .i64) y1)), (8, (.dat (.int .i64) x.1.2.2.2.1))], []⟩) n x.1.1 x.1.2.1 x.1.2.2.1⟩
noncomputable def C48 : Cfg := mkCfg [(5, ⟨[1, 6, 7, 8], []⟩), (10, ⟨[1, 6, 7, 8], []⟩), (11, ⟨[1, 6, 7, 8], []⟩), (16, ⟨[1, 6, 7, 8], []⟩)] [(5, (⟨[1, 6, 7, 8], []⟩, ⟨[4, 5], []⟩)), (11, (⟨[6, 7, 8], []⟩, ⟨[4, 5], []⟩))] (([(0, L48_1), (1, L48_2)] : List (Nat × LE)).map (·.2))
theorem ek48_1 : EOk E48 C48 Try.f48.ntmps (bodyL Try.f48 0) L48_1 := eok_of (e := L48_1) (fun R x Kn k => s48_1 (fun v0 v1 v2 => Kn ((v0, v1, v2, x.1.2.2.2.1, ()), (()))) (fun y0 y1 y2 => k (.exit 0) ⟨[(1, (.dat (.int .i64) y0)), (6, (.dat (.int .i64) y1)), (7, (.dat (.int .i64) y2)), (8, (.dat (.int .i64) x.1.2.2.2.1))], []⟩) x.1.1 x.1.2.1 x.1.2.2.1) (fun _ _ _ => rfl) (fun _ _ _ _ => rfl) (fun R x Kn k => by kernel_rfl)
theorem ek48_2 : EOk E48 C48 Try.f48.ntmps (bodyL Try.f48 1) L48_2 := eok_of (e := L48_2) (fun R x Kn k => s48_2 (fun v0 v1 v2 => Kn ((v0, v1, v2, x.1.2.2.2.1, ()), (()))) (fun y0 y1 => k (.exit 2) ⟨[(6, (.dat (.int .i64) y0)), (7, (.dat (.int .i64) y1)), (8, (.dat (.int .i64) x.1.2.2.2.1))], []⟩) x.1.1 x.1.2.1 x.1.2.2.1) (fun _ _ _ => rfl) (fun _ _ _ _ => rfl) (fun R x Kn k => by kernel_rfl)
theorem lm48 : ∀ c, Try.f48.body = some c → LmOk E48 C48 Try.f48.ntmps c := lmOk_of (ps := [(0, L48_1), (1, L48_2)]) (by kernel_rfl) (by kernel_rfl) ⟨ek48_1, ek48_2, trivial⟩
noncomputable def m48 (a0 : Int) (a1 : Int) : Option (T95) :=
  (m51 a0).bind fun r1 =>
  bif (((r1.2.2.2.1 != 0) || (decide (a1 < (-10000)))) || (decide (a1 > 10000))) then
    some (0, 3, ())
  else
    l48_1 (fun y3 y4 y5 =>
        l48_2 (fun y7 y8 =>
            (m55 y7 y8).bind fun r9 =>
            (m54 y7 y8 (bif decide (r9 < r1.2.2.1) then r9 else r1.2.2.1)).bind fun r10 =>
            some (r10.1, r10.2.1, ())) FUEL y3 y4 y5) FUEL a1 r1.1 r1.2.1
noncomputable def e48 : PmE := entry 48 [(.int .i64), (.int .i64)] true G95 (fun x => m48 x.1 x.2.1)
theorem q48 (x : tyL [(.int .i64), (.int .i64)]) : execF E48 C48 Try.f48 (datL [(.int .i64), (.int .i64)] x) [] (retK true G95) = m48 x.1 x.2.1 := by kernel_rfl
theorem p48 : PmOk Try.prog e48 := pm_ok (E := E48) ok48 ord lm48 Try.func48 ca48 q48

/-! 32: consol/consolref10.Bounds -/
theorem ca32 : callable Try.prog 32 := ⟨Try.f32, Try.func32, by kernel_rfl, by kernel_rfl⟩
noncomputable def E32 : Env := mkEnv2 Try.prog [e48] []
theorem ok32 : EnvOk E32 := mkEnv2_ok (by simp only [List.mem_cons, List.not_mem_nil, or_false, forall_eq]; exact p48) (by simp)
/-- a round of a loop of consol/consolref10.Bounds -/
noncomputable def s32_1 {R : Type} (o0 : T29) (kn : Int → (List Int) → Option R) (k1 : (List Int) → Option R) (t4 : Int) (o1 : (List Int)) : Option R :=
  asrt true (decide (0 ≤ (IntKind.i64.wrap (t4 - 1))) && decide ((IntKind.i64.wrap (t4 - 1)) < (List.length o1 : Int))) (
    ((o1)[((IntKind.i64.wrap (t4 - 1)) : Int).toNat]?).bind fun x1 =>
    bif (decide (x1 < o0.2.2.2.2.1)) then
      (m48 o0.2.2.2.1 (IntKind.i64.wrap (t4 * o0.2.2.2.2.2.1))).bind fun r2 =>
      cont (fun (k3 : Int → _) =>
        bif ((r2.2.1 != 0) || (decide (r2.1 ≥ o0.2.2.2.2.1))) then
          k3 o0.2.2.2.2.1
        else
          k3 r2.1) fun y3 =>
      asrt true (decide (List.length (α := Int) o1 + List.length (α := Int) [y3] ≤ LIM)) (
        kn (IntKind.i64.wrap (t4 + 1)) (o1 ++ [y3]))
    else
      k1 o1)
noncomputable def l32_1 {R : Type} (o0 : T29) (k1 : (List Int) → Option R) : Nat → Int → (List Int) → Option R
  | 0, _, _ => none
  | n + 1, t4, o1 => s32_1 o0 (l32_1 o0 k1 n) k1 t4 o1
noncomputable def L32_1 : LE := ⟨4, 0, ⟨[(1, (.box 0 [] 0)), (3, (.own 1)), (4, (.dat (.int .i64)))], [(.box (.dat G29)), (.arr (.int .i64))]⟩, fun R n x k => l32_1 x.2.1 (fun y0 => k (.exit 0) ⟨[(3, (.own 0))], [(.arr (.int .i64) y0)]⟩) n x.1.2.2.1 x.2.2.1⟩
noncomputable def C32 : Cfg := mkCfg [(4, ⟨[1, 3, 4], []⟩), (5, ⟨[1, 3, 4], []⟩), (9, ⟨[1, 3, 4, 5], []⟩)] [(4, (⟨[3], []⟩, ⟨[2], []⟩))] (([(0, L32_1)] : List (Nat × LE)).map (·.2))
theorem ek32_1 : EOk E32 C32 Try.f32.ntmps (bodyL Try.f32 0) L32_1 := eok_of (e := L32_1) (fun R x Kn k => s32_1 x.2.1 (fun v0 v1 => Kn (((), (), v0, ()), (x.2.1, v1, ()))) (fun y0 => k (.exit 0) ⟨[(3, (.own 0))], [(.arr (.int .i64) y0)]⟩) x.1.2.2.1 x.2.2.1) (fun _ _ _ => rfl) (fun _ _ _ _ => rfl) (fun R x Kn k => by kernel_rfl)
theorem lm32 : ∀ c, Try.f32.body = some c → LmOk E32 C32 Try.f32.ntmps c := lmOk_of (ps := [(0, L32_1)]) (by kernel_rfl) (by kernel_rfl) ⟨ek32_1, trivial⟩
noncomputable def m32 (a0 : T29) : Option ((List Int)) :=
  l32_1 a0 (fun y4 =>
      some y4) FUEL 1 [a0.2.2.2.1]
noncomputable def e32 : PmE := entry 32 [G29] false (.sl (.int .i64)) (fun x => m32 x.1)
theorem q32 (x : tyL [G29]) : execF E32 C32 Try.f32 (datL [G29] x) [] (retK false (.sl (.int .i64))) = m32 x.1 := by kernel_rfl
theorem p32 : PmOk Try.prog e32 := pm_ok (E := E32) ok32 ord lm32 Try.func32 ca32 q32

/-! 49: consol/consolref08.day -/
theorem ca49 : callable Try.prog 49 := ⟨Try.f49, Try.func49, by kernel_rfl, by kernel_rfl⟩
noncomputable def E49 : Env := mkEnv2 Try.prog [] []
theorem ok49 : EnvOk E49 := mkEnv2_ok (by simp) (by simp)
noncomputable def C49 : Cfg := noCfg
theorem lm49 : ∀ c, Try.f49.body = some c → LmOk E49 C49 Try.f49.ntmps c := fun _ _ => noCfg_lm
noncomputable def m49 (a0 : Int) : Option (Bool) :=
  some ((decide (a0 ≥ 0)) && (decide (a0 ≤ 200000)))
noncomputable def e49 : PmE := entry 49 [(.int .i64)] false .bool (fun x => m49 x.1)
theorem q49 (x : tyL [(.int .i64)]) : execF E49 C49 Try.f49 (datL [(.int .i64)] x) [] (retK false .bool) = m49 x.1 := by kernel_rfl
theorem p49 : PmOk Try.prog e49 := pm_ok (E := E49) ok49 ord lm49 Try.func49 ca49 q49

/-! 62: consol/consolref08.has -/
theorem ca62 : callable Try.prog 62 := ⟨Try.f62, Try.func62, by kernel_rfl, by kernel_rfl⟩
noncomputable def E62 : Env := mkEnv2 Try.prog [] []
theorem ok62 : EnvOk E62 := mkEnv2_ok (by simp) (by simp)
/-- a round of a loop of consol/consolref08.has -/
noncomputable def s62_1 {R : Type} (t0 : (List Int)) (t1 : Int) (kn : Int → Option R) (k1 : Option R) (k2 : Option R) (t5 : Int) : Option R :=
  bif (decide (t5 < (List.length t0 : Int))) then
    (idx t0 t5).bind fun x1 =>
    bif (x1 == t1) then
      k2
    else
      kn (IntKind.i64.wrap (t5 + 1))
  else
    k1
noncomputable def l62_1 {R : Type} (t0 : (List Int)) (t1 : Int) (k1 : Option R) (k2 : Option R) : Nat → Int → Option R
  | 0, _ => none
  | n + 1, t5 => s62_1 t0 t1 (l62_1 t0 t1 k1 k2 n) k1 k2 t5
noncomputable def L62_1 : LE := ⟨3, 0, ⟨[(0, (.dat (.sl (.int .i64)))), (1, (.dat (.int .i64))), (5, (.dat (.int .i64)))], []⟩, fun R n x k => l62_1 x.1.1 x.1.2.1 (k (.exit 0) ⟨[], []⟩) (k .ret ⟨[(4, (.dat .bool true))], []⟩) n x.1.2.2.1⟩
noncomputable def C62 : Cfg := mkCfg [(3, ⟨[0, 1, 5], []⟩)] [(3, (⟨[], []⟩, ⟨[4], []⟩))] (([(0, L62_1)] : List (Nat × LE)).map (·.2))
theorem ek62_1 : EOk E62 C62 Try.f62.ntmps (bodyL Try.f62 0) L62_1 := eok_of (e := L62_1) (fun R x Kn k => s62_1 x.1.1 x.1.2.1 (fun v0 => Kn ((x.1.1, x.1.2.1, v0, ()), (()))) (k (.exit 0) ⟨[], []⟩) (k .ret ⟨[(4, (.dat .bool true))], []⟩) x.1.2.2.1) (fun _ _ _ => rfl) (fun _ _ _ _ => rfl) (fun R x Kn k => by kernel_rfl)
theorem lm62 : ∀ c, Try.f62.body = some c → LmOk E62 C62 Try.f62.ntmps c := lmOk_of (ps := [(0, L62_1)]) (by kernel_rfl) (by kernel_rfl) ⟨ek62_1, trivial⟩
noncomputable def m62 (a0 : (List Int)) (a1 : Int) : Option (Bool) :=
  l62_1 a0 a1 (
      some false) (
      some true) FUEL 0
noncomputable def e62 : PmE := entry 62 [(.sl (.int .i64)), (.int .i64)] false .bool (fun x => m62 x.1 x.2.1)
theorem q62 (x : tyL [(.sl (.int .i64)), (.int .i64)]) : execF E62 C62 Try.f62 (datL [(.sl (.int .i64)), (.int .i64)] x) [] (retK false .bool) = m62 x.1 x.2.1 := by kernel_rfl
theorem p62 : PmOk Try.prog e62 := pm_ok (E := E62) ok62 ord lm62 Try.func62 ca62 q62

/-! 56: consol/consolref08.Business -/
theorem ca56 : callable Try.prog 56 := ⟨Try.f56, Try.func56, by kernel_rfl, by kernel_rfl⟩
noncomputable def E56 : Env := mkEnv2 Try.prog [e31, e49, e62] []
theorem ok56 : EnvOk E56 := mkEnv2_ok (by simp only [List.mem_cons, List.not_mem_nil, or_false, forall_eq_or_imp, forall_eq]; exact ⟨p31, p49, p62⟩) (by simp)
noncomputable def C56 : Cfg := noCfg
theorem lm56 : ∀ c, Try.f56.body = some c → LmOk E56 C56 Try.f56.ntmps c := fun _ _ => noCfg_lm
noncomputable def m56 (a0 : T32) (a1 : Int) : Option (Bool) :=
  (m31 a0).bind fun r1 =>
  (bif (r1 == true) then (m49 a1) else some false).bind fun r2 =>
  asrt ((r1 && r2) == true) true (
    (bif ((r1 && r2) == true) then (m62 a0.1 (Int.tmod a1 7)) else some false).bind fun r3 =>
    (bif (((r1 && r2) && (!r3)) == true) then (m62 a0.2.1 a1) else some false).bind fun r4 =>
    some (((r1 && r2) && (!r3)) && (!r4)))
noncomputable def e56 : PmE := entry 56 [G32, (.int .i64)] false .bool (fun x => m56 x.1 x.2.1)
theorem q56 (x : tyL [G32, (.int .i64)]) : execF E56 C56 Try.f56 (datL [G32, (.int .i64)] x) [] (retK false .bool) = m56 x.1 x.2.1 := by kernel_rfl
theorem p56 : PmOk Try.prog e56 := pm_ok (E := E56) ok56 ord lm56 Try.func56 ca56 q56

/-! 50: consol/consolref08.moved -/
theorem ca50 : callable Try.prog 50 := ⟨Try.f50, Try.func50, by kernel_rfl, by kernel_rfl⟩
noncomputable def E50 : Env := mkEnv2 Try.prog [e49, e56] []
theorem ok50 : EnvOk E50 := mkEnv2_ok (by simp only [List.mem_cons, List.not_mem_nil, or_false, forall_eq_or_imp, forall_eq]; exact ⟨p49, p56⟩) (by simp)
/-- a round of a loop of consol/consolref08.moved -/
noncomputable def s50_1 {R : Type} (t2 : Int) (o0 : T32) (kn : Int → Option R) (k1 : Option R) (k2 : Int → Option R) (t1 : Int) : Option R :=
  (m49 t1).bind fun r1 =>
  bif r1 then
    (m56 o0 t1).bind fun r2 =>
    bif r2 then
      k2 t1
    else
      kn (IntKind.i64.wrap (t1 + t2))
  else
    k1
noncomputable def l50_1 {R : Type} (t2 : Int) (o0 : T32) (k1 : Option R) (k2 : Int → Option R) : Nat → Int → Option R
  | 0, _ => none
  | n + 1, t1 => s50_1 t2 o0 (l50_1 t2 o0 k1 k2 n) k1 k2 t1
noncomputable def L50_1 : LE := ⟨2, 0, ⟨[(1, (.dat (.int .i64))), (2, (.dat (.int .i64))), (3, (.box 0 [] 0))], [(.box (.dat G32))]⟩, fun R n x k => l50_1 x.1.2.1 x.2.1 (k (.exit 0) ⟨[], []⟩) (fun y0 => k .ret ⟨[(6, (.dat (.int .i64) y0)), (7, (.dat (.int .i64) 0))], []⟩) n x.1.1⟩
noncomputable def C50 : Cfg := mkCfg [(2, ⟨[1, 2, 3], []⟩)] [(2, (⟨[], []⟩, ⟨[6, 7], []⟩))] (([(0, L50_1)] : List (Nat × LE)).map (·.2))
theorem ek50_1 : EOk E50 C50 Try.f50.ntmps (bodyL Try.f50 0) L50_1 := eok_of (e := L50_1) (fun R x Kn k => s50_1 x.1.2.1 x.2.1 (fun v0 => Kn ((v0, x.1.2.1, (), ()), (x.2.1, ()))) (k (.exit 0) ⟨[], []⟩) (fun y0 => k .ret ⟨[(6, (.dat (.int .i64) y0)), (7, (.dat (.int .i64) 0))], []⟩) x.1.1) (fun _ _ _ => rfl) (fun _ _ _ _ => rfl) (fun R x Kn k => by kernel_rfl)
theorem lm50 : ∀ c, Try.f50.body = some c → LmOk E50 C50 Try.f50.ntmps c := lmOk_of (ps := [(0, L50_1)]) (by kernel_rfl) (by kernel_rfl) ⟨ek50_1, trivial⟩
noncomputable def m50 (a0 : T32) (a1 : Int) (a2 : Int) : Option (T95) :=
  l50_1 a2 a0 (
      some (0, 3, ())) (fun y3 =>
      some (y3, 0, ())) FUEL a1
noncomputable def e50 : PmE := entry 50 [G32, (.int .i64), (.int .i64)] true G95 (fun x => m50 x.1 x.2.1 x.2.2.1)
theorem q50 (x : tyL [G32, (.int .i64), (.int .i64)]) : execF E50 C50 Try.f50 (datL [G32, (.int .i64), (.int .i64)] x) [] (retK true G95) = m50 x.1 x.2.1 x.2.2.1 := by kernel_rfl
theorem p50 : PmOk Try.prog e50 := pm_ok (E := E50) ok50 ord lm50 Try.func50 ca50 q50

/-! 33: consol/consolref08.Adjust -/
theorem ca33 : callable Try.prog 33 := ⟨Try.f33, Try.func33, by kernel_rfl, by kernel_rfl⟩
noncomputable def E33 : Env := mkEnv2 Try.prog [e31, e49, e50, e51] []
theorem ok33 : EnvOk E33 := mkEnv2_ok (by simp only [List.mem_cons, List.not_mem_nil, or_false, forall_eq_or_imp, forall_eq]; exact ⟨p31, p49, p50, p51⟩) (by simp)
noncomputable def C33 : Cfg := noCfg
theorem lm33 : ∀ c, Try.f33.body = some c → LmOk E33 C33 Try.f33.ntmps c := fun _ _ => noCfg_lm
noncomputable def m33 (a0 : T32) (a1 : Int) (a2 : Int) : Option (T95) :=
  (m31 a0).bind fun r1 =>
  (bif ((!r1) == false) then (m49 a1) else some false).bind fun r2 =>
  bif ((((!r1) || (!r2)) || (decide (a2 < 0))) || (decide (a2 ≥ 4))) then
    some (0, 1, ())
  else
    bif (a2 == 0) then
      some (a1, 0, ())
    else
      bif (a2 == 1) then
        (m50 a0 a1 1).bind fun r3 =>
        some (r3.1, r3.2.1, ())
      else
        (m50 a0 a1 1).bind fun r4 =>
        (m51 a1).bind fun r5 =>
        (m51 r4.1).bind fun r6 =>
        bif ((((a2 == 2) && (r4.2.1 == 0)) && (r5.1 == r6.1)) && (r5.2.1 == r6.2.1)) then
          some (r4.1, 0, ())
        else
          (m50 a0 a1 (-1)).bind fun r7 =>
          some (r7.1, r7.2.1, ())
noncomputable def e33 : PmE := entry 33 [G32, (.int .i64), (.int .i64)] true G95 (fun x => m33 x.1 x.2.1 x.2.2.1)
theorem q33 (x : tyL [G32, (.int .i64), (.int .i64)]) : execF E33 C33 Try.f33 (datL [G32, (.int .i64), (.int .i64)] x) [] (retK true G95) = m33 x.1 x.2.1 x.2.2.1 := by kernel_rfl
theorem p33 : PmOk Try.prog e33 := pm_ok (E := E33) ok33 ord lm33 Try.func33 ca33 q33

/-! 34: consol/consolref08.Back -/
theorem ca34 : callable Try.prog 34 := ⟨Try.f34, Try.func34, by kernel_rfl, by kernel_rfl⟩
noncomputable def E34 : Env := mkEnv2 Try.prog [e31, e49, e50] []
theorem ok34 : EnvOk E34 := mkEnv2_ok (by simp only [List.mem_cons, List.not_mem_nil, or_false, forall_eq_or_imp, forall_eq]; exact ⟨p31, p49, p50⟩) (by simp)
/-- a round of a loop of consol/consolref08.Back -/
noncomputable def s34_1 {R : Type} (t2 : Int) (o0 : T32) (kn : Int → Int → Option R) (k1 : Int → Option R) (k2 : Int → Option R) (t1 : Int) (t8 : Int) : Option R :=
  bif (decide (t8 < t2)) then
    (m50 o0 (IntKind.i64.wrap (t1 - 1)) (-1)).bind fun r3 =>
    bif (r3.2.1 != 0) then
      k2 r3.2.1
    else
      kn r3.1 (IntKind.i64.wrap (t8 + 1))
  else
    k1 t1
noncomputable def l34_1 {R : Type} (t2 : Int) (o0 : T32) (k1 : Int → Option R) (k2 : Int → Option R) : Nat → Int → Int → Option R
  | 0, _, _ => none
  | n + 1, t1, t8 => s34_1 t2 o0 (l34_1 t2 o0 k1 k2 n) k1 k2 t1 t8
noncomputable def L34_1 : LE := ⟨5, 0, ⟨[(1, (.dat (.int .i64))), (2, (.dat (.int .i64))), (3, (.box 0 [] 0)), (8, (.dat (.int .i64)))], [(.box (.dat G32))]⟩, fun R n x k => l34_1 x.1.2.1 x.2.1 (fun y0 => k (.exit 0) ⟨[(1, (.dat (.int .i64) y0))], []⟩) (fun y0 => k .ret ⟨[(6, (.dat (.int .i64) 0)), (7, (.dat (.int .i64) y0))], []⟩) n x.1.1 x.1.2.2.2.1⟩
noncomputable def C34 : Cfg := mkCfg [(5, ⟨[1, 2, 3, 8], []⟩)] [(5, (⟨[1], []⟩, ⟨[6, 7], []⟩))] (([(0, L34_1)] : List (Nat × LE)).map (·.2))
theorem ek34_1 : EOk E34 C34 Try.f34.ntmps (bodyL Try.f34 0) L34_1 := eok_of (e := L34_1) (fun R x Kn k => s34_1 x.1.2.1 x.2.1 (fun v0 v1 => Kn ((v0, x.1.2.1, (), v1, ()), (x.2.1, ()))) (fun y0 => k (.exit 0) ⟨[(1, (.dat (.int .i64) y0))], []⟩) (fun y0 => k .ret ⟨[(6, (.dat (.int .i64) 0)), (7, (.dat (.int .i64) y0))], []⟩) x.1.1 x.1.2.2.2.1) (fun _ _ _ => rfl) (fun _ _ _ _ => rfl) (fun R x Kn k => by kernel_rfl)
theorem lm34 : ∀ c, Try.f34.body = some c → LmOk E34 C34 Try.f34.ntmps c := lmOk_of (ps := [(0, L34_1)]) (by kernel_rfl) (by kernel_rfl) ⟨ek34_1, trivial⟩
noncomputable def m34 (a0 : T32) (a1 : Int) (a2 : Int) : Option (T95) :=
  (m31 a0).bind fun r1 =>
  (bif ((!r1) == false) then (m49 a1) else some false).bind fun r2 =>
  bif ((((!r1) || (!r2)) || (decide (a2 < 0))) || (decide (a2 > 1000))) then
    some (0, 1, ())
  else
    l34_1 a2 a0 (fun y4 =>
        some (y4, 0, ())) (fun y5 =>
        some (0, y5, ())) FUEL a1 0
noncomputable def e34 : PmE := entry 34 [G32, (.int .i64), (.int .i64)] true G95 (fun x => m34 x.1 x.2.1 x.2.2.1)
theorem q34 (x : tyL [G32, (.int .i64), (.int .i64)]) : execF E34 C34 Try.f34 (datL [G32, (.int .i64), (.int .i64)] x) [] (retK true G95) = m34 x.1 x.2.1 x.2.2.1 := by kernel_rfl
theorem p34 : PmOk Try.prog e34 := pm_ok (E := E34) ok34 ord lm34 Try.func34 ca34 q34

/-! 12: consol/consolref10.Periods -/
theorem ca12 : callable Try.prog 12 := ⟨Try.f12, Try.func12, by kernel_rfl, by kernel_rfl⟩
noncomputable def E12 : Env := mkEnv2 Try.prog [e30, e31, e32, e33, e34] []
theorem ok12 : EnvOk E12 := mkEnv2_ok (by simp only [List.mem_cons, List.not_mem_nil, or_false, forall_eq_or_imp, forall_eq]; exact ⟨p30, p31, p32, p33, p34⟩) (by simp)
/-- a round of a loop of consol/consolref10.Periods -/
noncomputable def s12_1 {R : Type} (t6 : (List Int)) (o0 : T29) (o1 : T32) (kn : Int → (List T46) → Option R) (k1 : (List T46) → Option R) (k2 : Int → Option R) (t8 : Int) (o2 : (List T46)) : Option R :=
  bif (decide (t8 < (List.length t6 : Int))) then
    (idx t6 t8).bind fun x4 =>
    (m33 o1 x4 o0.2.2.2.2.2.2.2.1).bind fun r5 =>
    bif (r5.2.1 != 0) then
      k2 r5.2.1
    else
      (m34 o1 r5.1 o0.2.2.2.2.2.2.2.2.1).bind fun r6 =>
      bif (r6.2.1 != 0) then
        k2 r6.2.1
      else
        (idx t6 (IntKind.i64.wrap (t8 - 1))).bind fun x7 =>
        (idx t6 t8).bind fun x8 =>
        asrt true (decide (List.length (α := T46) o2 + List.length (α := T46) [(x7, x8, r5.1, r6.1, ())] ≤ LIM)) (
          kn (IntKind.i64.wrap (t8 + 1)) (o2 ++ [(x7, x8, r5.1, r6.1, ())]))
  else
    k1 o2
noncomputable def l12_1 {R : Type} (t6 : (List Int)) (o0 : T29) (o1 : T32) (k1 : (List T46) → Option R) (k2 : Int → Option R) : Nat → Int → (List T46) → Option R
  | 0, _, _ => none
  | n + 1, t8, o2 => s12_1 t6 o0 o1 (l12_1 t6 o0 o1 k1 k2 n) k1 k2 t8 o2
noncomputable def L12_1 : LE := ⟨7, 0, ⟨[(2, (.box 0 [] 0)), (3, (.box 1 [] 0)), (6, (.dat (.sl (.int .i64)))), (7, (.own 2)), (8, (.dat (.int .i64)))], [(.box (.dat G29)), (.box (.dat G32)), (.arr G46)]⟩, fun R n x k => l12_1 x.1.2.2.1 x.2.1 x.2.2.1 (fun y0 => k (.exit 0) ⟨[(7, (.own 0))], [(.arr G46 y0)]⟩) (fun y0 => k .ret ⟨[(4, .nils), (5, (.dat (.int .i64) y0))], []⟩) n x.1.2.2.2.2.1 x.2.2.2.1⟩
noncomputable def C12 : Cfg := mkCfg [(7, ⟨[2, 3, 6, 7, 8], [(7, G46)]⟩)] [(7, (⟨[7], []⟩, ⟨[4, 5], []⟩))] (([(0, L12_1)] : List (Nat × LE)).map (·.2))
theorem ek12_1 : EOk E12 C12 Try.f12.ntmps (bodyL Try.f12 0) L12_1 := eok_of (e := L12_1) (fun R x Kn k => s12_1 x.1.2.2.1 x.2.1 x.2.2.1 (fun v0 v1 => Kn (((), (), x.1.2.2.1, (), v0, ()), (x.2.1, x.2.2.1, v1, ()))) (fun y0 => k (.exit 0) ⟨[(7, (.own 0))], [(.arr G46 y0)]⟩) (fun y0 => k .ret ⟨[(4, .nils), (5, (.dat (.int .i64) y0))], []⟩) x.1.2.2.2.2.1 x.2.2.2.1) (fun _ _ _ => rfl) (fun _ _ _ _ => rfl) (fun R x Kn k => by kernel_rfl)
theorem lm12 : ∀ c, Try.f12.body = some c → LmOk E12 C12 Try.f12.ntmps c := lmOk_of (ps := [(0, L12_1)]) (by kernel_rfl) (by kernel_rfl) ⟨ek12_1, trivial⟩
noncomputable def m12 (a0 : T29) (a1 : T32) : Option (((List T46) × (Int × Unit))) :=
  (m30 a0).bind fun r1 =>
  (bif ((!r1) == false) then (m31 a1) else some false).bind fun r2 =>
  bif ((!r1) || (!r2)) then
    some ([], 1, ())
  else
    (m32 a0).bind fun r3 =>
    l12_1 r3 a0 a1 (fun y9 =>
        some (y9, 0, ())) (fun y10 =>
        some ([], y10, ())) FUEL 1 []
noncomputable def e12 : PmE := entry 12 [G29, G32] true (.cons (.sl G46) (.cons (.int .i64) .nil)) (fun x => m12 x.1 x.2.1)
theorem q12 (x : tyL [G29, G32]) : execF E12 C12 Try.f12 (datL [G29, G32] x) [] (retK true (.cons (.sl G46) (.cons (.int .i64) .nil))) = m12 x.1 x.2.1 := by kernel_rfl
theorem p12 : PmOk Try.prog e12 := pm_ok (E := E12) ok12 ord lm12 Try.func12 ca12 q12

/-! 14: consol/consolref10.At -/
theorem ca14 : callable Try.prog 14 := ⟨Try.f14, Try.func14, by kernel_rfl, by kernel_rfl⟩
noncomputable def E14 : Env := mkEnv2 Try.prog [] []
theorem ok14 : EnvOk E14 := mkEnv2_ok (by simp) (by simp)
/-- a round of a loop of consol/consolref10.At -/
noncomputable def s14_1 {R : Type} (t0 : (List T46)) (t1 : Int) (kn : Int → Option R) (k1 : Option R) (k2 : Int → Option R) (t6 : Int) : Option R :=
  bif (decide (t6 < (List.length t0 : Int))) then
    (idx t0 t6).bind fun x1 =>
    (idxG ((decide (x1.1 ≤ t1)) == true) (0, 0, 0, 0, ()) t0 t6).bind fun x2 =>
    bif ((decide (x1.1 ≤ t1)) && (decide (t1 < x2.2.1))) then
      k2 t6
    else
      kn (IntKind.i64.wrap (t6 + 1))
  else
    k1
noncomputable def l14_1 {R : Type} (t0 : (List T46)) (t1 : Int) (k1 : Option R) (k2 : Int → Option R) : Nat → Int → Option R
  | 0, _ => none
  | n + 1, t6 => s14_1 t0 t1 (l14_1 t0 t1 k1 k2 n) k1 k2 t6
noncomputable def L14_1 : LE := ⟨3, 0, ⟨[(0, (.dat (.sl G46))), (1, (.dat (.int .i64))), (6, (.dat (.int .i64)))], []⟩, fun R n x k => l14_1 x.1.1 x.1.2.1 (k (.exit 0) ⟨[], []⟩) (fun y0 => k .ret ⟨[(4, (.dat (.int .i64) y0)), (5, (.dat .bool true))], []⟩) n x.1.2.2.1⟩
noncomputable def C14 : Cfg := mkCfg [(3, ⟨[0, 1, 6], []⟩)] [(3, (⟨[], []⟩, ⟨[4, 5], []⟩))] (([(0, L14_1)] : List (Nat × LE)).map (·.2))
theorem ek14_1 : EOk E14 C14 Try.f14.ntmps (bodyL Try.f14 0) L14_1 := eok_of (e := L14_1) (fun R x Kn k => s14_1 x.1.1 x.1.2.1 (fun v0 => Kn ((x.1.1, x.1.2.1, v0, ()), (()))) (k (.exit 0) ⟨[], []⟩) (fun y0 => k .ret ⟨[(4, (.dat (.int .i64) y0)), (5, (.dat .bool true))], []⟩) x.1.2.2.1) (fun _ _ _ => rfl) (fun _ _ _ _ => rfl) (fun R x Kn k => by kernel_rfl)
theorem lm14 : ∀ c, Try.f14.body = some c → LmOk E14 C14 Try.f14.ntmps c := lmOk_of (ps := [(0, L14_1)]) (by kernel_rfl) (by kernel_rfl) ⟨ek14_1, trivial⟩
noncomputable def m14 (a0 : (List T46)) (a1 : Int) : Option ((Int × (Bool × Unit))) :=
  l14_1 a0 a1 (
      some (0, false, ())) (fun y3 =>
      some (y3, true, ())) FUEL 0
noncomputable def e14 : PmE := entry 14 [(.sl G46), (.int .i64)] true (.cons (.int .i64) (.cons .bool .nil)) (fun x => m14 x.1 x.2.1)
theorem q14 (x : tyL [(.sl G46), (.int .i64)]) : execF E14 C14 Try.f14 (datL [(.sl G46), (.int .i64)] x) [] (retK true (.cons (.int .i64) (.cons .bool .nil))) = m14 x.1 x.2.1 := by kernel_rfl
theorem p14 : PmOk Try.prog e14 := pm_ok (E := E14) ok14 ord lm14 Try.func14 ca14 q14

/-! 18: consol/consolref10.Due -/
theorem ca18 : callable Try.prog 18 := ⟨Try.f18, Try.func18, by kernel_rfl, by kernel_rfl⟩
noncomputable def E18 : Env := mkEnv2 Try.prog [] []
theorem ok18 : EnvOk E18 := mkEnv2_ok (by simp) (by simp)
/-- a round of a loop of consol/consolref10.Due -/
noncomputable def s18_1 {R : Type} (t0 : (List T46)) (t1 : Int) (kn : Int → (List Int) → Option R) (k1 : (List Int) → Option R) (t6 : Int) (o0 : (List Int)) : Option R :=
  bif (decide (t6 < (List.length t0 : Int))) then
    cont (fun (k2 : (List Int) → _) =>
      (idx t0 t6).bind fun x1 =>
      bif (x1.2.2.1 == t1) then
        asrt true (decide (List.length (α := Int) o0 + List.length (α := Int) [t6] ≤ LIM)) (
          k2 (o0 ++ [t6]))
      else
        k2 o0) fun y2 =>
    kn (IntKind.i64.wrap (t6 + 1)) y2
  else
    k1 o0
noncomputable def l18_1 {R : Type} (t0 : (List T46)) (t1 : Int) (k1 : (List Int) → Option R) : Nat → Int → (List Int) → Option R
  | 0, _, _ => none
  | n + 1, t6, o0 => s18_1 t0 t1 (l18_1 t0 t1 k1 n) k1 t6 o0
noncomputable def L18_1 : LE := ⟨4, 0, ⟨[(0, (.dat (.sl G46))), (1, (.dat (.int .i64))), (5, (.own 0)), (6, (.dat (.int .i64)))], [(.arr (.int .i64))]⟩, fun R n x k => l18_1 x.1.1 x.1.2.1 (fun y0 => k (.exit 0) ⟨[(5, (.own 0))], [(.arr (.int .i64) y0)]⟩) n x.1.2.2.2.1 x.2.1⟩
noncomputable def C18 : Cfg := mkCfg [(4, ⟨[0, 1, 5, 6], [(5, (.int .i64))]⟩), (5, ⟨[0, 1, 5, 6], [(5, (.int .i64))]⟩)] [(4, (⟨[5], []⟩, ⟨[4], []⟩))] (([(0, L18_1)] : List (Nat × LE)).map (·.2))
theorem ek18_1 : EOk E18 C18 Try.f18.ntmps (bodyL Try.f18 0) L18_1 := eok_of (e := L18_1) (fun R x Kn k => s18_1 x.1.1 x.1.2.1 (fun v0 v1 => Kn ((x.1.1, x.1.2.1, (), v0, ()), (v1, ()))) (fun y0 => k (.exit 0) ⟨[(5, (.own 0))], [(.arr (.int .i64) y0)]⟩) x.1.2.2.2.1 x.2.1) (fun _ _ _ => rfl) (fun _ _ _ _ => rfl) (fun R x Kn k => by kernel_rfl)
theorem lm18 : ∀ c, Try.f18.body = some c → LmOk E18 C18 Try.f18.ntmps c := lmOk_of (ps := [(0, L18_1)]) (by kernel_rfl) (by kernel_rfl) ⟨ek18_1, trivial⟩
noncomputable def m18 (a0 : (List T46)) (a1 : Int) : Option ((List Int)) :=
  l18_1 a0 a1 (fun y3 =>
      some y3) FUEL 0 []
noncomputable def e18 : PmE := entry 18 [(.sl G46), (.int .i64)] false (.sl (.int .i64)) (fun x => m18 x.1 x.2.1)
theorem q18 (x : tyL [(.sl G46), (.int .i64)]) : execF E18 C18 Try.f18 (datL [(.sl G46), (.int .i64)] x) [] (retK false (.sl (.int .i64))) = m18 x.1 x.2.1 := by kernel_rfl
theorem p18 : PmOk Try.prog e18 := pm_ok (E := E18) ok18 ord lm18 Try.func18 ca18 q18

/-! 3: consol/consollaw10.SchedTells -/
theorem ca3 : callable Try.prog 3 := ⟨Try.f3, Try.func3, by kernel_rfl, by kernel_rfl⟩
noncomputable def E3 : Env := mkEnv2 Try.prog [e9, e10, e11, e12, e13, e14, e15, e16, e17, e18] []
theorem ok3 : EnvOk E3 := mkEnv2_ok (by simp only [List.mem_cons, List.not_mem_nil, or_false, forall_eq_or_imp, forall_eq]; exact ⟨p9, p10, p11, p12, p13, p14, p15, p16, p17, p18⟩) (by simp)
noncomputable def C3 : Cfg := noCfg
theorem lm3 : ∀ c, Try.f3.body = some c → LmOk E3 C3 Try.f3.ntmps c := fun _ _ => noCfg_lm
noncomputable def m3 (a0 : T29) (a1 : T32) (a2 : (List T46)) (a3 : Int) : Option (Bool) :=
  (m9).bind fun r1 =>
  (m10 a0 a1).bind fun r2 =>
  bif ((!r2) || (decide ((List.length a2 : Int) > 60))) then
    some r1
  else
    (m11 a0 a1).bind fun r3 =>
    (m12 a0 a1).bind fun r4 =>
    (m13 a2 a3).bind fun r5 =>
    (m14 a2 a3).bind fun r6 =>
    (bif (r1 == true) then (m15 r3.1 r4.1) else some false).bind fun r7 =>
    (bif (((((r1 && r7) && (r3.2.1 == r4.2.1)) && (r5.1 == r6.1)) && (r5.2.1 == r6.2.1)) == true) then (m17 a2 a3) else some []).bind fun r8 =>
    (bif (((((r1 && r7) && (r3.2.1 == r4.2.1)) && (r5.1 == r6.1)) && (r5.2.1 == r6.2.1)) == true) then (m18 a2 a3) else some []).bind fun r9 =>
    (bif (((((r1 && r7) && (r3.2.1 == r4.2.1)) && (r5.1 == r6.1)) && (r5.2.1 == r6.2.1)) == true) then (m16 r8 r9) else some false).bind fun r10 =>
    some (((((r1 && r7) && (r3.2.1 == r4.2.1)) && (r5.1 == r6.1)) && (r5.2.1 == r6.2.1)) && r10)
noncomputable def e3 : PmE := entry 3 [G29, G32, (.sl G46), (.int .i64)] false .bool (fun x => m3 x.1 x.2.1 x.2.2.1 x.2.2.2.1)
theorem q3 (x : tyL [G29, G32, (.sl G46), (.int .i64)]) : execF E3 C3 Try.f3 (datL [G29, G32, (.sl G46), (.int .i64)] x) [] (retK false .bool) = m3 x.1 x.2.1 x.2.2.1 x.2.2.2.1 := by kernel_rfl
theorem p3 : PmOk Try.prog e3 := pm_ok (E := E3) ok3 ord lm3 Try.func3 ca3 q3

/-! 4: consol/consollaw10.SchedCovers -/
theorem ca4 : callable Try.prog 4 := ⟨Try.f4, Try.func4, by kernel_rfl, by kernel_rfl⟩
noncomputable def E4 : Env := mkEnv2 Try.prog [e9, e10, e11, e13] []
theorem ok4 : EnvOk E4 := mkEnv2_ok (by simp only [List.mem_cons, List.not_mem_nil, or_false, forall_eq_or_imp, forall_eq]; exact ⟨p9, p10, p11, p13⟩) (by simp)
/-- a round of a loop of consol/consollaw10.SchedCovers -/
noncomputable def s4_1 {R : Type} (t2 : Int) (t8 : (List T46)) (kn : Int → Int → Option R) (k1 : Int → Option R) (k2 : Option R) (t10 : Int) (t11 : Int) : Option R :=
  bif (decide (t11 < (List.length t8 : Int))) then
    cont (fun (k10 : Int → _) =>
      (idx t8 t11).bind fun x4 =>
      (idx t8 t11).bind fun x5 =>
      (idxG (((decide (x4.1 ≥ x5.2.1)) == false) && ((decide (t11 > 0)) == true)) (0, 0, 0, 0, ()) t8 t11).bind fun x6 =>
      (idxG (((decide (x4.1 ≥ x5.2.1)) == false) && ((decide (t11 > 0)) == true)) (0, 0, 0, 0, ()) t8 (IntKind.i64.wrap (t11 - 1))).bind fun x7 =>
      bif ((decide (x4.1 ≥ x5.2.1)) || ((decide (t11 > 0)) && (x6.1 != x7.2.1))) then
        k2
      else
        (idx t8 t11).bind fun x8 =>
        (idxG ((decide (x8.1 ≤ t2)) == true) (0, 0, 0, 0, ()) t8 t11).bind fun x9 =>
        bif ((decide (x8.1 ≤ t2)) && (decide (t2 < x9.2.1))) then
          k10 (IntKind.i64.wrap (t10 + 1))
        else
          k10 t10) fun y10 =>
    kn y10 (IntKind.i64.wrap (t11 + 1))
  else
    k1 t10
noncomputable def l4_1 {R : Type} (t2 : Int) (t8 : (List T46)) (k1 : Int → Option R) (k2 : Option R) : Nat → Int → Int → Option R
  | 0, _, _ => none
  | n + 1, t10, t11 => s4_1 t2 t8 (l4_1 t2 t8 k1 k2 n) k1 k2 t10 t11
noncomputable def L4_1 : LE := ⟨12, 0, ⟨[(2, (.dat (.int .i64))), (3, (.box 0 [] 0)), (7, (.dat .bool)), (8, (.dat (.sl G46))), (10, (.dat (.int .i64))), (11, (.dat (.int .i64)))], [(.box (.dat G29))]⟩, fun R n x k => l4_1 x.1.1 x.1.2.2.2.1 (fun y0 => k (.exit 0) ⟨[(2, (.dat (.int .i64) x.1.1)), (3, (.box 0 [] 0)), (7, (.dat .bool x.1.2.2.1)), (8, (.dat (.sl G46) x.1.2.2.2.1)), (10, (.dat (.int .i64) y0))], [(.box (.dat G29 x.2.1))]⟩) (k .ret ⟨[(6, (.dat .bool false))], []⟩) n x.1.2.2.2.2.1 x.1.2.2.2.2.2.1⟩
noncomputable def C4 : Cfg := mkCfg [(12, ⟨[2, 3, 7, 8, 10, 11], []⟩), (13, ⟨[2, 3, 7, 8, 10, 11], []⟩)] [(12, (⟨[2, 3, 7, 8, 10], []⟩, ⟨[6], []⟩))] (([(0, L4_1)] : List (Nat × LE)).map (·.2))
theorem ek4_1 : EOk E4 C4 Try.f4.ntmps (bodyL Try.f4 0) L4_1 := eok_of (e := L4_1) (fun R x Kn k => s4_1 x.1.1 x.1.2.2.2.1 (fun v0 v1 => Kn ((x.1.1, (), x.1.2.2.1, x.1.2.2.2.1, v0, v1, ()), (x.2.1, ()))) (fun y0 => k (.exit 0) ⟨[(2, (.dat (.int .i64) x.1.1)), (3, (.box 0 [] 0)), (7, (.dat .bool x.1.2.2.1)), (8, (.dat (.sl G46) x.1.2.2.2.1)), (10, (.dat (.int .i64) y0))], [(.box (.dat G29 x.2.1))]⟩) (k .ret ⟨[(6, (.dat .bool false))], []⟩) x.1.2.2.2.2.1 x.1.2.2.2.2.2.1) (fun _ _ _ => rfl) (fun _ _ _ _ => rfl) (fun R x Kn k => by kernel_rfl)
theorem lm4 : ∀ c, Try.f4.body = some c → LmOk E4 C4 Try.f4.ntmps c := lmOk_of (ps := [(0, L4_1)]) (by kernel_rfl) (by kernel_rfl) ⟨ek4_1, trivial⟩
noncomputable def m4 (a0 : T29) (a1 : T32) (a2 : Int) : Option (Bool) :=
  (m9).bind fun r1 =>
  (m10 a0 a1).bind fun r2 =>
  bif (!r2) then
    some r1
  else
    (m11 a0 a1).bind fun r3 =>
    bif (r3.2.1 != 0) then
      some (r1 && ((List.length r3.1 : Int) == 0))
    else
      bif ((List.length r3.1 : Int) == 0) then
        some false
      else
        l4_1 a2 r3.1 (fun y11 =>
            (m13 r3.1 a2).bind fun r12 =>
            bif (((((!(r12.2.1 == ((decide (a0.2.2.2.1 ≤ a2)) && (decide (a2 < a0.2.2.2.2.1))))) || (!((y11 == 1) == ((decide (a0.2.2.2.1 ≤ a2)) && (decide (a2 < a0.2.2.2.2.1)))))) || (decide (y11 > 1))) || (decide (r12.1 < 0))) || (decide (r12.1 ≥ (List.length r3.1 : Int)))) then
              some false
            else
              (idxG (r1 == true) (0, 0, 0, 0, ()) r3.1 0).bind fun x13 =>
              (idxG ((r1 && (x13.1 == a0.2.2.2.1)) == true) (0, 0, 0, 0, ()) r3.1 (IntKind.i64.wrap ((List.length r3.1 : Int) - 1))).bind fun x14 =>
              (idxG ((((r1 && (x13.1 == a0.2.2.2.1)) && (x14.2.1 == a0.2.2.2.2.1)) == true) && ((!r12.2.1) == false)) (0, 0, 0, 0, ()) r3.1 r12.1).bind fun x15 =>
              (idxG (((((r1 && (x13.1 == a0.2.2.2.1)) && (x14.2.1 == a0.2.2.2.2.1)) == true) && ((!r12.2.1) == false)) && ((decide (x15.1 ≤ a2)) == true)) (0, 0, 0, 0, ()) r3.1 r12.1).bind fun x16 =>
              some (((r1 && (x13.1 == a0.2.2.2.1)) && (x14.2.1 == a0.2.2.2.2.1)) && ((!r12.2.1) || ((decide (x15.1 ≤ a2)) && (decide (a2 < x16.2.1)))))) (
            some false) FUEL 0 0
noncomputable def e4 : PmE := entry 4 [G29, G32, (.int .i64)] false .bool (fun x => m4 x.1 x.2.1 x.2.2.1)
theorem q4 (x : tyL [G29, G32, (.int .i64)]) : execF E4 C4 Try.f4 (datL [G29, G32, (.int .i64)] x) [] (retK false .bool) = m4 x.1 x.2.1 x.2.2.1 := by kernel_rfl
theorem p4 : PmOk Try.prog e4 := pm_ok (E := E4) ok4 ord lm4 Try.func4 ca4 q4

/-! 5: consol/consollaw10.SchedMonths -/
theorem ca5 : callable Try.prog 5 := ⟨Try.f5, Try.func5, by kernel_rfl, by kernel_rfl⟩
noncomputable def E5 : Env := mkEnv2 Try.prog [e9, e10, e11, e19, e20, e21] []
theorem ok5 : EnvOk E5 := mkEnv2_ok (by simp only [List.mem_cons, List.not_mem_nil, or_false, forall_eq_or_imp, forall_eq]; exact ⟨p9, p10, p11, p19, p20, p21⟩) (by simp)
/-- a round of a loop of consol/consollaw10.SchedMonths -/
noncomputable def s5_1 {R : Type} (t6 : (List T46)) (t8 : Int) (t9 : Int) (t10 : Int) (o0 : T29) (kn : Int → Option R) (k1 : Option R) (k2 : Option R) (t12 : Int) : Option R :=
  bif (decide (t12 < (List.length t6 : Int))) then
    (idx t6 t12).bind fun x5 =>
    (m19 x5.1).bind fun r6 =>
    (bif (((r6.2.2.2.1 != 0) || ((IntKind.i64.wrap ((IntKind.i64.wrap (12 * r6.1)) + r6.2.1)) != (IntKind.i64.wrap ((IntKind.i64.wrap ((IntKind.i64.wrap (12 * t8)) + t9)) + (IntKind.i64.wrap (t12 * o0.2.2.2.2.2.1)))))) == false) then (m20 r6.1 r6.2.1) else some 0).bind fun r7 =>
    bif (((r6.2.2.2.1 != 0) || ((IntKind.i64.wrap ((IntKind.i64.wrap (12 * r6.1)) + r6.2.1)) != (IntKind.i64.wrap ((IntKind.i64.wrap ((IntKind.i64.wrap (12 * t8)) + t9)) + (IntKind.i64.wrap (t12 * o0.2.2.2.2.2.1)))))) || (r6.2.2.1 != (bif decide (r7 < t10) then r7 else t10))) then
      k2
    else
      (m21 o0.2.2.2.1 (IntKind.i64.wrap ((IntKind.i64.wrap (t12 + 1)) * o0.2.2.2.2.2.1))).bind fun r8 =>
      (idxG ((r8.2.1 == 0) == true) (0, 0, 0, 0, ()) t6 t12).bind fun x9 =>
      (idxG ((((r8.2.1 == 0) == true) && ((decide (x9.2.1 > r8.1)) == false)) && ((decide (t12 < (IntKind.i64.wrap ((List.length t6 : Int) - 1)))) == true)) (0, 0, 0, 0, ()) t6 t12).bind fun x10 =>
      bif (((r8.2.1 == 0) && ((decide (x9.2.1 > r8.1)) || ((decide (t12 < (IntKind.i64.wrap ((List.length t6 : Int) - 1)))) && (x10.2.1 != r8.1)))) || ((r8.2.1 != 0) && (decide (t12 < (IntKind.i64.wrap ((List.length t6 : Int) - 1)))))) then
        k2
      else
        kn (IntKind.i64.wrap (t12 + 1))
  else
    k1
noncomputable def l5_1 {R : Type} (t6 : (List T46)) (t8 : Int) (t9 : Int) (t10 : Int) (o0 : T29) (k1 : Option R) (k2 : Option R) : Nat → Int → Option R
  | 0, _ => none
  | n + 1, t12 => s5_1 t6 t8 t9 t10 o0 (l5_1 t6 t8 t9 t10 o0 k1 k2 n) k1 k2 t12
noncomputable def L5_1 : LE := ⟨12, 0, ⟨[(2, (.box 0 [] 0)), (5, (.dat .bool)), (6, (.dat (.sl G46))), (8, (.dat (.int .i64))), (9, (.dat (.int .i64))), (10, (.dat (.int .i64))), (12, (.dat (.int .i64)))], [(.box (.dat G29))]⟩, fun R n x k => l5_1 x.1.2.2.1 x.1.2.2.2.1 x.1.2.2.2.2.1 x.1.2.2.2.2.2.1 x.2.1 (k (.exit 0) ⟨[(5, (.dat .bool x.1.2.1))], []⟩) (k .ret ⟨[(4, (.dat .bool false))], []⟩) n x.1.2.2.2.2.2.2.1⟩
noncomputable def C5 : Cfg := mkCfg [(12, ⟨[2, 5, 6, 8, 9, 10, 12], []⟩)] [(12, (⟨[5], []⟩, ⟨[4], []⟩))] (([(0, L5_1)] : List (Nat × LE)).map (·.2))
theorem ek5_1 : EOk E5 C5 Try.f5.ntmps (bodyL Try.f5 0) L5_1 := eok_of (e := L5_1) (fun R x Kn k => s5_1 x.1.2.2.1 x.1.2.2.2.1 x.1.2.2.2.2.1 x.1.2.2.2.2.2.1 x.2.1 (fun v0 => Kn (((), x.1.2.1, x.1.2.2.1, x.1.2.2.2.1, x.1.2.2.2.2.1, x.1.2.2.2.2.2.1, v0, ()), (x.2.1, ()))) (k (.exit 0) ⟨[(5, (.dat .bool x.1.2.1))], []⟩) (k .ret ⟨[(4, (.dat .bool false))], []⟩) x.1.2.2.2.2.2.2.1) (fun _ _ _ => rfl) (fun _ _ _ _ => rfl) (fun R x Kn k => by kernel_rfl)
theorem lm5 : ∀ c, Try.f5.body = some c → LmOk E5 C5 Try.f5.ntmps c := lmOk_of (ps := [(0, L5_1)]) (by kernel_rfl) (by kernel_rfl) ⟨ek5_1, trivial⟩
noncomputable def m5 (a0 : T29) (a1 : T32) : Option (Bool) :=
  (m9).bind fun r1 =>
  (m10 a0 a1).bind fun r2 =>
  bif (!r2) then
    some r1
  else
    (m11 a0 a1).bind fun r3 =>
    bif (r3.2.1 != 0) then
      some r1
    else
      (m19 a0.2.2.2.1).bind fun r4 =>
      bif (r4.2.2.2.1 != 0) then
        some false
      else
        l5_1 r3.1 r4.1 r4.2.1 r4.2.2.1 a0 (
            some r1) (
            some false) FUEL 0
noncomputable def e5 : PmE := entry 5 [G29, G32] false .bool (fun x => m5 x.1 x.2.1)
theorem q5 (x : tyL [G29, G32]) : execF E5 C5 Try.f5 (datL [G29, G32] x) [] (retK false .bool) = m5 x.1 x.2.1 := by kernel_rfl
theorem p5 : PmOk Try.prog e5 := pm_ok (E := E5) ok5 ord lm5 Try.func5 ca5 q5

/-! 6: consol/consollaw10.SchedDue -/
theorem ca6 : callable Try.prog 6 := ⟨Try.f6, Try.func6, by kernel_rfl, by kernel_rfl⟩
noncomputable def E6 : Env := mkEnv2 Try.prog [e9, e10, e11, e17] []
theorem ok6 : EnvOk E6 := mkEnv2_ok (by simp only [List.mem_cons, List.not_mem_nil, or_false, forall_eq_or_imp, forall_eq]; exact ⟨p9, p10, p11, p17⟩) (by simp)
/-- a round of a loop of consol/consollaw10.SchedDue -/
noncomputable def s6_1 {R : Type} (t8 : (List T46)) (t10 : Int) (t11 : (List Int)) (kn : Int → Int → Option R) (k1 : Int → Option R) (k2 : Option R) (t12 : Int) (t13 : Int) : Option R :=
  bif (decide (t13 < (List.length t11 : Int))) then
    cont (fun (k14 : Int → _) =>
      (idx t11 t13).bind fun x6 =>
      (idxG ((decide (x6 < 0)) == false) 0 t11 t13).bind fun x7 =>
      (idxG ((((decide (x6 < 0)) || (decide (x7 ≥ (List.length t8 : Int)))) == false) && ((decide (t13 > 0)) == true)) 0 t11 t13).bind fun x8 =>
      (idxG ((((decide (x6 < 0)) || (decide (x7 ≥ (List.length t8 : Int)))) == false) && ((decide (t13 > 0)) == true)) 0 t11 (IntKind.i64.wrap (t13 - 1))).bind fun x9 =>
      bif (((decide (x6 < 0)) || (decide (x7 ≥ (List.length t8 : Int)))) || ((decide (t13 > 0)) && (x8 != (IntKind.i64.wrap (x9 + 1))))) then
        k2
      else
        (idx t11 t13).bind fun x10 =>
        (idx t8 x10).bind fun x11 =>
        (idx t8 t10).bind fun x12 =>
        bif (x11.2.2.1 != x12.2.2.1) then
          k2
        else
          (idx t11 t13).bind fun x13 =>
          bif (x13 == t10) then
            k14 (IntKind.i64.wrap (t12 + 1))
          else
            k14 t12) fun y14 =>
    kn y14 (IntKind.i64.wrap (t13 + 1))
  else
    k1 t12
noncomputable def l6_1 {R : Type} (t8 : (List T46)) (t10 : Int) (t11 : (List Int)) (k1 : Int → Option R) (k2 : Option R) : Nat → Int → Int → Option R
  | 0, _, _ => none
  | n + 1, t12, t13 => s6_1 t8 t10 t11 (l6_1 t8 t10 t11 k1 k2 n) k1 k2 t12 t13
noncomputable def L6_1 : LE := ⟨14, 0, ⟨[(2, (.dat (.int .i64))), (7, (.dat .bool)), (8, (.dat (.sl G46))), (10, (.dat (.int .i64))), (11, (.dat (.sl (.int .i64)))), (12, (.dat (.int .i64))), (13, (.dat (.int .i64)))], []⟩, fun R n x k => l6_1 x.1.2.2.1 x.1.2.2.2.1 x.1.2.2.2.2.1 (fun y0 => k (.exit 2) ⟨[(2, (.dat (.int .i64) x.1.1)), (7, (.dat .bool x.1.2.1)), (8, (.dat (.sl G46) x.1.2.2.1)), (10, (.dat (.int .i64) x.1.2.2.2.1)), (12, (.dat (.int .i64) y0))], []⟩) (k .ret ⟨[(6, (.dat .bool false))], []⟩) n x.1.2.2.2.2.2.1 x.1.2.2.2.2.2.2.1⟩
/-- a round of a loop of consol/consollaw10.SchedDue -/
noncomputable def s6_2 {R : Type} (t8 : (List T46)) (kn : Int → Option R) (k1 : Option R) (k2 : Option R) (t10 : Int) : Option R :=
  bif (decide (t10 < (List.length t8 : Int))) then
    (idx t8 t10).bind fun x4 =>
    (m17 t8 x4.2.2.1).bind fun r5 =>
    l6_1 t8 t10 r5 (fun y15 =>
        bif (y15 != 1) then
          k2
        else
          kn (IntKind.i64.wrap (t10 + 1))) (
        k2) FUEL 0 0
  else
    k1
noncomputable def l6_2 {R : Type} (t8 : (List T46)) (k1 : Option R) (k2 : Option R) : Nat → Int → Option R
  | 0, _ => none
  | n + 1, t10 => s6_2 t8 (l6_2 t8 k1 k2 n) k1 k2 t10
noncomputable def L6_2 : LE := ⟨9, 0, ⟨[(2, (.dat (.int .i64))), (7, (.dat .bool)), (8, (.dat (.sl G46))), (10, (.dat (.int .i64)))], []⟩, fun R n x k => l6_2 x.1.2.2.1 (k (.exit 0) ⟨[(2, (.dat (.int .i64) x.1.1)), (7, (.dat .bool x.1.2.1)), (8, (.dat (.sl G46) x.1.2.2.1))], []⟩) (k .ret ⟨[(6, (.dat .bool false))], []⟩) n x.1.2.2.2.1⟩
/-- a round of a loop of consol/consollaw10.SchedDue -/
noncomputable def s6_3 {R : Type} (t2 : Int) (t8 : (List T46)) (t14 : (List Int)) (kn : Int → Option R) (k1 : Option R) (k2 : Option R) (t15 : Int) : Option R :=
  bif (decide (t15 < (List.length t14 : Int))) then
    (idx t14 t15).bind fun x17 =>
    (idxG ((decide (x17 < 0)) == false) 0 t14 t15).bind fun x18 =>
    bif ((decide (x17 < 0)) || (decide (x18 ≥ (List.length t8 : Int)))) then
      k2
    else
      (idx t14 t15).bind fun x19 =>
      (idx t8 x19).bind fun x20 =>
      bif (x20.2.2.1 != t2) then
        k2
      else
        kn (IntKind.i64.wrap (t15 + 1))
  else
    k1
noncomputable def l6_3 {R : Type} (t2 : Int) (t8 : (List T46)) (t14 : (List Int)) (k1 : Option R) (k2 : Option R) : Nat → Int → Option R
  | 0, _ => none
  | n + 1, t15 => s6_3 t2 t8 t14 (l6_3 t2 t8 t14 k1 k2 n) k1 k2 t15
noncomputable def L6_3 : LE := ⟨26, 0, ⟨[(2, (.dat (.int .i64))), (7, (.dat .bool)), (8, (.dat (.sl G46))), (14, (.dat (.sl (.int .i64)))), (15, (.dat (.int .i64)))], []⟩, fun R n x k => l6_3 x.1.1 x.1.2.2.1 x.1.2.2.2.1 (k (.exit 4) ⟨[(7, (.dat .bool x.1.2.1))], []⟩) (k .ret ⟨[(6, (.dat .bool false))], []⟩) n x.1.2.2.2.2.1⟩
noncomputable def C6 : Cfg := mkCfg [(9, ⟨[2, 7, 8, 10], []⟩), (14, ⟨[2, 7, 8, 10, 11, 12, 13], []⟩), (15, ⟨[2, 7, 8, 10, 11, 12, 13], []⟩), (26, ⟨[2, 7, 8, 14, 15], []⟩)] [(9, (⟨[2, 7, 8], []⟩, ⟨[6], []⟩)), (14, (⟨[2, 7, 8, 10, 12], []⟩, ⟨[6], []⟩)), (26, (⟨[7], []⟩, ⟨[6], []⟩))] (([(1, L6_1), (0, L6_2), (2, L6_3)] : List (Nat × LE)).map (·.2))
theorem ek6_1 : EOk E6 C6 Try.f6.ntmps (bodyL Try.f6 1) L6_1 := eok_of (e := L6_1) (fun R x Kn k => s6_1 x.1.2.2.1 x.1.2.2.2.1 x.1.2.2.2.2.1 (fun v0 v1 => Kn ((x.1.1, x.1.2.1, x.1.2.2.1, x.1.2.2.2.1, x.1.2.2.2.2.1, v0, v1, ()), (()))) (fun y0 => k (.exit 2) ⟨[(2, (.dat (.int .i64) x.1.1)), (7, (.dat .bool x.1.2.1)), (8, (.dat (.sl G46) x.1.2.2.1)), (10, (.dat (.int .i64) x.1.2.2.2.1)), (12, (.dat (.int .i64) y0))], []⟩) (k .ret ⟨[(6, (.dat .bool false))], []⟩) x.1.2.2.2.2.2.1 x.1.2.2.2.2.2.2.1) (fun _ _ _ => rfl) (fun _ _ _ _ => rfl) (fun R x Kn k => by kernel_rfl)
theorem ek6_2 : EOk E6 C6 Try.f6.ntmps (bodyL Try.f6 0) L6_2 := eok_of (e := L6_2) (fun R x Kn k => s6_2 x.1.2.2.1 (fun v0 => Kn ((x.1.1, x.1.2.1, x.1.2.2.1, v0, ()), (()))) (k (.exit 0) ⟨[(2, (.dat (.int .i64) x.1.1)), (7, (.dat .bool x.1.2.1)), (8, (.dat (.sl G46) x.1.2.2.1))], []⟩) (k .ret ⟨[(6, (.dat .bool false))], []⟩) x.1.2.2.2.1) (fun _ _ _ => rfl) (fun _ _ _ _ => rfl) (fun R x Kn k => by kernel_rfl)
theorem ek6_3 : EOk E6 C6 Try.f6.ntmps (bodyL Try.f6 2) L6_3 := eok_of (e := L6_3) (fun R x Kn k => s6_3 x.1.1 x.1.2.2.1 x.1.2.2.2.1 (fun v0 => Kn ((x.1.1, x.1.2.1, x.1.2.2.1, x.1.2.2.2.1, v0, ()), (()))) (k (.exit 4) ⟨[(7, (.dat .bool x.1.2.1))], []⟩) (k .ret ⟨[(6, (.dat .bool false))], []⟩) x.1.2.2.2.2.1) (fun _ _ _ => rfl) (fun _ _ _ _ => rfl) (fun R x Kn k => by kernel_rfl)
theorem lm6 : ∀ c, Try.f6.body = some c → LmOk E6 C6 Try.f6.ntmps c := lmOk_of (ps := [(1, L6_1), (0, L6_2), (2, L6_3)]) (by kernel_rfl) (by kernel_rfl) ⟨ek6_1, ek6_2, ek6_3, trivial⟩
noncomputable def m6 (a0 : T29) (a1 : T32) (a2 : Int) : Option (Bool) :=
  (m9).bind fun r1 =>
  (m10 a0 a1).bind fun r2 =>
  bif (!r2) then
    some r1
  else
    (m11 a0 a1).bind fun r3 =>
    bif (r3.2.1 != 0) then
      some r1
    else
      l6_2 r3.1 (
          (m17 r3.1 a2).bind fun r16 =>
          l6_3 a2 r3.1 r16 (
              some r1) (
              some false) FUEL 0) (
          some false) FUEL 0
noncomputable def e6 : PmE := entry 6 [G29, G32, (.int .i64)] false .bool (fun x => m6 x.1 x.2.1 x.2.2.1)
theorem q6 (x : tyL [G29, G32, (.int .i64)]) : execF E6 C6 Try.f6 (datL [G29, G32, (.int .i64)] x) [] (retK false .bool) = m6 x.1 x.2.1 x.2.2.1 := by kernel_rfl
theorem p6 : PmOk Try.prog e6 := pm_ok (E := E6) ok6 ord lm6 Try.func6 ca6 q6

/-! 7: consol/consollaw10.SchedCut -/
theorem ca7 : callable Try.prog 7 := ⟨Try.f7, Try.func7, by kernel_rfl, by kernel_rfl⟩
noncomputable def E7 : Env := mkEnv2 Try.prog [e9, e10, e11, e15] []
theorem ok7 : EnvOk E7 := mkEnv2_ok (by simp only [List.mem_cons, List.not_mem_nil, or_false, forall_eq_or_imp, forall_eq]; exact ⟨p9, p10, p11, p15⟩) (by simp)
/-- a round of a loop of consol/consollaw10.SchedCut -/
noncomputable def s7_1 {R : Type} (t8 : (List T46)) (o0 : T29) (kn : Int → Option R) (k1 : Int → Option R) (t13 : Int) : Option R :=
  (idxG ((decide (t13 < (List.length t8 : Int))) == true) (0, 0, 0, 0, ()) t8 t13).bind fun x5 =>
  bif ((decide (t13 < (List.length t8 : Int))) && (decide (x5.2.1 < o0.2.2.2.2.1))) then
    kn (IntKind.i64.wrap (t13 + 1))
  else
    k1 t13
noncomputable def l7_1 {R : Type} (t8 : (List T46)) (o0 : T29) (k1 : Int → Option R) : Nat → Int → Option R
  | 0, _ => none
  | n + 1, t13 => s7_1 t8 o0 (l7_1 t8 o0 k1 n) k1 t13
noncomputable def L7_1 : LE := ⟨14, 0, ⟨[(7, (.dat .bool)), (8, (.dat (.sl G46))), (10, (.box 0 [] 0)), (11, (.dat (.sl G46))), (13, (.dat (.int .i64)))], [(.box (.dat G29))]⟩, fun R n x k => l7_1 x.1.2.1 x.2.1 (fun y0 => k (.exit 0) ⟨[(7, (.dat .bool x.1.1)), (8, (.dat (.sl G46) x.1.2.1)), (10, (.box 0 [] 0)), (11, (.dat (.sl G46) x.1.2.2.2.1)), (13, (.dat (.int .i64) y0))], [(.box (.dat G29 x.2.1))]⟩) n x.1.2.2.2.2.1⟩
noncomputable def C7 : Cfg := mkCfg [(14, ⟨[7, 8, 10, 11, 13], []⟩)] [(14, (⟨[7, 8, 10, 11, 13], []⟩, ⟨[6], []⟩))] (([(0, L7_1)] : List (Nat × LE)).map (·.2))
theorem ek7_1 : EOk E7 C7 Try.f7.ntmps (bodyL Try.f7 0) L7_1 := eok_of (e := L7_1) (fun R x Kn k => s7_1 x.1.2.1 x.2.1 (fun v0 => Kn ((x.1.1, x.1.2.1, (), x.1.2.2.2.1, v0, ()), (x.2.1, ()))) (fun y0 => k (.exit 0) ⟨[(7, (.dat .bool x.1.1)), (8, (.dat (.sl G46) x.1.2.1)), (10, (.box 0 [] 0)), (11, (.dat (.sl G46) x.1.2.2.2.1)), (13, (.dat (.int .i64) y0))], [(.box (.dat G29 x.2.1))]⟩) x.1.2.2.2.2.1) (fun _ _ _ => rfl) (fun _ _ _ _ => rfl) (fun R x Kn k => by kernel_rfl)
theorem lm7 : ∀ c, Try.f7.body = some c → LmOk E7 C7 Try.f7.ntmps c := lmOk_of (ps := [(0, L7_1)]) (by kernel_rfl) (by kernel_rfl) ⟨ek7_1, trivial⟩
noncomputable def m7 (a0 : T29) (a1 : T32) (a2 : Int) : Option (Bool) :=
  (m9).bind fun r1 =>
  (m10 a0 a1).bind fun r2 =>
  bif (!r2) then
    some r1
  else
    (m11 a0 a1).bind fun r3 =>
    bif (r3.2.1 != 0) then
      some r1
    else
      asrt true ((IntKind.i64.wrap (a0.2.2.2.2.1 - a0.2.2.2.1)) != 0) (
        (m11 (a0.1, a0.2.1, a0.2.2.1, a0.2.2.2.1, (IntKind.i64.wrap ((IntKind.i64.wrap (a0.2.2.2.1 + 1)) + (Int.tmod (IntKind.i64.wrap a2) (IntKind.i64.wrap (a0.2.2.2.2.1 - a0.2.2.2.1))))), a0.2.2.2.2.2.1, a0.2.2.2.2.2.2.1, a0.2.2.2.2.2.2.2.1, a0.2.2.2.2.2.2.2.2.1, a0.2.2.2.2.2.2.2.2.2.1, a0.2.2.2.2.2.2.2.2.2.2.1, a0.2.2.2.2.2.2.2.2.2.2.2.1, a0.2.2.2.2.2.2.2.2.2.2.2.2.1, a0.2.2.2.2.2.2.2.2.2.2.2.2.2.1, a0.2.2.2.2.2.2.2.2.2.2.2.2.2.2.1, a0.2.2.2.2.2.2.2.2.2.2.2.2.2.2.2.1, a0.2.2.2.2.2.2.2.2.2.2.2.2.2.2.2.2.1, a0.2.2.2.2.2.2.2.2.2.2.2.2.2.2.2.2.2.1, a0.2.2.2.2.2.2.2.2.2.2.2.2.2.2.2.2.2.2.1, a0.2.2.2.2.2.2.2.2.2.2.2.2.2.2.2.2.2.2.2.1, a0.2.2.2.2.2.2.2.2.2.2.2.2.2.2.2.2.2.2.2.2.1, ()) a1).bind fun r4 =>
        bif (r4.2.1 != 0) then
          some (r1 && ((List.length r4.1 : Int) == 0))
        else
          l7_1 r3.1 (a0.1, a0.2.1, a0.2.2.1, a0.2.2.2.1, (IntKind.i64.wrap ((IntKind.i64.wrap (a0.2.2.2.1 + 1)) + (Int.tmod (IntKind.i64.wrap a2) (IntKind.i64.wrap (a0.2.2.2.2.1 - a0.2.2.2.1))))), a0.2.2.2.2.2.1, a0.2.2.2.2.2.2.1, a0.2.2.2.2.2.2.2.1, a0.2.2.2.2.2.2.2.2.1, a0.2.2.2.2.2.2.2.2.2.1, a0.2.2.2.2.2.2.2.2.2.2.1, a0.2.2.2.2.2.2.2.2.2.2.2.1, a0.2.2.2.2.2.2.2.2.2.2.2.2.1, a0.2.2.2.2.2.2.2.2.2.2.2.2.2.1, a0.2.2.2.2.2.2.2.2.2.2.2.2.2.2.1, a0.2.2.2.2.2.2.2.2.2.2.2.2.2.2.2.1, a0.2.2.2.2.2.2.2.2.2.2.2.2.2.2.2.2.1, a0.2.2.2.2.2.2.2.2.2.2.2.2.2.2.2.2.2.1, a0.2.2.2.2.2.2.2.2.2.2.2.2.2.2.2.2.2.2.1, a0.2.2.2.2.2.2.2.2.2.2.2.2.2.2.2.2.2.2.2.1, a0.2.2.2.2.2.2.2.2.2.2.2.2.2.2.2.2.2.2.2.2.1, ()) (fun y6 =>
              bif (((List.length r4.1 : Int) != (IntKind.i64.wrap (y6 + 1))) || (decide (y6 ≥ (List.length r3.1 : Int)))) then
                some false
              else
                asrt (r1 == true) (bounds true (List.length r4.1) 0 y6) (
                  asrt (r1 == true) (bounds true (List.length r3.1) 0 y6) (
                    (bif (r1 == true) then (m15 (subl r4.1 0 y6) (subl r3.1 0 y6)) else some false).bind fun r7 =>
                    (idxG ((r1 && r7) == true) (0, 0, 0, 0, ()) r4.1 y6).bind fun x8 =>
                    (idxG ((r1 && r7) == true) (0, 0, 0, 0, ()) r3.1 y6).bind fun x9 =>
                    (idxG (((r1 && r7) && (x8.1 == x9.1)) == true) (0, 0, 0, 0, ()) r4.1 y6).bind fun x10 =>
                    some (((r1 && r7) && (x8.1 == x9.1)) && (x10.2.1 == (a0.1, a0.2.1, a0.2.2.1, a0.2.2.2.1, (IntKind.i64.wrap ((IntKind.i64.wrap (a0.2.2.2.1 + 1)) + (Int.tmod (IntKind.i64.wrap a2) (IntKind.i64.wrap (a0.2.2.2.2.1 - a0.2.2.2.1))))), a0.2.2.2.2.2.1, a0.2.2.2.2.2.2.1, a0.2.2.2.2.2.2.2.1, a0.2.2.2.2.2.2.2.2.1, a0.2.2.2.2.2.2.2.2.2.1, a0.2.2.2.2.2.2.2.2.2.2.1, a0.2.2.2.2.2.2.2.2.2.2.2.1, a0.2.2.2.2.2.2.2.2.2.2.2.2.1, a0.2.2.2.2.2.2.2.2.2.2.2.2.2.1, a0.2.2.2.2.2.2.2.2.2.2.2.2.2.2.1, a0.2.2.2.2.2.2.2.2.2.2.2.2.2.2.2.1, a0.2.2.2.2.2.2.2.2.2.2.2.2.2.2.2.2.1, a0.2.2.2.2.2.2.2.2.2.2.2.2.2.2.2.2.2.1, a0.2.2.2.2.2.2.2.2.2.2.2.2.2.2.2.2.2.2.1, a0.2.2.2.2.2.2.2.2.2.2.2.2.2.2.2.2.2.2.2.1, a0.2.2.2.2.2.2.2.2.2.2.2.2.2.2.2.2.2.2.2.2.1, ()).2.2.2.2.1))))) FUEL 0)
noncomputable def e7 : PmE := entry 7 [G29, G32, (.int .u16)] false .bool (fun x => m7 x.1 x.2.1 x.2.2.1)
theorem q7 (x : tyL [G29, G32, (.int .u16)]) : execF E7 C7 Try.f7 (datL [G29, G32, (.int .u16)] x) [] (retK false .bool) = m7 x.1 x.2.1 x.2.2.1 := by kernel_rfl
theorem p7 : PmOk Try.prog e7 := pm_ok (E := E7) ok7 ord lm7 Try.func7 ca7 q7

/-! 22: consol/cal.Business -/
theorem ca22 : callable Try.prog 22 := ⟨Try.f22, Try.func22, by kernel_rfl, by kernel_rfl⟩
noncomputable def E22 : Env := mkEnv2 Try.prog [e27, e41, e42] []
theorem ok22 : EnvOk E22 := mkEnv2_ok (by simp only [List.mem_cons, List.not_mem_nil, or_false, forall_eq_or_imp, forall_eq]; exact ⟨p27, p41, p42⟩) (by simp)
noncomputable def C22 : Cfg := noCfg
theorem lm22 : ∀ c, Try.f22.body = some c → LmOk E22 C22 Try.f22.ntmps c := fun _ _ => noCfg_lm
noncomputable def m22 (a0 : T32) (a1 : Int) : Option (Bool) :=
  (m27 a0).bind fun r1 =>
  (bif (r1 == true) then (m41 a1) else some false).bind fun r2 =>
  (bif ((r1 && r2) == true) then (m42 a0 a1) else some false).bind fun r3 =>
  some ((r1 && r2) && r3)
noncomputable def e22 : PmE := entry 22 [G32, (.int .i64)] false .bool (fun x => m22 x.1 x.2.1)
theorem q22 (x : tyL [G32, (.int .i64)]) : execF E22 C22 Try.f22 (datL [G32, (.int .i64)] x) [] (retK false .bool) = m22 x.1 x.2.1 := by kernel_rfl
theorem p22 : PmOk Try.prog e22 := pm_ok (E := E22) ok22 ord lm22 Try.func22 ca22 q22

/-! 23: consol/cal.Next -/
theorem ca23 : callable Try.prog 23 := ⟨Try.f23, Try.func23, by kernel_rfl, by kernel_rfl⟩
noncomputable def E23 : Env := mkEnv2 Try.prog [e28] []
theorem ok23 : EnvOk E23 := mkEnv2_ok (by simp only [List.mem_cons, List.not_mem_nil, or_false, forall_eq]; exact p28) (by simp)
noncomputable def C23 : Cfg := noCfg
theorem lm23 : ∀ c, Try.f23.body = some c → LmOk E23 C23 Try.f23.ntmps c := fun _ _ => noCfg_lm
noncomputable def m23 (a0 : T32) (a1 : Int) : Option (T95) :=
  (m28 a0 a1 1).bind fun r1 =>
  some (r1.1, r1.2.1, ())
noncomputable def e23 : PmE := entry 23 [G32, (.int .i64)] true G95 (fun x => m23 x.1 x.2.1)
theorem q23 (x : tyL [G32, (.int .i64)]) : execF E23 C23 Try.f23 (datL [G32, (.int .i64)] x) [] (retK true G95) = m23 x.1 x.2.1 := by kernel_rfl
theorem p23 : PmOk Try.prog e23 := pm_ok (E := E23) ok23 ord lm23 Try.func23 ca23 q23

/-! 8: consol/consollaw10.SchedPays -/
theorem ca8 : callable Try.prog 8 := ⟨Try.f8, Try.func8, by kernel_rfl, by kernel_rfl⟩
noncomputable def E8 : Env := mkEnv2 Try.prog [e9, e10, e11, e19, e22, e23] []
theorem ok8 : EnvOk E8 := mkEnv2_ok (by simp only [List.mem_cons, List.not_mem_nil, or_false, forall_eq_or_imp, forall_eq]; exact ⟨p9, p10, p11, p19, p22, p23⟩) (by simp)
/-- a round of a loop of consol/consollaw10.SchedPays -/
noncomputable def s8_1 {R : Type} (o1 : T32) (o2 : T46) (kn : Int → Int → Option R) (k1 : Int → Option R) (t24 : Int) (t25 : Int) : Option R :=
  bif ((decide (t25 < o2.2.2.1)) && (decide (t24 ≤ 60))) then
    cont (fun (k12 : Int → _) =>
      (m22 o1 t25).bind fun r11 =>
      bif r11 then
        k12 (IntKind.i64.wrap (t24 + 1))
      else
        k12 t24) fun y12 =>
    kn y12 (IntKind.i64.wrap (t25 + 1))
  else
    k1 t24
noncomputable def l8_1 {R : Type} (o1 : T32) (o2 : T46) (k1 : Int → Option R) : Nat → Int → Int → Option R
  | 0, _, _ => none
  | n + 1, t24, t25 => s8_1 o1 o2 (l8_1 o1 o2 k1 n) k1 t24 t25
noncomputable def L8_1 : LE := ⟨22, 0, ⟨[(2, (.box 0 [] 0)), (3, (.box 1 [] 0)), (5, (.dat .bool)), (6, (.dat (.sl G46))), (8, (.dat (.int .i64))), (9, (.box 2 [] 0)), (24, (.dat (.int .i64))), (25, (.dat (.int .i64)))], [(.box (.dat G29)), (.box (.dat G32)), (.box (.dat G46))]⟩, fun R n x k => l8_1 x.2.2.1 x.2.2.2.1 (fun y0 => k (.exit 2) ⟨[(2, (.box 0 [] 0)), (3, (.box 1 [] 0)), (5, (.dat .bool x.1.2.2.1)), (6, (.dat (.sl G46) x.1.2.2.2.1)), (8, (.dat (.int .i64) x.1.2.2.2.2.1)), (9, (.box 2 [] 0)), (24, (.dat (.int .i64) y0))], [(.box (.dat G29 x.2.1)), (.box (.dat G32 x.2.2.1)), (.box (.dat G46 x.2.2.2.1))]⟩) n x.1.2.2.2.2.2.2.1 x.1.2.2.2.2.2.2.2.1⟩
/-- a round of a loop of consol/consollaw10.SchedPays -/
noncomputable def s8_2 {R : Type} (t6 : (List T46)) (o0 : T29) (o1 : T32) (kn : Int → Option R) (k1 : Option R) (k2 : Option R) (t8 : Int) : Option R :=
  bif (decide (t8 < (List.length t6 : Int))) then
    (idx t6 t8).bind fun x4 =>
    (bif ((((o0.2.2.2.2.2.2.2.1 == 0) && (x4.2.2.1 != x4.2.1)) == false) && ((o0.2.2.2.2.2.2.2.1 != 0) == true)) then (m22 o1 x4.2.2.1) else some false).bind fun r5 =>
    (idxG (((((((o0.2.2.2.2.2.2.2.1 == 0) && (x4.2.2.1 != x4.2.1)) || ((o0.2.2.2.2.2.2.2.1 != 0) && (!r5))) || ((o0.2.2.2.2.2.2.2.1 == 1) && (decide (x4.2.2.1 < x4.2.1)))) || ((o0.2.2.2.2.2.2.2.1 == 3) && (decide (x4.2.2.1 > x4.2.1)))) == false) && ((decide (t8 > 0)) == true)) (0, 0, 0, 0, ()) t6 (IntKind.i64.wrap (t8 - 1))).bind fun x6 =>
    bif ((((((o0.2.2.2.2.2.2.2.1 == 0) && (x4.2.2.1 != x4.2.1)) || ((o0.2.2.2.2.2.2.2.1 != 0) && (!r5))) || ((o0.2.2.2.2.2.2.2.1 == 1) && (decide (x4.2.2.1 < x4.2.1)))) || ((o0.2.2.2.2.2.2.2.1 == 3) && (decide (x4.2.2.1 > x4.2.1)))) || ((decide (t8 > 0)) && (decide (x4.2.2.1 < x6.2.2.1)))) then
      k2
    else
      (m19 x4.2.1).bind fun r7 =>
      (m19 x4.2.2.1).bind fun r8 =>
      (m23 o1 x4.2.1).bind fun r9 =>
      (m19 r9.1).bind fun r10 =>
      bif (((((o0.2.2.2.2.2.2.2.1 == 2) && (r9.2.1 == 0)) && (r7.1 == r10.1)) && (r7.2.1 == r10.2.1)) && (((r8.1 != r7.1) || (r8.2.1 != r7.2.1)) || (x4.2.2.1 != r9.1))) then
        k2
      else
        l8_1 o1 x4 (fun y13 =>
            (bif ((((y13 != o0.2.2.2.2.2.2.2.2.1) || (decide (x4.2.2.2.1 > x4.2.2.1))) == false) && ((decide (x4.2.2.2.1 < x4.2.2.1)) == true)) then (m22 o1 x4.2.2.2.1) else some false).bind fun r14 =>
            bif (((y13 != o0.2.2.2.2.2.2.2.2.1) || (decide (x4.2.2.2.1 > x4.2.2.1))) || ((decide (x4.2.2.2.1 < x4.2.2.1)) && (!r14))) then
              k2
            else
              kn (IntKind.i64.wrap (t8 + 1))) FUEL 0 x4.2.2.2.1
  else
    k1
noncomputable def l8_2 {R : Type} (t6 : (List T46)) (o0 : T29) (o1 : T32) (k1 : Option R) (k2 : Option R) : Nat → Int → Option R
  | 0, _ => none
  | n + 1, t8 => s8_2 t6 o0 o1 (l8_2 t6 o0 o1 k1 k2 n) k1 k2 t8
noncomputable def L8_2 : LE := ⟨9, 0, ⟨[(2, (.box 0 [] 0)), (3, (.box 1 [] 0)), (5, (.dat .bool)), (6, (.dat (.sl G46))), (8, (.dat (.int .i64)))], [(.box (.dat G29)), (.box (.dat G32))]⟩, fun R n x k => l8_2 x.1.2.2.2.1 x.2.1 x.2.2.1 (k (.exit 0) ⟨[(5, (.dat .bool x.1.2.2.1))], []⟩) (k .ret ⟨[(4, (.dat .bool false))], []⟩) n x.1.2.2.2.2.1⟩
noncomputable def C8 : Cfg := mkCfg [(9, ⟨[2, 3, 5, 6, 8], []⟩), (22, ⟨[2, 3, 5, 6, 8, 9, 24, 25], []⟩), (23, ⟨[2, 3, 5, 6, 8, 9, 24, 25], []⟩)] [(9, (⟨[5], []⟩, ⟨[4], []⟩)), (22, (⟨[2, 3, 5, 6, 8, 9, 24], []⟩, ⟨[4], []⟩))] (([(1, L8_1), (0, L8_2)] : List (Nat × LE)).map (·.2))
theorem ek8_1 : EOk E8 C8 Try.f8.ntmps (bodyL Try.f8 1) L8_1 := eok_of (e := L8_1) (fun R x Kn k => s8_1 x.2.2.1 x.2.2.2.1 (fun v0 v1 => Kn (((), (), x.1.2.2.1, x.1.2.2.2.1, x.1.2.2.2.2.1, (), v0, v1, ()), (x.2.1, x.2.2.1, x.2.2.2.1, ()))) (fun y0 => k (.exit 2) ⟨[(2, (.box 0 [] 0)), (3, (.box 1 [] 0)), (5, (.dat .bool x.1.2.2.1)), (6, (.dat (.sl G46) x.1.2.2.2.1)), (8, (.dat (.int .i64) x.1.2.2.2.2.1)), (9, (.box 2 [] 0)), (24, (.dat (.int .i64) y0))], [(.box (.dat G29 x.2.1)), (.box (.dat G32 x.2.2.1)), (.box (.dat G46 x.2.2.2.1))]⟩) x.1.2.2.2.2.2.2.1 x.1.2.2.2.2.2.2.2.1) (fun _ _ _ => rfl) (fun _ _ _ _ => rfl) (fun R x Kn k => by kernel_rfl)
theorem ek8_2 : EOk E8 C8 Try.f8.ntmps (bodyL Try.f8 0) L8_2 := eok_of (e := L8_2) (fun R x Kn k => s8_2 x.1.2.2.2.1 x.2.1 x.2.2.1 (fun v0 => Kn (((), (), x.1.2.2.1, x.1.2.2.2.1, v0, ()), (x.2.1, x.2.2.1, ()))) (k (.exit 0) ⟨[(5, (.dat .bool x.1.2.2.1))], []⟩) (k .ret ⟨[(4, (.dat .bool false))], []⟩) x.1.2.2.2.2.1) (fun _ _ _ => rfl) (fun _ _ _ _ => rfl) (fun R x Kn k => by kernel_rfl)
theorem lm8 : ∀ c, Try.f8.body = some c → LmOk E8 C8 Try.f8.ntmps c := lmOk_of (ps := [(1, L8_1), (0, L8_2)]) (by kernel_rfl) (by kernel_rfl) ⟨ek8_1, ek8_2, trivial⟩
noncomputable def m8 (a0 : T29) (a1 : T32) : Option (Bool) :=
  (m9).bind fun r1 =>
  (m10 a0 a1).bind fun r2 =>
  bif (!r2) then
    some r1
  else
    (m11 a0 a1).bind fun r3 =>
    bif (r3.2.1 != 0) then
      some r1
    else
      l8_2 r3.1 a0 a1 (
          some r1) (
          some false) FUEL 0
noncomputable def e8 : PmE := entry 8 [G29, G32] false .bool (fun x => m8 x.1 x.2.1)
theorem q8 (x : tyL [G29, G32]) : execF E8 C8 Try.f8 (datL [G29, G32] x) [] (retK false .bool) = m8 x.1 x.2.1 := by kernel_rfl
theorem p8 : PmOk Try.prog e8 := pm_ok (E := E8) ok8 ord lm8 Try.func8 ca8 q8

end Go.Proofs.Ytophafggfmhooaa
