/- Models of the functions that the statements reach. -/
import Derived.Test.YtmkhnmkbohckbaaE32
import Derived.Test.YtmkhnmkbohckbaaChecked
import Derived.KernelRfl
namespace Go.Proofs.Ytmkhnmkbohckbaa
open Go Go.Eng
set_option linter.unusedVariables false

/-- x, y, signed, code -/
abbrev G7 : GT := .cons (.int .i64) (.cons (.int .i64) (.cons .bool (.cons (.int .u8) (.nil))))
abbrev T7 : Type := Int × Int × Bool × Int × Unit
/-- msg, addr -/
abbrev G13 : GT := .cons .str (.cons (.int .u64) (.nil))
abbrev T13 : Type := (List UInt8) × Int × Unit
/-- Key, Text, Mark -/
abbrev G23 : GT := .cons (.int .i64) (.cons .str (.cons (.int .i64) (.nil)))
abbrev T23 : Type := Int × (List UInt8) × Int × Unit
/-- Key, Text -/
abbrev G31 : GT := .cons (.int .i64) (.cons .str (.nil))
abbrev T31 : Type := Int × (List UInt8) × Unit
/-- L -/
abbrev G52 : GT := .cons (.sl G31) (.nil)
abbrev T52 : Type := (List T31) × Unit

theorem ord : Try.prog.follows .mixedOrders = true := by kernel_rfl

/-! 21: consol/seal.key -/
theorem ca21 : callable Try.prog 21 := ⟨Try.f21, Try.func21, by kernel_rfl, by kernel_rfl⟩
noncomputable def E21 : Env := mkEnv2 Try.prog [] []
theorem ok21 : EnvOk E21 := mkEnv2_ok (by simp) (by simp)
noncomputable def C21 : Cfg := noCfg
theorem lm21 : ∀ c, Try.f21.body = some c → LmOk E21 C21 Try.f21.ntmps c := fun _ _ => noCfg_lm
noncomputable def m21 (a0 : Int) : Option (Bool) :=
  some ((decide (0 ≤ a0)) && (decide (a0 < 200)))
noncomputable def e21 : PmE := entry 21 [(.int .i64)] false .bool (fun x => m21 x.1)
theorem q21 (x : tyL [(.int .i64)]) : execF E21 C21 Try.f21 (datL [(.int .i64)] x) [] (retK false .bool) = m21 x.1 := by kernel_rfl
theorem p21 : PmOk Try.prog e21 := pm_ok (E := E21) ok21 ord lm21 Try.func21 ca21 q21

theorem ca22 : callable Try.prog 22 := ⟨Try.f22, Try.func22, by kernel_rfl, by kernel_rfl⟩
/-! 22: slices.Clone[[]consol/api.Sealed,consol/api.Sealed] -/
noncomputable def c22 : CmE := ownE 22 [(.sl G31)] G31 (fun x => cloneM x.1)
theorem d22 : CmOk Try.prog c22 := own_ok ca22 (clone_run (g := G31) ord Try.func22 Try.underlying22 rfl (by kernel_rfl) (fun _ => by kernel_rfl) (by kernel_rfl) (fun _ => by kernel_rfl))

/-! 7: consol/consollaw44.small -/
theorem ca8 : callable Try.prog 8 := ⟨Try.f8, Try.func8, by kernel_rfl, by kernel_rfl⟩
noncomputable def E7i8 : Env := mkEnv2 Try.prog [] []
theorem ok7i8 : EnvOk E7i8 := mkEnv2_ok (by simp) (by simp)
noncomputable def C7i8 : Cfg := noCfg
theorem lm7i8 : ∀ c, Try.f8.body = some c → LmOk E7i8 C7i8 Try.f8.ntmps c := fun _ _ => noCfg_lm
noncomputable def c7i8 : CmE := inl E7i8 C7i8 8 Try.f8
theorem d7i8 : CmOk Try.prog c7i8 := inl_ok (E := E7i8) ok7i8 ord lm7i8 Try.func8 ca8

theorem ca10 : callable Try.prog 10 := ⟨Try.f10, Try.func10, by kernel_rfl, by kernel_rfl⟩
noncomputable def E7i10 : Env := mkEnv2 Try.prog [e21] []
theorem ok7i10 : EnvOk E7i10 := mkEnv2_ok (by simp only [List.mem_cons, List.not_mem_nil, or_false, forall_eq]; exact p21) (by simp)
noncomputable def C7i10 : Cfg := mkCfg [(10, ⟨[1, 2, 6, 8], []⟩)] [] (([] : List (Nat × LE)).map (·.2))
theorem lm7i10 : ∀ c, Try.f10.body = some c → LmOk E7i10 C7i10 Try.f10.ntmps c := lmOk_of (ps := []) (by kernel_rfl) (by kernel_rfl) trivial
noncomputable def c7i10 : CmE := inl E7i10 C7i10 10 Try.f10
theorem d7i10 : CmOk Try.prog c7i10 := inl_ok (E := E7i10) ok7i10 ord lm7i10 Try.func10 ca10

theorem ca11 : callable Try.prog 11 := ⟨Try.f11, Try.func11, by kernel_rfl, by kernel_rfl⟩
noncomputable def E7i11 : Env := mkEnv2 Try.prog [] []
theorem ok7i11 : EnvOk E7i11 := mkEnv2_ok (by simp) (by simp)
noncomputable def C7i11 : Cfg := noCfg
theorem lm7i11 : ∀ c, Try.f11.body = some c → LmOk E7i11 C7i11 Try.f11.ntmps c := fun _ _ => noCfg_lm
noncomputable def c7i11 : CmE := inl E7i11 C7i11 11 Try.f11
theorem d7i11 : CmOk Try.prog c7i11 := inl_ok (E := E7i11) ok7i11 ord lm7i11 Try.func11 ca11

theorem ca13 : callable Try.prog 13 := ⟨Try.f13, Try.func13, by kernel_rfl, by kernel_rfl⟩
noncomputable def E7i13 : Env := mkEnv2 Try.prog [] [c22]
theorem ok7i13 : EnvOk E7i13 := mkEnv2_ok (by simp) (by simp only [List.mem_cons, List.not_mem_nil, or_false, forall_eq]; exact d22)
noncomputable def C7i13 : Cfg := noCfg
theorem lm7i13 : ∀ c, Try.f13.body = some c → LmOk E7i13 C7i13 Try.f13.ntmps c := fun _ _ => noCfg_lm
noncomputable def c7i13 : CmE := inl E7i13 C7i13 13 Try.f13
theorem d7i13 : CmOk Try.prog c7i13 := inl_ok (E := E7i13) ok7i13 ord lm7i13 Try.func13 ca13

theorem ca7 : callable Try.prog 7 := ⟨Try.f7, Try.func7, by kernel_rfl, by kernel_rfl⟩
noncomputable def E7 : Env := mkEnv2 Try.prog [] [c7i8, c7i10, c7i11, c7i13]
theorem ok7 : EnvOk E7 := mkEnv2_ok (by simp) (by simp only [List.mem_cons, List.not_mem_nil, or_false, forall_eq_or_imp, forall_eq]; exact ⟨d7i8, d7i10, d7i11, d7i13⟩)
noncomputable def C7 : Cfg := noCfg
theorem lm7 : ∀ c, Try.f7.body = some c → LmOk E7 C7 Try.f7.ntmps c := fun _ _ => noCfg_lm
noncomputable def m7  : Option (Bool) :=
  some true
noncomputable def e7 : PmE := entry 7 [] false .bool (fun x => m7 )
theorem q7 (x : tyL []) : execF E7 C7 Try.f7 (datL [] x) [] (retK false .bool) = m7  := by kernel_rfl
theorem p7 : PmOk Try.prog e7 := pm_ok (E := E7) ok7 ord lm7 Try.func7 ca7 q7

/-! 9: consol/consolref44.Few -/
theorem ca9 : callable Try.prog 9 := ⟨Try.f9, Try.func9, by kernel_rfl, by kernel_rfl⟩
noncomputable def E9 : Env := mkEnv2 Try.prog [] []
theorem ok9 : EnvOk E9 := mkEnv2_ok (by simp) (by simp)
/-- a round of a loop of consol/consolref44.Few -/
noncomputable def s9_1 {R : Type} (t0 : (List T31)) (t1 : Int) (kn : Int → Option R) (k1 : Option R) (k2 : Option R) (t5 : Int) : Option R :=
  bif ((decide (t5 < (List.length t0 : Int))) && (decide (t5 ≤ t1))) then
    (idx t0 t5).bind fun x1 =>
    bif (decide ((List.length x1.2.1 : Int) > 500)) then
      k2
    else
      kn (IntKind.i64.wrap (t5 + 1))
  else
    k1
noncomputable def l9_1 {R : Type} (t0 : (List T31)) (t1 : Int) (k1 : Option R) (k2 : Option R) : Nat → Int → Option R
  | 0, _ => none
  | n + 1, t5 => s9_1 t0 t1 (l9_1 t0 t1 k1 k2 n) k1 k2 t5
noncomputable def L9_1 : LE := ⟨3, 0, ⟨[(0, (.dat (.sl G31))), (1, (.dat (.int .i64))), (5, (.dat (.int .i64)))], []⟩, fun R n x k => l9_1 x.1.1 x.1.2.1 (k (.exit 0) ⟨[(0, (.dat (.sl G31) x.1.1)), (1, (.dat (.int .i64) x.1.2.1))], []⟩) (k .ret ⟨[(4, (.dat .bool false))], []⟩) n x.1.2.2.1⟩
noncomputable def C9 : Cfg := mkCfg [(3, ⟨[0, 1, 5], []⟩)] [(3, (⟨[0, 1], []⟩, ⟨[4], []⟩))] (([(0, L9_1)] : List (Nat × LE)).map (·.2))
theorem ek9_1 : EOk E9 C9 Try.f9.ntmps (bodyL Try.f9 0) L9_1 := eok_of (e := L9_1) (fun R x Kn k => s9_1 x.1.1 x.1.2.1 (fun v0 => Kn ((x.1.1, x.1.2.1, v0, ()), (()))) (k (.exit 0) ⟨[(0, (.dat (.sl G31) x.1.1)), (1, (.dat (.int .i64) x.1.2.1))], []⟩) (k .ret ⟨[(4, (.dat .bool false))], []⟩) x.1.2.2.1) (fun _ _ _ => rfl) (fun _ _ _ _ => rfl) (fun R x Kn k => by kernel_rfl)
theorem lm9 : ∀ c, Try.f9.body = some c → LmOk E9 C9 Try.f9.ntmps c := lmOk_of (ps := [(0, L9_1)]) (by kernel_rfl) (by kernel_rfl) ⟨ek9_1, trivial⟩
noncomputable def m9 (a0 : (List T31)) (a1 : Int) : Option (Bool) :=
  l9_1 a0 a1 (
      some (decide ((List.length a0 : Int) ≤ a1))) (
      some false) FUEL 0
noncomputable def e9 : PmE := entry 9 [(.sl G31), (.int .i64)] false .bool (fun x => m9 x.1 x.2.1)
theorem q9 (x : tyL [(.sl G31), (.int .i64)]) : execF E9 C9 Try.f9 (datL [(.sl G31), (.int .i64)] x) [] (retK false .bool) = m9 x.1 x.2.1 := by kernel_rfl
theorem p9 : PmOk Try.prog e9 := pm_ok (E := E9) ok9 ord lm9 Try.func9 ca9 q9

/-! 3: consol/consollaw44.SealMakes -/
theorem ca3 : callable Try.prog 3 := ⟨Try.f3, Try.func3, by kernel_rfl, by kernel_rfl⟩
noncomputable def E3 : Env := mkEnv2 Try.prog [e7, e9] [c7i8, c7i10, c7i11]
theorem ok3 : EnvOk E3 := mkEnv2_ok (by simp only [List.mem_cons, List.not_mem_nil, or_false, forall_eq_or_imp, forall_eq]; exact ⟨p7, p9⟩) (by simp only [List.mem_cons, List.not_mem_nil, or_false, forall_eq_or_imp, forall_eq]; exact ⟨d7i8, d7i10, d7i11⟩)
/-- a round of a loop of consol/consollaw44.SealMakes -/
noncomputable def s3_1 {R : Type} (o2 : (List T23)) (o4 : (List (T31 × Int))) (kn : Int → Option R) (k1 : Option R) (k2 : Option R) (t10 : Int) : Option R :=
  bif (decide (t10 < (List.length o2 : Int))) then
    asrt true (decide (0 ≤ t10) && decide (t10 < (List.length o2 : Int))) (
      ((o2)[(t10 : Int).toNat]?).bind fun x11 =>
      bif (!((Option.isSome (mapAt G31 (.int .i64) (x11.1, x11.2.1, ()) o4)) && ((Option.getD (mapAt G31 (.int .i64) (x11.1, x11.2.1, ()) o4) 0) == x11.2.2.1))) then
        k2
      else
        kn (IntKind.i64.wrap (t10 + 1)))
  else
    k1
noncomputable def l3_1 {R : Type} (o2 : (List T23)) (o4 : (List (T31 × Int))) (k1 : Option R) (k2 : Option R) : Nat → Int → Option R
  | 0, _ => none
  | n + 1, t10 => s3_1 o2 o4 (l3_1 o2 o4 k1 k2 n) k1 k2 t10
noncomputable def L3_1 : LE := ⟨18, 0, ⟨[(0, (.dat (.sl G31))), (3, (.box 0 [] 0)), (5, (.dat .bool)), (6, (.box 1 [] 0)), (7, (.own 2)), (8, (.dat (.int .i64))), (10, (.dat (.int .i64)))], [(.box (.dat G23)), (.box (.agg (.scons (.own 3) (.scons (.mp 4) .snil)))), (.arr G23), (.arr G31), (.map G31 (.int .i64))]⟩, fun R n x k => l3_1 x.2.2.2.1 x.2.2.2.2.2.1 (k (.exit 2) ⟨[(0, (.dat (.sl G31) x.1.1)), (3, (.box 0 [] 0)), (5, (.dat .bool x.1.2.2.1)), (6, (.box 1 [] 0)), (7, (.own 2)), (8, (.dat (.int .i64) x.1.2.2.2.2.2.1))], [(.box (.dat G23 x.2.1)), (.box (.agg (.scons (.own 3) (.scons (.mp 4) .snil)))), (.arr G23 x.2.2.2.1), (.arr G31 x.2.2.2.2.1), (.map G31 (.int .i64) x.2.2.2.2.2.1)]⟩) (k .ret ⟨[(4, (.dat .bool false))], []⟩) n x.1.2.2.2.2.2.2.1⟩
/-- a round of a loop of consol/consollaw44.SealMakes -/
noncomputable def s3_2 {R : Type} (t0 : (List T31)) (kn : Int → (List T23) → (List T31) → (List (T31 × Int)) → Option R) (k1 : (List T23) → (List T31) → (List (T31 × Int)) → Option R) (k2 : Option R) (t8 : Int) (o2 : (List T23)) (o3 : (List T31)) (o4 : (List (T31 × Int))) : Option R :=
  bif (decide (t8 < (List.length t0 : Int))) then
    cont (fun (k22 : ((List T23) × (List T31) × (List (T31 × Int))) → _) =>
      (idx t0 t8).bind fun x3 =>
      (idx t0 t8).bind fun x4 =>
      (m21 x3.1).bind fun r5 =>
      bif (!r5) then
        cont (fun (k10 : (List T23) → _) =>
          (idx t0 t8).bind fun x6 =>
          (idxG ((decide (x6.1 ≥ 0)) == true) (0, ([] : (List UInt8)), ()) t0 t8).bind fun x7 =>
          bif ((decide (x6.1 ≥ 0)) && (decide (x7.1 < 200))) then
            (idx t0 t8).bind fun x8 =>
            (idxG ((0 != x8.1) == false) (0, ([] : (List UInt8)), ()) t0 t8).bind fun x9 =>
            bif ((0 != x8.1) || (!(([] : List UInt8) == x9.2.1))) then
              k2
            else
              asrt true (decide (List.length (α := T23) o2 + List.length (α := T23) [(0, ([] : List UInt8), 0, ())] ≤ LIM)) (
                k10 (o2 ++ [(0, ([] : List UInt8), 0, ())]))
          else
            k10 o2) fun y10 =>
        l3_1 y10 o4 (
            k22 (y10, o3, o4)) (
            k2) FUEL 0
      else
        bif (!(Option.isSome (mapAt G31 (.int .i64) (x3.1, x4.2.1, ()) o4))) then
          asrt true (decide (List.length (α := T31) o3 + List.length (α := T31) [(x3.1, x4.2.1, ())] ≤ LIM)) (
            asrt true (Option.isNone (mapAt G31 (.int .i64) (x3.1, x4.2.1, ()) o4)) (
              cont (fun (k16 : (List T23) → _) =>
                (idx t0 t8).bind fun x12 =>
                (idxG ((decide (x12.1 ≥ 0)) == true) (0, ([] : (List UInt8)), ()) t0 t8).bind fun x13 =>
                bif ((decide (x12.1 ≥ 0)) && (decide (x13.1 < 200))) then
                  (idx t0 t8).bind fun x14 =>
                  (idxG ((x3.1 != x14.1) == false) (0, ([] : (List UInt8)), ()) t0 t8).bind fun x15 =>
                  bif ((x3.1 != x14.1) || (!(x4.2.1 == x15.2.1))) then
                    k2
                  else
                    asrt true (decide (List.length (α := T23) o2 + List.length (α := T23) [(x3.1, x4.2.1, (List.length o3 : Int), ())] ≤ LIM)) (
                      k16 (o2 ++ [(x3.1, x4.2.1, (List.length o3 : Int), ())]))
                else
                  bif (!((x3.1 == 0) && ((x4.2.1 == ([] : List UInt8)) && (((List.length o3 : Int) == 0) && true)))) then
                    k2
                  else
                    k16 o2) fun y16 =>
              l3_1 y16 (o4 ++ [((x3.1, x4.2.1, ()), (List.length o3 : Int))]) (
                  k22 (y16, (o3 ++ [(x3.1, x4.2.1, ())]), (o4 ++ [((x3.1, x4.2.1, ()), (List.length o3 : Int))]))) (
                  k2) FUEL 0))
        else
          cont (fun (k21 : (List T23) → _) =>
            (idx t0 t8).bind fun x17 =>
            (idxG ((decide (x17.1 ≥ 0)) == true) (0, ([] : (List UInt8)), ()) t0 t8).bind fun x18 =>
            bif ((decide (x17.1 ≥ 0)) && (decide (x18.1 < 200))) then
              (idx t0 t8).bind fun x19 =>
              (idxG ((x3.1 != x19.1) == false) (0, ([] : (List UInt8)), ()) t0 t8).bind fun x20 =>
              bif ((x3.1 != x19.1) || (!(x4.2.1 == x20.2.1))) then
                k2
              else
                asrt true (decide (List.length (α := T23) o2 + List.length (α := T23) [(x3.1, x4.2.1, (Option.getD (mapAt G31 (.int .i64) (x3.1, x4.2.1, ()) o4) 0), ())] ≤ LIM)) (
                  k21 (o2 ++ [(x3.1, x4.2.1, (Option.getD (mapAt G31 (.int .i64) (x3.1, x4.2.1, ()) o4) 0), ())]))
            else
              bif (!((x3.1 == 0) && ((x4.2.1 == ([] : List UInt8)) && (((Option.getD (mapAt G31 (.int .i64) (x3.1, x4.2.1, ()) o4) 0) == 0) && true)))) then
                k2
              else
                k21 o2) fun y21 =>
          l3_1 y21 o4 (
              k22 (y21, o3, o4)) (
              k2) FUEL 0) fun y22 =>
    kn (IntKind.i64.wrap (t8 + 1)) y22.1 y22.2.1 y22.2.2
  else
    k1 o2 o3 o4
noncomputable def l3_2 {R : Type} (t0 : (List T31)) (k1 : (List T23) → (List T31) → (List (T31 × Int)) → Option R) (k2 : Option R) : Nat → Int → (List T23) → (List T31) → (List (T31 × Int)) → Option R
  | 0, _, _, _, _ => none
  | n + 1, t8, o2, o3, o4 => s3_2 t0 (l3_2 t0 k1 k2 n) k1 k2 t8 o2 o3 o4
noncomputable def L3_2 : LE := ⟨8, 0, ⟨[(0, (.dat (.sl G31))), (3, (.box 0 [] 0)), (5, (.dat .bool)), (6, (.box 1 [] 0)), (7, (.own 2)), (8, (.dat (.int .i64)))], [(.box (.dat G23)), (.box (.agg (.scons (.own 3) (.scons (.mp 4) .snil)))), (.arr G23), (.arr G31), (.map G31 (.int .i64))]⟩, fun R n x k => l3_2 x.1.1 (fun y0 y1 y2 => k (.exit 0) ⟨[(3, (.box 0 [] 0)), (5, (.dat .bool x.1.2.2.1)), (6, (.box 1 [] 0)), (7, (.own 2))], [(.box (.dat G23 x.2.1)), (.box (.agg (.scons (.own 3) (.scons (.mp 4) .snil)))), (.arr G23 y0), (.arr G31 y1), (.map G31 (.int .i64) y2)]⟩) (k .ret ⟨[(4, (.dat .bool false))], []⟩) n x.1.2.2.2.2.2.1 x.2.2.2.1 x.2.2.2.2.1 x.2.2.2.2.2.1⟩
/-- a round of a loop of consol/consollaw44.SealMakes -/
noncomputable def s3_3 {R : Type} (o0 : T23) (o2 : (List T23)) (kn : Int → (List T23) → Option R) (k1 : (List T23) → Option R) (t12 : Int) (o3 : (List T23)) : Option R :=
  bif (decide (t12 < (List.length o2 : Int))) then
    asrt true (decide (0 ≤ t12) && decide (t12 < (List.length o2 : Int))) (
      ((o2)[(t12 : Int).toNat]?).bind fun x26 =>
      asrt true (decide (List.length (α := T23) o3 + List.length (α := T23) [(o0.1, x26.2.1, x26.2.2.1, ()), (x26.1, o0.2.1, x26.2.2.1, ()), (x26.1, x26.2.1, o0.2.2.1, ()), (x26.1, x26.2.1, (IntKind.i64.wrap (x26.2.2.1 + 1)), ())] ≤ LIM)) (
        kn (IntKind.i64.wrap (t12 + 1)) (o3 ++ [(o0.1, x26.2.1, x26.2.2.1, ()), (x26.1, o0.2.1, x26.2.2.1, ()), (x26.1, x26.2.1, o0.2.2.1, ()), (x26.1, x26.2.1, (IntKind.i64.wrap (x26.2.2.1 + 1)), ())])))
  else
    k1 o3
noncomputable def l3_3 {R : Type} (o0 : T23) (o2 : (List T23)) (k1 : (List T23) → Option R) : Nat → Int → (List T23) → Option R
  | 0, _, _ => none
  | n + 1, t12, o3 => s3_3 o0 o2 (l3_3 o0 o2 k1 n) k1 t12 o3
noncomputable def L3_3 : LE := ⟨24, 0, ⟨[(3, (.box 0 [] 0)), (5, (.dat .bool)), (6, (.box 1 [] 0)), (7, (.own 2)), (11, (.own 3)), (12, (.dat (.int .i64)))], [(.box (.dat G23)), (.box (.agg (.scons (.own 4) (.scons (.mp 5) .snil)))), (.arr G23), (.arr G23), (.arr G31), (.map G31 (.int .i64))]⟩, fun R n x k => l3_3 x.2.1 x.2.2.2.1 (fun y0 => k (.exit 4) ⟨[(5, (.dat .bool x.1.2.1)), (6, (.box 0 [] 0)), (7, (.own 1)), (11, (.own 2))], [(.box (.agg (.scons (.own 3) (.scons (.mp 4) .snil)))), (.arr G23 x.2.2.2.1), (.arr G23 y0), (.arr G31 x.2.2.2.2.2.1), (.map G31 (.int .i64) x.2.2.2.2.2.2.1)]⟩) n x.1.2.2.2.2.2.1 x.2.2.2.2.1⟩
/-- a round of a loop of consol/consollaw44.SealMakes -/
noncomputable def s3_4 {R : Type} (t14 : Int) (o1 : (List T23)) (o2 : (List T23)) (kn : Bool → Int → Option R) (k1 : Bool → Option R) (t15 : Bool) (t16 : Int) : Option R :=
  bif (decide (t16 < (List.length o1 : Int))) then
    asrt (t15 == false) (decide (0 ≤ t16) && decide (t16 < (List.length o1 : Int))) (
      ((bif (t15 == false) then (o1)[(t16 : Int).toNat]? else some (0, ([] : (List UInt8)), 0, ()))).bind fun x28 =>
      asrt (t15 == false) (decide (0 ≤ t14) && decide (t14 < (List.length o2 : Int))) (
        ((bif (t15 == false) then (o2)[(t14 : Int).toNat]? else some (0, ([] : (List UInt8)), 0, ()))).bind fun x29 =>
        kn (t15 || ((x28.1 == x29.1) && ((x28.2.1 == x29.2.1) && ((x28.2.2.1 == x29.2.2.1) && true)))) (IntKind.i64.wrap (t16 + 1))))
  else
    k1 t15
noncomputable def l3_4 {R : Type} (t14 : Int) (o1 : (List T23)) (o2 : (List T23)) (k1 : Bool → Option R) : Nat → Bool → Int → Option R
  | 0, _, _ => none
  | n + 1, t15, t16 => s3_4 t14 o1 o2 (l3_4 t14 o1 o2 k1 n) k1 t15 t16
noncomputable def L3_4 : LE := ⟨33, 0, ⟨[(5, (.dat .bool)), (6, (.box 0 [] 0)), (7, (.own 1)), (11, (.own 2)), (14, (.dat (.int .i64))), (15, (.dat .bool)), (16, (.dat (.int .i64)))], [(.box (.agg (.scons (.own 3) (.scons (.mp 4) .snil)))), (.arr G23), (.arr G23), (.arr G31), (.map G31 (.int .i64))]⟩, fun R n x k => l3_4 x.1.2.2.2.2.1 x.2.2.1 x.2.2.2.1 (fun y0 => k (.exit 8) ⟨[(5, (.dat .bool x.1.1)), (6, (.box 0 [] 0)), (7, (.own 1)), (11, (.own 2)), (14, (.dat (.int .i64) x.1.2.2.2.2.1)), (15, (.dat .bool y0))], [(.box (.agg (.scons (.own 3) (.scons (.mp 4) .snil)))), (.arr G23 x.2.2.1), (.arr G23 x.2.2.2.1), (.arr G31 x.2.2.2.2.1), (.map G31 (.int .i64) x.2.2.2.2.2.1)]⟩) n x.1.2.2.2.2.2.1 x.1.2.2.2.2.2.2.1⟩
/-- a round of a loop of consol/consollaw44.SealMakes -/
noncomputable def s3_5 {R : Type} (o1 : (List T23)) (o2 : (List T23)) (o4 : (List (T31 × Int))) (kn : Int → Option R) (k1 : Option R) (k2 : Option R) (t14 : Int) : Option R :=
  bif (decide (t14 < (List.length o2 : Int))) then
    l3_4 t14 o1 o2 (fun y30 =>
        asrt true (decide (0 ≤ t14) && decide (t14 < (List.length o2 : Int))) (
          ((o2)[(t14 : Int).toNat]?).bind fun x31 =>
          bif (!(((Option.isSome (mapAt G31 (.int .i64) (x31.1, x31.2.1, ()) o4)) && ((Option.getD (mapAt G31 (.int .i64) (x31.1, x31.2.1, ()) o4) 0) == x31.2.2.1)) == y30)) then
            k2
          else
            kn (IntKind.i64.wrap (t14 + 1)))) FUEL false 0
  else
    k1
noncomputable def l3_5 {R : Type} (o1 : (List T23)) (o2 : (List T23)) (o4 : (List (T31 × Int))) (k1 : Option R) (k2 : Option R) : Nat → Int → Option R
  | 0, _ => none
  | n + 1, t14 => s3_5 o1 o2 o4 (l3_5 o1 o2 o4 k1 k2 n) k1 k2 t14
noncomputable def L3_5 : LE := ⟨29, 0, ⟨[(5, (.dat .bool)), (6, (.box 0 [] 0)), (7, (.own 1)), (11, (.own 2)), (14, (.dat (.int .i64)))], [(.box (.agg (.scons (.own 3) (.scons (.mp 4) .snil)))), (.arr G23), (.arr G23), (.arr G31), (.map G31 (.int .i64))]⟩, fun R n x k => l3_5 x.2.2.1 x.2.2.2.1 x.2.2.2.2.2.1 (k (.exit 6) ⟨[(5, (.dat .bool x.1.1))], []⟩) (k .ret ⟨[(4, (.dat .bool false))], []⟩) n x.1.2.2.2.2.1⟩
noncomputable def C3 : Cfg := mkCfg [(8, ⟨[0, 3, 5, 6, 7, 8], [(6, [0], G31), (7, [], G23)]⟩), (9, ⟨[0, 3, 5, 6, 7, 8], [(6, [0], G31)]⟩), (17, ⟨[0, 3, 5, 6, 7, 8], [(7, [], G23)]⟩), (18, ⟨[0, 3, 5, 6, 7, 8, 10], []⟩), (24, ⟨[3, 5, 6, 7, 11, 12], []⟩), (29, ⟨[5, 6, 7, 11, 14], []⟩), (33, ⟨[5, 6, 7, 11, 14, 15, 16], []⟩)] [(8, (⟨[3, 5, 6, 7], []⟩, ⟨[4], []⟩)), (18, (⟨[0, 3, 5, 6, 7, 8], []⟩, ⟨[4], []⟩)), (24, (⟨[5, 6, 7, 11], []⟩, ⟨[4], []⟩)), (29, (⟨[5], []⟩, ⟨[4], []⟩)), (33, (⟨[5, 6, 7, 11, 14, 15], []⟩, ⟨[4], []⟩))] (([(1, L3_1), (0, L3_2), (2, L3_3), (4, L3_4), (3, L3_5)] : List (Nat × LE)).map (·.2))
theorem ek3_1 : EOk E3 C3 Try.f3.ntmps (bodyL Try.f3 1) L3_1 := eok_of (e := L3_1) (fun R x Kn k => s3_1 x.2.2.2.1 x.2.2.2.2.2.1 (fun v0 => Kn ((x.1.1, (), x.1.2.2.1, (), (), x.1.2.2.2.2.2.1, v0, ()), (x.2.1, ((), (), ()), x.2.2.2.1, x.2.2.2.2.1, x.2.2.2.2.2.1, ()))) (k (.exit 2) ⟨[(0, (.dat (.sl G31) x.1.1)), (3, (.box 0 [] 0)), (5, (.dat .bool x.1.2.2.1)), (6, (.box 1 [] 0)), (7, (.own 2)), (8, (.dat (.int .i64) x.1.2.2.2.2.2.1))], [(.box (.dat G23 x.2.1)), (.box (.agg (.scons (.own 3) (.scons (.mp 4) .snil)))), (.arr G23 x.2.2.2.1), (.arr G31 x.2.2.2.2.1), (.map G31 (.int .i64) x.2.2.2.2.2.1)]⟩) (k .ret ⟨[(4, (.dat .bool false))], []⟩) x.1.2.2.2.2.2.2.1) (fun _ _ _ => rfl) (fun _ _ _ _ => rfl) (fun R x Kn k => by kernel_rfl)
theorem ek3_2 : EOk E3 C3 Try.f3.ntmps (bodyL Try.f3 0) L3_2 := eok_of (e := L3_2) (fun R x Kn k => s3_2 x.1.1 (fun v0 v1 v2 v3 => Kn ((x.1.1, (), x.1.2.2.1, (), (), v0, ()), (x.2.1, ((), (), ()), v1, v2, v3, ()))) (fun y0 y1 y2 => k (.exit 0) ⟨[(3, (.box 0 [] 0)), (5, (.dat .bool x.1.2.2.1)), (6, (.box 1 [] 0)), (7, (.own 2))], [(.box (.dat G23 x.2.1)), (.box (.agg (.scons (.own 3) (.scons (.mp 4) .snil)))), (.arr G23 y0), (.arr G31 y1), (.map G31 (.int .i64) y2)]⟩) (k .ret ⟨[(4, (.dat .bool false))], []⟩) x.1.2.2.2.2.2.1 x.2.2.2.1 x.2.2.2.2.1 x.2.2.2.2.2.1) (fun _ _ _ => rfl) (fun _ _ _ _ => rfl) (fun R x Kn k => by kernel_rfl)
theorem ek3_3 : EOk E3 C3 Try.f3.ntmps (bodyL Try.f3 2) L3_3 := eok_of (e := L3_3) (fun R x Kn k => s3_3 x.2.1 x.2.2.2.1 (fun v0 v1 => Kn (((), x.1.2.1, (), (), (), v0, ()), (x.2.1, ((), (), ()), x.2.2.2.1, v1, x.2.2.2.2.2.1, x.2.2.2.2.2.2.1, ()))) (fun y0 => k (.exit 4) ⟨[(5, (.dat .bool x.1.2.1)), (6, (.box 0 [] 0)), (7, (.own 1)), (11, (.own 2))], [(.box (.agg (.scons (.own 3) (.scons (.mp 4) .snil)))), (.arr G23 x.2.2.2.1), (.arr G23 y0), (.arr G31 x.2.2.2.2.2.1), (.map G31 (.int .i64) x.2.2.2.2.2.2.1)]⟩) x.1.2.2.2.2.2.1 x.2.2.2.2.1) (fun _ _ _ => rfl) (fun _ _ _ _ => rfl) (fun R x Kn k => by kernel_rfl)
theorem ek3_4 : EOk E3 C3 Try.f3.ntmps (bodyL Try.f3 4) L3_4 := eok_of (e := L3_4) (fun R x Kn k => s3_4 x.1.2.2.2.2.1 x.2.2.1 x.2.2.2.1 (fun v0 v1 => Kn ((x.1.1, (), (), (), x.1.2.2.2.2.1, v0, v1, ()), (((), (), ()), x.2.2.1, x.2.2.2.1, x.2.2.2.2.1, x.2.2.2.2.2.1, ()))) (fun y0 => k (.exit 8) ⟨[(5, (.dat .bool x.1.1)), (6, (.box 0 [] 0)), (7, (.own 1)), (11, (.own 2)), (14, (.dat (.int .i64) x.1.2.2.2.2.1)), (15, (.dat .bool y0))], [(.box (.agg (.scons (.own 3) (.scons (.mp 4) .snil)))), (.arr G23 x.2.2.1), (.arr G23 x.2.2.2.1), (.arr G31 x.2.2.2.2.1), (.map G31 (.int .i64) x.2.2.2.2.2.1)]⟩) x.1.2.2.2.2.2.1 x.1.2.2.2.2.2.2.1) (fun _ _ _ => rfl) (fun _ _ _ _ => rfl) (fun R x Kn k => by kernel_rfl)
theorem ek3_5 : EOk E3 C3 Try.f3.ntmps (bodyL Try.f3 3) L3_5 := eok_of (e := L3_5) (fun R x Kn k => s3_5 x.2.2.1 x.2.2.2.1 x.2.2.2.2.2.1 (fun v0 => Kn ((x.1.1, (), (), (), v0, ()), (((), (), ()), x.2.2.1, x.2.2.2.1, x.2.2.2.2.1, x.2.2.2.2.2.1, ()))) (k (.exit 6) ⟨[(5, (.dat .bool x.1.1))], []⟩) (k .ret ⟨[(4, (.dat .bool false))], []⟩) x.1.2.2.2.2.1) (fun _ _ _ => rfl) (fun _ _ _ _ => rfl) (fun R x Kn k => by kernel_rfl)
theorem lm3 : ∀ c, Try.f3.body = some c → LmOk E3 C3 Try.f3.ntmps c := lmOk_of (ps := [(1, L3_1), (0, L3_2), (2, L3_3), (4, L3_4), (3, L3_5)]) (by kernel_rfl) (by kernel_rfl) ⟨ek3_1, ek3_2, ek3_3, ek3_4, ek3_5, trivial⟩
noncomputable def m3 (a0 : (List T31)) (a1 : T23) : Option (Bool) :=
  (m7).bind fun r1 =>
  (m9 a0 40).bind fun r2 =>
  bif (bif (!r2) then true else false) then
    some (bif r1 then true else false)
  else
    l3_2 a0 (fun y23 y24 y25 =>
        asrt true (decide (List.length (α := T23) [a1] + List.length (α := T23) y23 ≤ LIM)) (
          l3_3 a1 y23 (fun y27 =>
              l3_5 y23 y27 y25 (
                  some r1) (
                  some false) FUEL 0) FUEL 0 ([a1] ++ y23))) (
        some false) FUEL 0 [] [] []
noncomputable def e3 : PmE := entry 3 [(.sl G31), G23] false .bool (fun x => m3 x.1 x.2.1)
theorem q3 (x : tyL [(.sl G31), G23]) : execF E3 C3 Try.f3 (datL [(.sl G31), G23] x) [] (retK false .bool) = m3 x.1 x.2.1 := by kernel_rfl
theorem p3 : PmOk Try.prog e3 := pm_ok (E := E3) ok3 ord lm3 Try.func3 ca3 q3

/-! 12: consol/consolref44.Same -/
theorem ca12 : callable Try.prog 12 := ⟨Try.f12, Try.func12, by kernel_rfl, by kernel_rfl⟩
noncomputable def E12 : Env := mkEnv2 Try.prog [] []
theorem ok12 : EnvOk E12 := mkEnv2_ok (by simp) (by simp)
/-- a round of a loop of consol/consolref44.Same -/
noncomputable def s12_1 {R : Type} (t0 : (List T31)) (t1 : (List T31)) (kn : Int → Option R) (k1 : Option R) (k2 : Option R) (t5 : Int) : Option R :=
  bif (decide (t5 < (List.length t0 : Int))) then
    (idx t0 t5).bind fun x1 =>
    (idx t1 t5).bind fun x2 =>
    bif (!((x1.1 == x2.1) && ((x1.2.1 == x2.2.1) && true))) then
      k2
    else
      kn (IntKind.i64.wrap (t5 + 1))
  else
    k1
noncomputable def l12_1 {R : Type} (t0 : (List T31)) (t1 : (List T31)) (k1 : Option R) (k2 : Option R) : Nat → Int → Option R
  | 0, _ => none
  | n + 1, t5 => s12_1 t0 t1 (l12_1 t0 t1 k1 k2 n) k1 k2 t5
noncomputable def L12_1 : LE := ⟨5, 0, ⟨[(0, (.dat (.sl G31))), (1, (.dat (.sl G31))), (5, (.dat (.int .i64)))], []⟩, fun R n x k => l12_1 x.1.1 x.1.2.1 (k (.exit 0) ⟨[], []⟩) (k .ret ⟨[(4, (.dat .bool false))], []⟩) n x.1.2.2.1⟩
noncomputable def C12 : Cfg := mkCfg [(5, ⟨[0, 1, 5], []⟩)] [(5, (⟨[], []⟩, ⟨[4], []⟩))] (([(0, L12_1)] : List (Nat × LE)).map (·.2))
theorem ek12_1 : EOk E12 C12 Try.f12.ntmps (bodyL Try.f12 0) L12_1 := eok_of (e := L12_1) (fun R x Kn k => s12_1 x.1.1 x.1.2.1 (fun v0 => Kn ((x.1.1, x.1.2.1, v0, ()), (()))) (k (.exit 0) ⟨[], []⟩) (k .ret ⟨[(4, (.dat .bool false))], []⟩) x.1.2.2.1) (fun _ _ _ => rfl) (fun _ _ _ _ => rfl) (fun R x Kn k => by kernel_rfl)
theorem lm12 : ∀ c, Try.f12.body = some c → LmOk E12 C12 Try.f12.ntmps c := lmOk_of (ps := [(0, L12_1)]) (by kernel_rfl) (by kernel_rfl) ⟨ek12_1, trivial⟩
noncomputable def m12 (a0 : (List T31)) (a1 : (List T31)) : Option (Bool) :=
  bif ((List.length a0 : Int) != (List.length a1 : Int)) then
    some false
  else
    l12_1 a0 a1 (
        some true) (
        some false) FUEL 0
noncomputable def e12 : PmE := entry 12 [(.sl G31), (.sl G31)] false .bool (fun x => m12 x.1 x.2.1)
theorem q12 (x : tyL [(.sl G31), (.sl G31)]) : execF E12 C12 Try.f12 (datL [(.sl G31), (.sl G31)] x) [] (retK false .bool) = m12 x.1 x.2.1 := by kernel_rfl
theorem p12 : PmOk Try.prog e12 := pm_ok (E := E12) ok12 ord lm12 Try.func12 ca12 q12

/-! 4: consol/consollaw44.SealMarks -/
theorem ca4 : callable Try.prog 4 := ⟨Try.f4, Try.func4, by kernel_rfl, by kernel_rfl⟩
noncomputable def E4 : Env := mkEnv2 Try.prog [e7, e9, e12] [c7i8, c7i10, c7i13]
theorem ok4 : EnvOk E4 := mkEnv2_ok (by simp only [List.mem_cons, List.not_mem_nil, or_false, forall_eq_or_imp, forall_eq]; exact ⟨p7, p9, p12⟩) (by simp only [List.mem_cons, List.not_mem_nil, or_false, forall_eq_or_imp, forall_eq]; exact ⟨d7i8, d7i10, d7i13⟩)
/-- a round of a loop of consol/consollaw44.SealMarks -/
noncomputable def s4_1 {R : Type} (t0 : (List T31)) (t7 : Int) (o1 : (List T31)) (kn : Bool → Int → Option R) (k1 : Bool → Option R) (t9 : Bool) (t10 : Int) : Option R :=
  bif (decide (t10 < (List.length o1 : Int))) then
    asrt (t9 == false) (decide (0 ≤ t10) && decide (t10 < (List.length o1 : Int))) (
      ((bif (t9 == false) then (o1)[(t10 : Int).toNat]? else some (0, ([] : (List UInt8)), ()))).bind fun x8 =>
      (idxG (t9 == false) (0, ([] : (List UInt8)), ()) t0 t7).bind fun x9 =>
      kn (t9 || ((x8.1 == x9.1) && ((x8.2.1 == x9.2.1) && true))) (IntKind.i64.wrap (t10 + 1)))
  else
    k1 t9
noncomputable def l4_1 {R : Type} (t0 : (List T31)) (t7 : Int) (o1 : (List T31)) (k1 : Bool → Option R) : Nat → Bool → Int → Option R
  | 0, _, _ => none
  | n + 1, t9, t10 => s4_1 t0 t7 o1 (l4_1 t0 t7 o1 k1 n) k1 t9 t10
noncomputable def L4_1 : LE := ⟨16, 0, ⟨[(0, (.dat (.sl G31))), (3, (.dat .bool)), (4, (.box 0 [] 0)), (5, (.own 1)), (6, (.own 2)), (7, (.dat (.int .i64))), (8, (.box 3 [] 0)), (9, (.dat .bool)), (10, (.dat (.int .i64)))], [(.box (.agg (.scons (.own 4) (.scons (.mp 5) .snil)))), (.arr G31), (.arr G23), (.box (.dat G23)), (.arr G31), (.map G31 (.int .i64))]⟩, fun R n x k => l4_1 x.1.1 x.1.2.2.2.2.2.1 x.2.2.1 (fun y0 => k (.exit 2) ⟨[(0, (.dat (.sl G31) x.1.1)), (3, (.dat .bool x.1.2.1)), (4, (.box 0 [] 0)), (5, (.own 1)), (6, (.own 2)), (7, (.dat (.int .i64) x.1.2.2.2.2.2.1)), (8, (.box 3 [] 0)), (9, (.dat .bool y0))], [(.box (.agg (.scons (.own 4) (.scons (.mp 5) .snil)))), (.arr G31 x.2.2.1), (.arr G23 x.2.2.2.1), (.box (.dat G23 x.2.2.2.2.1)), (.arr G31 x.2.2.2.2.2.1), (.map G31 (.int .i64) x.2.2.2.2.2.2.1)]⟩) n x.1.2.2.2.2.2.2.2.1 x.1.2.2.2.2.2.2.2.2.1⟩
/-- a round of a loop of consol/consollaw44.SealMarks -/
noncomputable def s4_2 {R : Type} (t0 : (List T31)) (kn : Int → (List T31) → (List T23) → (List T31) → (List (T31 × Int)) → Option R) (k1 : (List T31) → (List T23) → (List T31) → (List (T31 × Int)) → Option R) (k2 : Option R) (t7 : Int) (o1 : (List T31)) (o2 : (List T23)) (o3 : (List T31)) (o4 : (List (T31 × Int))) : Option R :=
  bif (decide (t7 < (List.length t0 : Int))) then
    cont (fun (k29 : ((List T31) × (List T23) × (List T31) × (List (T31 × Int))) → _) =>
      (idx t0 t7).bind fun x3 =>
      (idx t0 t7).bind fun x4 =>
      (m21 x3.1).bind fun r5 =>
      bif (!r5) then
        asrt true (decide (List.length (α := T23) o2 + List.length (α := T23) [(0, ([] : List UInt8), 0, ())] ≤ LIM)) (
          (idx t0 t7).bind fun x6 =>
          (idxG ((decide (x6.1 < 0)) == false) (0, ([] : (List UInt8)), ()) t0 t7).bind fun x7 =>
          bif ((decide (x6.1 < 0)) || (decide (x7.1 ≥ 200))) then
            k29 (o1, (o2 ++ [(0, ([] : List UInt8), 0, ())]), o3, o4)
          else
            l4_1 t0 t7 o1 (fun y10 =>
                cont (fun (k12 : (List T31) → _) =>
                  bif (!y10) then
                    (idx t0 t7).bind fun x11 =>
                    asrt true (decide (List.length (α := T31) o1 + List.length (α := T31) [x11] ≤ LIM)) (
                      k12 (o1 ++ [x11]))
                  else
                    k12 o1) fun y12 =>
                bif ((decide ((0, ([] : List UInt8), 0, ()).2.2.1 < 0)) || (decide ((0, ([] : List UInt8), 0, ()).2.2.1 ≥ (List.length y12 : Int)))) then
                  k2
                else
                  asrt true (decide (0 ≤ (0, ([] : List UInt8), 0, ()).2.2.1) && decide ((0, ([] : List UInt8), 0, ()).2.2.1 < (List.length y12 : Int))) (
                    ((y12)[((0, ([] : List UInt8), 0, ()).2.2.1 : Int).toNat]?).bind fun x13 =>
                    (idx t0 t7).bind fun x14 =>
                    bif ((!((x13.1 == x14.1) && ((x13.2.1 == x14.2.1) && true))) || ((!y10) && ((0, ([] : List UInt8), 0, ()).2.2.1 != (IntKind.i64.wrap ((List.length y12 : Int) - 1))))) then
                      k2
                    else
                      k29 (y12, (o2 ++ [(0, ([] : List UInt8), 0, ())]), o3, o4))) FUEL false 0)
      else
        bif (!(Option.isSome (mapAt G31 (.int .i64) (x3.1, x4.2.1, ()) o4))) then
          asrt true (decide (List.length (α := T31) o3 + List.length (α := T31) [(x3.1, x4.2.1, ())] ≤ LIM)) (
            asrt true (Option.isNone (mapAt G31 (.int .i64) (x3.1, x4.2.1, ()) o4)) (
              asrt true (decide (List.length (α := T23) o2 + List.length (α := T23) [(x3.1, x4.2.1, (List.length o3 : Int), ())] ≤ LIM)) (
                (idx t0 t7).bind fun x15 =>
                (idxG ((decide (x15.1 < 0)) == false) (0, ([] : (List UInt8)), ()) t0 t7).bind fun x16 =>
                bif ((decide (x15.1 < 0)) || (decide (x16.1 ≥ 200))) then
                  k29 (o1, (o2 ++ [(x3.1, x4.2.1, (List.length o3 : Int), ())]), (o3 ++ [(x3.1, x4.2.1, ())]), (o4 ++ [((x3.1, x4.2.1, ()), (List.length o3 : Int))]))
                else
                  l4_1 t0 t7 o1 (fun y17 =>
                      cont (fun (k19 : (List T31) → _) =>
                        bif (!y17) then
                          (idx t0 t7).bind fun x18 =>
                          asrt true (decide (List.length (α := T31) o1 + List.length (α := T31) [x18] ≤ LIM)) (
                            k19 (o1 ++ [x18]))
                        else
                          k19 o1) fun y19 =>
                      bif ((decide ((x3.1, x4.2.1, (List.length o3 : Int), ()).2.2.1 < 0)) || (decide ((x3.1, x4.2.1, (List.length o3 : Int), ()).2.2.1 ≥ (List.length y19 : Int)))) then
                        k2
                      else
                        asrt true (decide (0 ≤ (x3.1, x4.2.1, (List.length o3 : Int), ()).2.2.1) && decide ((x3.1, x4.2.1, (List.length o3 : Int), ()).2.2.1 < (List.length y19 : Int))) (
                          ((y19)[((x3.1, x4.2.1, (List.length o3 : Int), ()).2.2.1 : Int).toNat]?).bind fun x20 =>
                          (idx t0 t7).bind fun x21 =>
                          bif ((!((x20.1 == x21.1) && ((x20.2.1 == x21.2.1) && true))) || ((!y17) && ((x3.1, x4.2.1, (List.length o3 : Int), ()).2.2.1 != (IntKind.i64.wrap ((List.length y19 : Int) - 1))))) then
                            k2
                          else
                            k29 (y19, (o2 ++ [(x3.1, x4.2.1, (List.length o3 : Int), ())]), (o3 ++ [(x3.1, x4.2.1, ())]), (o4 ++ [((x3.1, x4.2.1, ()), (List.length o3 : Int))])))) FUEL false 0)))
        else
          asrt true (decide (List.length (α := T23) o2 + List.length (α := T23) [(x3.1, x4.2.1, (Option.getD (mapAt G31 (.int .i64) (x3.1, x4.2.1, ()) o4) 0), ())] ≤ LIM)) (
            (idx t0 t7).bind fun x22 =>
            (idxG ((decide (x22.1 < 0)) == false) (0, ([] : (List UInt8)), ()) t0 t7).bind fun x23 =>
            bif ((decide (x22.1 < 0)) || (decide (x23.1 ≥ 200))) then
              k29 (o1, (o2 ++ [(x3.1, x4.2.1, (Option.getD (mapAt G31 (.int .i64) (x3.1, x4.2.1, ()) o4) 0), ())]), o3, o4)
            else
              l4_1 t0 t7 o1 (fun y24 =>
                  cont (fun (k26 : (List T31) → _) =>
                    bif (!y24) then
                      (idx t0 t7).bind fun x25 =>
                      asrt true (decide (List.length (α := T31) o1 + List.length (α := T31) [x25] ≤ LIM)) (
                        k26 (o1 ++ [x25]))
                    else
                      k26 o1) fun y26 =>
                  bif ((decide ((x3.1, x4.2.1, (Option.getD (mapAt G31 (.int .i64) (x3.1, x4.2.1, ()) o4) 0), ()).2.2.1 < 0)) || (decide ((x3.1, x4.2.1, (Option.getD (mapAt G31 (.int .i64) (x3.1, x4.2.1, ()) o4) 0), ()).2.2.1 ≥ (List.length y26 : Int)))) then
                    k2
                  else
                    asrt true (decide (0 ≤ (x3.1, x4.2.1, (Option.getD (mapAt G31 (.int .i64) (x3.1, x4.2.1, ()) o4) 0), ()).2.2.1) && decide ((x3.1, x4.2.1, (Option.getD (mapAt G31 (.int .i64) (x3.1, x4.2.1, ()) o4) 0), ()).2.2.1 < (List.length y26 : Int))) (
                      ((y26)[((x3.1, x4.2.1, (Option.getD (mapAt G31 (.int .i64) (x3.1, x4.2.1, ()) o4) 0), ()).2.2.1 : Int).toNat]?).bind fun x27 =>
                      (idx t0 t7).bind fun x28 =>
                      bif ((!((x27.1 == x28.1) && ((x27.2.1 == x28.2.1) && true))) || ((!y24) && ((x3.1, x4.2.1, (Option.getD (mapAt G31 (.int .i64) (x3.1, x4.2.1, ()) o4) 0), ()).2.2.1 != (IntKind.i64.wrap ((List.length y26 : Int) - 1))))) then
                        k2
                      else
                        k29 (y26, (o2 ++ [(x3.1, x4.2.1, (Option.getD (mapAt G31 (.int .i64) (x3.1, x4.2.1, ()) o4) 0), ())]), o3, o4))) FUEL false 0)) fun y29 =>
    kn (IntKind.i64.wrap (t7 + 1)) y29.1 y29.2.1 y29.2.2.1 y29.2.2.2
  else
    k1 o1 o2 o3 o4
noncomputable def l4_2 {R : Type} (t0 : (List T31)) (k1 : (List T31) → (List T23) → (List T31) → (List (T31 × Int)) → Option R) (k2 : Option R) : Nat → Int → (List T31) → (List T23) → (List T31) → (List (T31 × Int)) → Option R
  | 0, _, _, _, _, _ => none
  | n + 1, t7, o1, o2, o3, o4 => s4_2 t0 (l4_2 t0 k1 k2 n) k1 k2 t7 o1 o2 o3 o4
noncomputable def L4_2 : LE := ⟨9, 0, ⟨[(0, (.dat (.sl G31))), (3, (.dat .bool)), (4, (.box 0 [] 0)), (5, (.own 1)), (6, (.own 2)), (7, (.dat (.int .i64)))], [(.box (.agg (.scons (.own 3) (.scons (.mp 4) .snil)))), (.arr G31), (.arr G23), (.arr G31), (.map G31 (.int .i64))]⟩, fun R n x k => l4_2 x.1.1 (fun y0 y1 y2 y3 => k (.exit 0) ⟨[(0, (.dat (.sl G31) x.1.1)), (3, (.dat .bool x.1.2.1)), (4, (.box 0 [] 0)), (5, (.own 1)), (6, (.own 2))], [(.box (.agg (.scons (.own 3) (.scons (.mp 4) .snil)))), (.arr G31 y0), (.arr G23 y1), (.arr G31 y2), (.map G31 (.int .i64) y3)]⟩) (k .ret ⟨[(2, (.dat .bool false))], []⟩) n x.1.2.2.2.2.2.1 x.2.2.1 x.2.2.2.1 x.2.2.2.2.1 x.2.2.2.2.2.1⟩
/-- a round of a loop of consol/consollaw44.SealMarks -/
noncomputable def s4_3 {R : Type} (t0 : (List T31)) (o2 : (List T23)) (kn : Int → (List T31) → (List (T31 × Int)) → Option R) (k1 : (List T31) → (List (T31 × Int)) → Option R) (k2 : Option R) (t11 : Int) (o3 : (List T31)) (o4 : (List (T31 × Int))) : Option R :=
  bif (decide (t11 < (List.length t0 : Int))) then
    (idx t0 t11).bind fun x36 =>
    (idx t0 t11).bind fun x37 =>
    (m21 x36.1).bind fun r38 =>
    bif (!r38) then
      asrt true (decide (0 ≤ t11) && decide (t11 < (List.length o2 : Int))) (
        ((o2)[(t11 : Int).toNat]?).bind fun x39 =>
        bif (!((0 == x39.1) && ((([] : List UInt8) == x39.2.1) && ((0 == x39.2.2.1) && true)))) then
          k2
        else
          kn (IntKind.i64.wrap (t11 + 1)) o3 o4)
    else
      bif (!(Option.isSome (mapAt G31 (.int .i64) (x36.1, x37.2.1, ()) o4))) then
        asrt true (decide (List.length (α := T31) o3 + List.length (α := T31) [(x36.1, x37.2.1, ())] ≤ LIM)) (
          asrt true (Option.isNone (mapAt G31 (.int .i64) (x36.1, x37.2.1, ()) o4)) (
            asrt true (decide (0 ≤ t11) && decide (t11 < (List.length o2 : Int))) (
              ((o2)[(t11 : Int).toNat]?).bind fun x40 =>
              bif (!((x36.1 == x40.1) && ((x37.2.1 == x40.2.1) && (((List.length o3 : Int) == x40.2.2.1) && true)))) then
                k2
              else
                kn (IntKind.i64.wrap (t11 + 1)) (o3 ++ [(x36.1, x37.2.1, ())]) (o4 ++ [((x36.1, x37.2.1, ()), (List.length o3 : Int))]))))
      else
        asrt true (decide (0 ≤ t11) && decide (t11 < (List.length o2 : Int))) (
          ((o2)[(t11 : Int).toNat]?).bind fun x41 =>
          bif (!((x36.1 == x41.1) && ((x37.2.1 == x41.2.1) && (((Option.getD (mapAt G31 (.int .i64) (x36.1, x37.2.1, ()) o4) 0) == x41.2.2.1) && true)))) then
            k2
          else
            kn (IntKind.i64.wrap (t11 + 1)) o3 o4)
  else
    k1 o3 o4
noncomputable def l4_3 {R : Type} (t0 : (List T31)) (o2 : (List T23)) (k1 : (List T31) → (List (T31 × Int)) → Option R) (k2 : Option R) : Nat → Int → (List T31) → (List (T31 × Int)) → Option R
  | 0, _, _, _ => none
  | n + 1, t11, o3, o4 => s4_3 t0 o2 (l4_3 t0 o2 k1 k2 n) k1 k2 t11 o3 o4
noncomputable def L4_3 : LE := ⟨28, 0, ⟨[(0, (.dat (.sl G31))), (3, (.dat .bool)), (4, (.box 0 [] 0)), (5, (.own 1)), (6, (.own 2)), (11, (.dat (.int .i64)))], [(.box (.agg (.scons (.own 3) (.scons (.mp 4) .snil)))), (.arr G31), (.arr G23), (.arr G31), (.map G31 (.int .i64))]⟩, fun R n x k => l4_3 x.1.1 x.2.2.2.1 (fun y0 y1 => k (.exit 4) ⟨[(3, (.dat .bool x.1.2.1)), (4, (.box 0 [] 0)), (5, (.own 1))], [(.box (.agg (.scons (.own 2) (.scons (.mp 3) .snil)))), (.arr G31 x.2.2.1), (.arr G31 y0), (.map G31 (.int .i64) y1)]⟩) (k .ret ⟨[(2, (.dat .bool false))], []⟩) n x.1.2.2.2.2.2.1 x.2.2.2.2.1 x.2.2.2.2.2.1⟩
noncomputable def C4 : Cfg := mkCfg [(9, ⟨[0, 3, 4, 5, 6, 7], [(4, [0], G31), (5, [], G31), (6, [], G23)]⟩), (10, ⟨[0, 3, 4, 5, 6, 7], [(4, [0], G31), (5, [], G31)]⟩), (16, ⟨[0, 3, 4, 5, 6, 7, 8, 9, 10], []⟩), (21, ⟨[0, 3, 4, 5, 6, 7, 8, 9], [(5, [], G31)]⟩), (28, ⟨[0, 3, 4, 5, 6, 11], []⟩)] [(9, (⟨[0, 3, 4, 5, 6], []⟩, ⟨[2], []⟩)), (16, (⟨[0, 3, 4, 5, 6, 7, 8, 9], []⟩, ⟨[2], []⟩)), (28, (⟨[3, 4, 5], []⟩, ⟨[2], []⟩))] (([(1, L4_1), (0, L4_2), (2, L4_3)] : List (Nat × LE)).map (·.2))
theorem ek4_1 : EOk E4 C4 Try.f4.ntmps (bodyL Try.f4 1) L4_1 := eok_of (e := L4_1) (fun R x Kn k => s4_1 x.1.1 x.1.2.2.2.2.2.1 x.2.2.1 (fun v0 v1 => Kn ((x.1.1, x.1.2.1, (), (), (), x.1.2.2.2.2.2.1, (), v0, v1, ()), (((), (), ()), x.2.2.1, x.2.2.2.1, x.2.2.2.2.1, x.2.2.2.2.2.1, x.2.2.2.2.2.2.1, ()))) (fun y0 => k (.exit 2) ⟨[(0, (.dat (.sl G31) x.1.1)), (3, (.dat .bool x.1.2.1)), (4, (.box 0 [] 0)), (5, (.own 1)), (6, (.own 2)), (7, (.dat (.int .i64) x.1.2.2.2.2.2.1)), (8, (.box 3 [] 0)), (9, (.dat .bool y0))], [(.box (.agg (.scons (.own 4) (.scons (.mp 5) .snil)))), (.arr G31 x.2.2.1), (.arr G23 x.2.2.2.1), (.box (.dat G23 x.2.2.2.2.1)), (.arr G31 x.2.2.2.2.2.1), (.map G31 (.int .i64) x.2.2.2.2.2.2.1)]⟩) x.1.2.2.2.2.2.2.2.1 x.1.2.2.2.2.2.2.2.2.1) (fun _ _ _ => rfl) (fun _ _ _ _ => rfl) (fun R x Kn k => by kernel_rfl)
theorem ek4_2 : EOk E4 C4 Try.f4.ntmps (bodyL Try.f4 0) L4_2 := eok_of (e := L4_2) (fun R x Kn k => s4_2 x.1.1 (fun v0 v1 v2 v3 v4 => Kn ((x.1.1, x.1.2.1, (), (), (), v0, ()), (((), (), ()), v1, v2, v3, v4, ()))) (fun y0 y1 y2 y3 => k (.exit 0) ⟨[(0, (.dat (.sl G31) x.1.1)), (3, (.dat .bool x.1.2.1)), (4, (.box 0 [] 0)), (5, (.own 1)), (6, (.own 2))], [(.box (.agg (.scons (.own 3) (.scons (.mp 4) .snil)))), (.arr G31 y0), (.arr G23 y1), (.arr G31 y2), (.map G31 (.int .i64) y3)]⟩) (k .ret ⟨[(2, (.dat .bool false))], []⟩) x.1.2.2.2.2.2.1 x.2.2.1 x.2.2.2.1 x.2.2.2.2.1 x.2.2.2.2.2.1) (fun _ _ _ => rfl) (fun _ _ _ _ => rfl) (fun R x Kn k => by kernel_rfl)
theorem ek4_3 : EOk E4 C4 Try.f4.ntmps (bodyL Try.f4 2) L4_3 := eok_of (e := L4_3) (fun R x Kn k => s4_3 x.1.1 x.2.2.2.1 (fun v0 v1 v2 => Kn ((x.1.1, x.1.2.1, (), (), (), v0, ()), (((), (), ()), x.2.2.1, x.2.2.2.1, v1, v2, ()))) (fun y0 y1 => k (.exit 4) ⟨[(3, (.dat .bool x.1.2.1)), (4, (.box 0 [] 0)), (5, (.own 1))], [(.box (.agg (.scons (.own 2) (.scons (.mp 3) .snil)))), (.arr G31 x.2.2.1), (.arr G31 y0), (.map G31 (.int .i64) y1)]⟩) (k .ret ⟨[(2, (.dat .bool false))], []⟩) x.1.2.2.2.2.2.1 x.2.2.2.2.1 x.2.2.2.2.2.1) (fun _ _ _ => rfl) (fun _ _ _ _ => rfl) (fun R x Kn k => by kernel_rfl)
theorem lm4 : ∀ c, Try.f4.body = some c → LmOk E4 C4 Try.f4.ntmps c := lmOk_of (ps := [(1, L4_1), (0, L4_2), (2, L4_3)]) (by kernel_rfl) (by kernel_rfl) ⟨ek4_1, ek4_2, ek4_3, trivial⟩
noncomputable def m4 (a0 : (List T31)) : Option (Bool) :=
  (m7).bind fun r1 =>
  (m9 a0 40).bind fun r2 =>
  bif (bif (!r2) then true else false) then
    some (bif r1 then true else false)
  else
    l4_2 a0 (fun y30 y31 y32 y33 =>
        (cloneM y32).bind fun r34 =>
        (m12 r34 y30).bind fun r35 =>
        bif (!r35) then
          some false
        else
          l4_3 a0 y31 (fun y42 y43 =>
              bif (r1 == true) then
                (cloneM y42).bind fun r44 =>
                (bif (r1 == true) then (m12 r44 y30) else some false).bind fun r45 =>
                some (r1 && r45)
              else
                (bif (r1 == true) then (m12 [] y30) else some false).bind fun r46 =>
                some (r1 && r46)) (
              some false) FUEL 0 y32 y33) (
        some false) FUEL 0 [] [] [] []
noncomputable def e4 : PmE := entry 4 [(.sl G31)] false .bool (fun x => m4 x.1)
theorem q4 (x : tyL [(.sl G31)]) : execF E4 C4 Try.f4 (datL [(.sl G31)] x) [] (retK false .bool) = m4 x.1 := by kernel_rfl
theorem p4 : PmOk Try.prog e4 := pm_ok (E := E4) ok4 ord lm4 Try.func4 ca4 q4

/-! 5: consol/consollaw44.SealTells -/
theorem ca14 : callable Try.prog 14 := ⟨Try.f14, Try.func14, by kernel_rfl, by kernel_rfl⟩
noncomputable def E5i14 : Env := mkEnv2 Try.prog [] []
theorem ok5i14 : EnvOk E5i14 := mkEnv2_ok (by simp) (by simp)
noncomputable def C5i14 : Cfg := noCfg
theorem lm5i14 : ∀ c, Try.f14.body = some c → LmOk E5i14 C5i14 Try.f14.ntmps c := fun _ _ => noCfg_lm
noncomputable def c5i14 : CmE := inl E5i14 C5i14 14 Try.f14
theorem d5i14 : CmOk Try.prog c5i14 := inl_ok (E := E5i14) ok5i14 ord lm5i14 Try.func14 ca14

theorem ca23 : callable Try.prog 23 := ⟨Try.f23, Try.func23, by kernel_rfl, by kernel_rfl⟩
noncomputable def E5i23 : Env := mkEnv2 Try.prog [] []
theorem ok5i23 : EnvOk E5i23 := mkEnv2_ok (by simp) (by simp)
/-- a round of a loop of (*consol/consolref44.Ring).find -/
noncomputable def s5_1 {R : Type} (t1 : Int) (t2 : (List UInt8)) (o5 : (List T31)) (kn : Int → Option R) (k1 : Option R) (k2 : Int → Option R) (t7 : Int) : Option R :=
  bif (decide (t7 < (List.length o5 : Int))) then
    asrt true (decide (0 ≤ t7) && decide (t7 < (List.length o5 : Int))) (
      ((o5)[(t7 : Int).toNat]?).bind fun x10 =>
      asrt ((x10.1 == t1) == true) (decide (0 ≤ t7) && decide (t7 < (List.length o5 : Int))) (
        ((bif ((x10.1 == t1) == true) then (o5)[(t7 : Int).toNat]? else some (0, ([] : (List UInt8)), ()))).bind fun x11 =>
        bif ((x10.1 == t1) && (x11.2.1 == t2)) then
          k2 t7
        else
          kn (IntKind.i64.wrap (t7 + 1))))
  else
    k1
noncomputable def l5_1 {R : Type} (t1 : Int) (t2 : (List UInt8)) (o5 : (List T31)) (k1 : Option R) (k2 : Int → Option R) : Nat → Int → Option R
  | 0, _ => none
  | n + 1, t7 => s5_1 t1 t2 o5 (l5_1 t1 t2 o5 k1 k2 n) k1 k2 t7
noncomputable def L5_1 : LE := ⟨3, 8, ⟨[(0, (.box 2 [] 0)), (1, (.dat (.int .i64))), (2, (.dat .str)), (7, (.dat (.int .i64)))], [.dead, .dead, (.box (.agg (.scons (.own 5) .snil))), .dead, .dead, (.arr G31), .dead, .dead]⟩, fun R n x k => l5_1 x.1.2.1 x.1.2.2.1 x.2.2.2.2.2.2.1 (k (.exit 0) ⟨[], [.dead, .dead, (.box (.agg (.scons (.own 5) .snil))), .dead, .dead, (.arr G31 x.2.2.2.2.2.2.1), .dead, .dead]⟩) (fun y0 => k .ret ⟨[(6, (.dat (.int .i64) y0))], [.dead, .dead, (.box (.agg (.scons (.own 5) .snil))), .dead, .dead, (.arr G31 x.2.2.2.2.2.2.1), .dead, .dead]⟩) n x.1.2.2.2.1⟩
/-- a round of a loop of (*consol/consolref44.Ring).find -/
noncomputable def s5_2 {R : Type} (t1 : Int) (t2 : (List UInt8)) (o5 : (List T31)) (kn : Int → Option R) (k1 : Option R) (k2 : Int → Option R) (t7 : Int) : Option R :=
  bif (decide (t7 < (List.length o5 : Int))) then
    asrt true (decide (0 ≤ t7) && decide (t7 < (List.length o5 : Int))) (
      ((o5)[(t7 : Int).toNat]?).bind fun x31 =>
      asrt ((x31.1 == t1) == true) (decide (0 ≤ t7) && decide (t7 < (List.length o5 : Int))) (
        ((bif ((x31.1 == t1) == true) then (o5)[(t7 : Int).toNat]? else some (0, ([] : (List UInt8)), ()))).bind fun x32 =>
        bif ((x31.1 == t1) && (x32.2.1 == t2)) then
          k2 t7
        else
          kn (IntKind.i64.wrap (t7 + 1))))
  else
    k1
noncomputable def l5_2 {R : Type} (t1 : Int) (t2 : (List UInt8)) (o5 : (List T31)) (k1 : Option R) (k2 : Int → Option R) : Nat → Int → Option R
  | 0, _ => none
  | n + 1, t7 => s5_2 t1 t2 o5 (l5_2 t1 t2 o5 k1 k2 n) k1 k2 t7
noncomputable def L5_2 : LE := ⟨3, 9, ⟨[(0, (.box 2 [] 0)), (1, (.dat (.int .i64))), (2, (.dat .str)), (7, (.dat (.int .i64)))], [.dead, .dead, (.box (.agg (.scons (.own 5) .snil))), .dead, .dead, (.arr G31), .dead, .dead, .dead]⟩, fun R n x k => l5_2 x.1.2.1 x.1.2.2.1 x.2.2.2.2.2.2.1 (k (.exit 0) ⟨[], [.dead, .dead, (.box (.agg (.scons (.own 5) .snil))), .dead, .dead, (.arr G31 x.2.2.2.2.2.2.1), .dead, .dead, .dead]⟩) (fun y0 => k .ret ⟨[(6, (.dat (.int .i64) y0))], [.dead, .dead, (.box (.agg (.scons (.own 5) .snil))), .dead, .dead, (.arr G31 x.2.2.2.2.2.2.1), .dead, .dead, .dead]⟩) n x.1.2.2.2.1⟩
/-- a round of a loop of (*consol/consolref44.Ring).find -/
noncomputable def s5_5 {R : Type} (t1 : Int) (t2 : (List UInt8)) (o7 : (List T31)) (kn : Int → Option R) (k1 : Option R) (k2 : Int → Option R) (t7 : Int) : Option R :=
  bif (decide (t7 < (List.length o7 : Int))) then
    asrt true (decide (0 ≤ t7) && decide (t7 < (List.length o7 : Int))) (
      ((o7)[(t7 : Int).toNat]?).bind fun x77 =>
      asrt ((x77.1 == t1) == true) (decide (0 ≤ t7) && decide (t7 < (List.length o7 : Int))) (
        ((bif ((x77.1 == t1) == true) then (o7)[(t7 : Int).toNat]? else some (0, ([] : (List UInt8)), ()))).bind fun x78 =>
        bif ((x77.1 == t1) && (x78.2.1 == t2)) then
          k2 t7
        else
          kn (IntKind.i64.wrap (t7 + 1))))
  else
    k1
noncomputable def l5_5 {R : Type} (t1 : Int) (t2 : (List UInt8)) (o7 : (List T31)) (k1 : Option R) (k2 : Int → Option R) : Nat → Int → Option R
  | 0, _ => none
  | n + 1, t7 => s5_5 t1 t2 o7 (l5_5 t1 t2 o7 k1 k2 n) k1 k2 t7
noncomputable def L5_5 : LE := ⟨3, 8, ⟨[(0, (.box 6 [] 0)), (1, (.dat (.int .i64))), (2, (.dat .str)), (7, (.dat (.int .i64)))], [.dead, .dead, .dead, .dead, .dead, .dead, (.box (.agg (.scons (.own 7) .snil))), (.arr G31)]⟩, fun R n x k => l5_5 x.1.2.1 x.1.2.2.1 x.2.2.2.2.2.2.2.2.1 (k (.exit 0) ⟨[], [.dead, .dead, .dead, .dead, .dead, .dead, (.box (.agg (.scons (.own 7) .snil))), (.arr G31 x.2.2.2.2.2.2.2.2.1)]⟩) (fun y0 => k .ret ⟨[(6, (.dat (.int .i64) y0))], [.dead, .dead, .dead, .dead, .dead, .dead, (.box (.agg (.scons (.own 7) .snil))), (.arr G31 x.2.2.2.2.2.2.2.2.1)]⟩) n x.1.2.2.2.1⟩
/-- a round of a loop of (*consol/consolref44.Ring).find -/
noncomputable def s5_7 {R : Type} (t1 : Int) (t2 : (List UInt8)) (o10 : (List T31)) (kn : Int → Option R) (k1 : Option R) (k2 : Int → Option R) (t7 : Int) : Option R :=
  bif (decide (t7 < (List.length o10 : Int))) then
    asrt true (decide (0 ≤ t7) && decide (t7 < (List.length o10 : Int))) (
      ((o10)[(t7 : Int).toNat]?).bind fun x100 =>
      asrt ((x100.1 == t1) == true) (decide (0 ≤ t7) && decide (t7 < (List.length o10 : Int))) (
        ((bif ((x100.1 == t1) == true) then (o10)[(t7 : Int).toNat]? else some (0, ([] : (List UInt8)), ()))).bind fun x101 =>
        bif ((x100.1 == t1) && (x101.2.1 == t2)) then
          k2 t7
        else
          kn (IntKind.i64.wrap (t7 + 1))))
  else
    k1
noncomputable def l5_7 {R : Type} (t1 : Int) (t2 : (List UInt8)) (o10 : (List T31)) (k1 : Option R) (k2 : Int → Option R) : Nat → Int → Option R
  | 0, _ => none
  | n + 1, t7 => s5_7 t1 t2 o10 (l5_7 t1 t2 o10 k1 k2 n) k1 k2 t7
noncomputable def L5_7 : LE := ⟨3, 11, ⟨[(0, (.box 9 [] 0)), (1, (.dat (.int .i64))), (2, (.dat .str)), (7, (.dat (.int .i64)))], [.dead, .dead, .dead, .dead, .dead, .dead, .dead, .dead, .dead, (.box (.agg (.scons (.own 10) .snil))), (.arr G31)]⟩, fun R n x k => l5_7 x.1.2.1 x.1.2.2.1 x.2.2.2.2.2.2.2.2.2.2.2.1 (k (.exit 0) ⟨[], [.dead, .dead, .dead, .dead, .dead, .dead, .dead, .dead, .dead, (.box (.agg (.scons (.own 10) .snil))), (.arr G31 x.2.2.2.2.2.2.2.2.2.2.2.1)]⟩) (fun y0 => k .ret ⟨[(6, (.dat (.int .i64) y0))], [.dead, .dead, .dead, .dead, .dead, .dead, .dead, .dead, .dead, (.box (.agg (.scons (.own 10) .snil))), (.arr G31 x.2.2.2.2.2.2.2.2.2.2.2.1)]⟩) n x.1.2.2.2.1⟩
noncomputable def C5i23 : Cfg := mkCfg [(3, ⟨[0, 1, 2, 7], []⟩)] [(3, (⟨[], []⟩, ⟨[6], []⟩))] (([(0, L5_1), (0, L5_2), (0, L5_5), (0, L5_7)] : List (Nat × LE)).map (·.2))
theorem ek5_1 : EOk E5i23 C5i23 Try.f23.ntmps (bodyL Try.f23 0) L5_1 := eok_of (e := L5_1) (fun R x Kn k => s5_1 x.1.2.1 x.1.2.2.1 x.2.2.2.2.2.2.1 (fun v0 => Kn (((), x.1.2.1, x.1.2.2.1, v0, ()), ((), (), ((), ()), (), (), x.2.2.2.2.2.2.1, (), (), ()))) (k (.exit 0) ⟨[], [.dead, .dead, (.box (.agg (.scons (.own 5) .snil))), .dead, .dead, (.arr G31 x.2.2.2.2.2.2.1), .dead, .dead]⟩) (fun y0 => k .ret ⟨[(6, (.dat (.int .i64) y0))], [.dead, .dead, (.box (.agg (.scons (.own 5) .snil))), .dead, .dead, (.arr G31 x.2.2.2.2.2.2.1), .dead, .dead]⟩) x.1.2.2.2.1) (fun _ _ _ => rfl) (fun _ _ _ _ => rfl) (fun R x Kn k => by kernel_rfl)
theorem ek5_2 : EOk E5i23 C5i23 Try.f23.ntmps (bodyL Try.f23 0) L5_2 := eok_of (e := L5_2) (fun R x Kn k => s5_2 x.1.2.1 x.1.2.2.1 x.2.2.2.2.2.2.1 (fun v0 => Kn (((), x.1.2.1, x.1.2.2.1, v0, ()), ((), (), ((), ()), (), (), x.2.2.2.2.2.2.1, (), (), (), ()))) (k (.exit 0) ⟨[], [.dead, .dead, (.box (.agg (.scons (.own 5) .snil))), .dead, .dead, (.arr G31 x.2.2.2.2.2.2.1), .dead, .dead, .dead]⟩) (fun y0 => k .ret ⟨[(6, (.dat (.int .i64) y0))], [.dead, .dead, (.box (.agg (.scons (.own 5) .snil))), .dead, .dead, (.arr G31 x.2.2.2.2.2.2.1), .dead, .dead, .dead]⟩) x.1.2.2.2.1) (fun _ _ _ => rfl) (fun _ _ _ _ => rfl) (fun R x Kn k => by kernel_rfl)
theorem ek5_5 : EOk E5i23 C5i23 Try.f23.ntmps (bodyL Try.f23 0) L5_5 := eok_of (e := L5_5) (fun R x Kn k => s5_5 x.1.2.1 x.1.2.2.1 x.2.2.2.2.2.2.2.2.1 (fun v0 => Kn (((), x.1.2.1, x.1.2.2.1, v0, ()), ((), (), (), (), (), (), ((), ()), x.2.2.2.2.2.2.2.2.1, ()))) (k (.exit 0) ⟨[], [.dead, .dead, .dead, .dead, .dead, .dead, (.box (.agg (.scons (.own 7) .snil))), (.arr G31 x.2.2.2.2.2.2.2.2.1)]⟩) (fun y0 => k .ret ⟨[(6, (.dat (.int .i64) y0))], [.dead, .dead, .dead, .dead, .dead, .dead, (.box (.agg (.scons (.own 7) .snil))), (.arr G31 x.2.2.2.2.2.2.2.2.1)]⟩) x.1.2.2.2.1) (fun _ _ _ => rfl) (fun _ _ _ _ => rfl) (fun R x Kn k => by kernel_rfl)
theorem ek5_7 : EOk E5i23 C5i23 Try.f23.ntmps (bodyL Try.f23 0) L5_7 := eok_of (e := L5_7) (fun R x Kn k => s5_7 x.1.2.1 x.1.2.2.1 x.2.2.2.2.2.2.2.2.2.2.2.1 (fun v0 => Kn (((), x.1.2.1, x.1.2.2.1, v0, ()), ((), (), (), (), (), (), (), (), (), ((), ()), x.2.2.2.2.2.2.2.2.2.2.2.1, ()))) (k (.exit 0) ⟨[], [.dead, .dead, .dead, .dead, .dead, .dead, .dead, .dead, .dead, (.box (.agg (.scons (.own 10) .snil))), (.arr G31 x.2.2.2.2.2.2.2.2.2.2.2.1)]⟩) (fun y0 => k .ret ⟨[(6, (.dat (.int .i64) y0))], [.dead, .dead, .dead, .dead, .dead, .dead, .dead, .dead, .dead, (.box (.agg (.scons (.own 10) .snil))), (.arr G31 x.2.2.2.2.2.2.2.2.2.2.2.1)]⟩) x.1.2.2.2.1) (fun _ _ _ => rfl) (fun _ _ _ _ => rfl) (fun R x Kn k => by kernel_rfl)
theorem lm5i23 : ∀ c, Try.f23.body = some c → LmOk E5i23 C5i23 Try.f23.ntmps c := lmOk_of (ps := [(0, L5_1), (0, L5_2), (0, L5_5), (0, L5_7)]) (by kernel_rfl) (by kernel_rfl) ⟨ek5_1, ek5_2, ek5_5, ek5_7, trivial⟩
noncomputable def c5i23 : CmE := inl E5i23 C5i23 23 Try.f23
theorem d5i23 : CmOk Try.prog c5i23 := inl_ok (E := E5i23) ok5i23 ord lm5i23 Try.func23 ca23

theorem ca15 : callable Try.prog 15 := ⟨Try.f15, Try.func15, by kernel_rfl, by kernel_rfl⟩
noncomputable def E5i15 : Env := mkEnv2 Try.prog [] [c5i23]
theorem ok5i15 : EnvOk E5i15 := mkEnv2_ok (by simp) (by simp only [List.mem_cons, List.not_mem_nil, or_false, forall_eq]; exact d5i23)
noncomputable def C5i15 : Cfg := mkCfg [(8, ⟨[1, 2, 6, 7], []⟩)] [] (([] : List (Nat × LE)).map (·.2))
theorem lm5i15 : ∀ c, Try.f15.body = some c → LmOk E5i15 C5i15 Try.f15.ntmps c := lmOk_of (ps := []) (by kernel_rfl) (by kernel_rfl) trivial
noncomputable def c5i15 : CmE := inl E5i15 C5i15 15 Try.f15
theorem d5i15 : CmOk Try.prog c5i15 := inl_ok (E := E5i15) ok5i15 ord lm5i15 Try.func15 ca15

theorem ca16 : callable Try.prog 16 := ⟨Try.f16, Try.func16, by kernel_rfl, by kernel_rfl⟩
noncomputable def E5i16 : Env := mkEnv2 Try.prog [] []
theorem ok5i16 : EnvOk E5i16 := mkEnv2_ok (by simp) (by simp)
noncomputable def C5i16 : Cfg := noCfg
theorem lm5i16 : ∀ c, Try.f16.body = some c → LmOk E5i16 C5i16 Try.f16.ntmps c := fun _ _ => noCfg_lm
noncomputable def c5i16 : CmE := inl E5i16 C5i16 16 Try.f16
theorem d5i16 : CmOk Try.prog c5i16 := inl_ok (E := E5i16) ok5i16 ord lm5i16 Try.func16 ca16

theorem ca17 : callable Try.prog 17 := ⟨Try.f17, Try.func17, by kernel_rfl, by kernel_rfl⟩
noncomputable def E5i17 : Env := mkEnv2 Try.prog [e21] [c7i8, c7i10]
theorem ok5i17 : EnvOk E5i17 := mkEnv2_ok (by simp only [List.mem_cons, List.not_mem_nil, or_false, forall_eq]; exact p21) (by simp only [List.mem_cons, List.not_mem_nil, or_false, forall_eq_or_imp, forall_eq]; exact ⟨d7i8, d7i10⟩)
/-- a round of a loop of consol/seal.Open -/
noncomputable def s5_4 {R : Type} (t8 : (List T31)) (t9 : Int) (kn : Int → (List T31) → (List (T31 × Int)) → Option R) (k1 : (List T31) → (List (T31 × Int)) → Option R) (k2 : Option R) (t10 : Int) (o7 : (List T31)) (o8 : (List (T31 × Int))) : Option R :=
  bif (decide (t10 < t9)) then
    (idx t8 t10).bind fun x68 =>
    (m21 x68.1).bind fun r69 =>
    bif (!r69) then
      k2
    else
      (m21 x68.1).bind fun r70 =>
      bif (!r70) then
        kn (IntKind.i64.wrap (t10 + 1)) o7 o8
      else
        bif (!(Option.isSome (mapAt G31 (.int .i64) (x68.1, x68.2.1, ()) o8))) then
          asrt true (decide (List.length (α := T31) o7 + List.length (α := T31) [(x68.1, x68.2.1, ())] ≤ LIM)) (
            asrt true (Option.isNone (mapAt G31 (.int .i64) (x68.1, x68.2.1, ()) o8)) (
              kn (IntKind.i64.wrap (t10 + 1)) (o7 ++ [(x68.1, x68.2.1, ())]) (o8 ++ [((x68.1, x68.2.1, ()), (List.length o7 : Int))])))
        else
          kn (IntKind.i64.wrap (t10 + 1)) o7 o8
  else
    k1 o7 o8
noncomputable def l5_4 {R : Type} (t8 : (List T31)) (t9 : Int) (k1 : (List T31) → (List (T31 × Int)) → Option R) (k2 : Option R) : Nat → Int → (List T31) → (List (T31 × Int)) → Option R
  | 0, _, _, _ => none
  | n + 1, t10, o7, o8 => s5_4 t8 t9 (l5_4 t8 t9 k1 k2 n) k1 k2 t10 o7 o8
noncomputable def L5_4 : LE := ⟨4, 6, ⟨[(0, (.dat (.sl G31))), (4, (.box 6 [] 0)), (8, (.dat (.sl G31))), (9, (.dat (.int .i64))), (10, (.dat (.int .i64)))], [.dead, .dead, .dead, .dead, .dead, .dead, (.box (.agg (.scons (.own 7) (.scons (.mp 8) .snil)))), (.arr G31), (.map G31 (.int .i64))]⟩, fun R n x k => l5_4 x.1.2.2.1 x.1.2.2.2.1 (fun y0 y1 => k (.exit 0) ⟨[(0, (.dat (.sl G31) x.1.1)), (4, (.box 6 [] 0))], [.dead, .dead, .dead, .dead, .dead, .dead, (.box (.agg (.scons (.own 7) (.scons (.mp 8) .snil)))), (.arr G31 y0), (.map G31 (.int .i64) y1)]⟩) (k .ret ⟨[(2, .nilp), (3, (.dat (.int .i64) 1))], [.dead, .dead, .dead, .dead, .dead, .dead]⟩) n x.1.2.2.2.2.1 x.2.2.2.2.2.2.2.2.1 x.2.2.2.2.2.2.2.2.2.1⟩
noncomputable def C5i17 : Cfg := mkCfg [(4, ⟨[0, 4, 8, 9, 10], [(4, [0], G31)]⟩)] [(4, (⟨[0, 4], []⟩, ⟨[2, 3], []⟩))] (([(0, L5_4)] : List (Nat × LE)).map (·.2))
theorem ek5_4 : EOk E5i17 C5i17 Try.f17.ntmps (bodyL Try.f17 0) L5_4 := eok_of (e := L5_4) (fun R x Kn k => s5_4 x.1.2.2.1 x.1.2.2.2.1 (fun v0 v1 v2 => Kn ((x.1.1, (), x.1.2.2.1, x.1.2.2.2.1, v0, ()), ((), (), (), (), (), (), ((), (), ()), v1, v2, ()))) (fun y0 y1 => k (.exit 0) ⟨[(0, (.dat (.sl G31) x.1.1)), (4, (.box 6 [] 0))], [.dead, .dead, .dead, .dead, .dead, .dead, (.box (.agg (.scons (.own 7) (.scons (.mp 8) .snil)))), (.arr G31 y0), (.map G31 (.int .i64) y1)]⟩) (k .ret ⟨[(2, .nilp), (3, (.dat (.int .i64) 1))], [.dead, .dead, .dead, .dead, .dead, .dead]⟩) x.1.2.2.2.2.1 x.2.2.2.2.2.2.2.2.1 x.2.2.2.2.2.2.2.2.2.1) (fun _ _ _ => rfl) (fun _ _ _ _ => rfl) (fun R x Kn k => by kernel_rfl)
theorem lm5i17 : ∀ c, Try.f17.body = some c → LmOk E5i17 C5i17 Try.f17.ntmps c := lmOk_of (ps := [(0, L5_4)]) (by kernel_rfl) (by kernel_rfl) ⟨ek5_4, trivial⟩
noncomputable def c5i17 : CmE := inl E5i17 C5i17 17 Try.f17
theorem d5i17 : CmOk Try.prog c5i17 := inl_ok (E := E5i17) ok5i17 ord lm5i17 Try.func17 ca17

theorem ca18 : callable Try.prog 18 := ⟨Try.f18, Try.func18, by kernel_rfl, by kernel_rfl⟩
noncomputable def E5i18 : Env := mkEnv2 Try.prog [] [c5i14, c5i23]
theorem ok5i18 : EnvOk E5i18 := mkEnv2_ok (by simp) (by simp only [List.mem_cons, List.not_mem_nil, or_false, forall_eq_or_imp, forall_eq]; exact ⟨d5i14, d5i23⟩)
/-- a round of a loop of consol/consolref44.Open -/
noncomputable def s5_6 {R : Type} (t0 : (List T31)) (kn : Int → Int → (List T31) → Option R) (k1 : Int → (List T31) → Option R) (k2 : Option R) (t5 : Int) (t6 : Int) (o7 : (List T31)) : Option R :=
  bif (decide (t6 < (List.length t0 : Int))) then
    (idx t0 t6).bind fun x73 =>
    (idxG ((decide (x73.1 < 0)) == false) (0, ([] : (List UInt8)), ()) t0 t6).bind fun x74 =>
    bif ((decide (x73.1 < 0)) || (decide (x74.1 ≥ 200))) then
      k2
    else
      cont (fun (k80 : Int → _) =>
        (idx t0 t6).bind fun x75 =>
        (idx t0 t6).bind fun x76 =>
        l5_5 x75.1 x76.2.1 o7 (
            k80 t5) (fun y79 =>
            bif (decide (y79 ≥ 0)) then
              k80 5
            else
              k80 t5) FUEL 0) fun y80 =>
      (idx t0 t6).bind fun x81 =>
      asrt true (decide (List.length (α := T31) o7 + List.length (α := T31) [x81] ≤ LIM)) (
        kn y80 (IntKind.i64.wrap (t6 + 1)) (o7 ++ [x81]))
  else
    k1 t5 o7
noncomputable def l5_6 {R : Type} (t0 : (List T31)) (k1 : Int → (List T31) → Option R) (k2 : Option R) : Nat → Int → Int → (List T31) → Option R
  | 0, _, _, _ => none
  | n + 1, t5, t6, o7 => s5_6 t0 (l5_6 t0 k1 k2 n) k1 k2 t5 t6 o7
noncomputable def L5_6 : LE := ⟨5, 6, ⟨[(0, (.dat (.sl G31))), (4, (.box 6 [] 0)), (5, (.dat (.int .i64))), (6, (.dat (.int .i64)))], [.dead, .dead, .dead, .dead, .dead, .dead, (.box (.agg (.scons (.own 7) .snil))), (.arr G31)]⟩, fun R n x k => l5_6 x.1.1 (fun y0 y1 => k (.exit 0) ⟨[(4, (.box 6 [] 0)), (5, (.dat (.int .i64) y0))], [.dead, .dead, .dead, .dead, .dead, .dead, (.box (.agg (.scons (.own 7) .snil))), (.arr G31 y1)]⟩) (k .ret ⟨[(2, .nilp), (3, (.dat (.int .i64) 1))], [.dead, .dead, .dead, .dead, .dead, .dead]⟩) n x.1.2.2.1 x.1.2.2.2.1 x.2.2.2.2.2.2.2.2.1⟩
/-- a round of a loop of consol/consolref44.Open -/
noncomputable def s5_8 {R : Type} (t0 : (List T31)) (kn : Int → Int → (List T31) → Option R) (k1 : Int → (List T31) → Option R) (k2 : Option R) (t5 : Int) (t6 : Int) (o10 : (List T31)) : Option R :=
  bif (decide (t6 < (List.length t0 : Int))) then
    (idx t0 t6).bind fun x96 =>
    (idxG ((decide (x96.1 < 0)) == false) (0, ([] : (List UInt8)), ()) t0 t6).bind fun x97 =>
    bif ((decide (x96.1 < 0)) || (decide (x97.1 ≥ 200))) then
      k2
    else
      cont (fun (k103 : Int → _) =>
        (idx t0 t6).bind fun x98 =>
        (idx t0 t6).bind fun x99 =>
        l5_7 x98.1 x99.2.1 o10 (
            k103 t5) (fun y102 =>
            bif (decide (y102 ≥ 0)) then
              k103 5
            else
              k103 t5) FUEL 0) fun y103 =>
      (idx t0 t6).bind fun x104 =>
      asrt true (decide (List.length (α := T31) o10 + List.length (α := T31) [x104] ≤ LIM)) (
        kn y103 (IntKind.i64.wrap (t6 + 1)) (o10 ++ [x104]))
  else
    k1 t5 o10
noncomputable def l5_8 {R : Type} (t0 : (List T31)) (k1 : Int → (List T31) → Option R) (k2 : Option R) : Nat → Int → Int → (List T31) → Option R
  | 0, _, _, _ => none
  | n + 1, t5, t6, o10 => s5_8 t0 (l5_8 t0 k1 k2 n) k1 k2 t5 t6 o10
noncomputable def L5_8 : LE := ⟨5, 9, ⟨[(0, (.dat (.sl G31))), (4, (.box 9 [] 0)), (5, (.dat (.int .i64))), (6, (.dat (.int .i64)))], [.dead, .dead, .dead, .dead, .dead, .dead, .dead, .dead, .dead, (.box (.agg (.scons (.own 10) .snil))), (.arr G31)]⟩, fun R n x k => l5_8 x.1.1 (fun y0 y1 => k (.exit 0) ⟨[(4, (.box 9 [] 0)), (5, (.dat (.int .i64) y0))], [.dead, .dead, .dead, .dead, .dead, .dead, .dead, .dead, .dead, (.box (.agg (.scons (.own 10) .snil))), (.arr G31 y1)]⟩) (k .ret ⟨[(2, .nilp), (3, (.dat (.int .i64) 1))], [.dead, .dead, .dead, .dead, .dead, .dead, .dead, .dead, .dead]⟩) n x.1.2.2.1 x.1.2.2.2.1 x.2.2.2.2.2.2.2.2.2.2.2.1⟩
noncomputable def C5i18 : Cfg := mkCfg [(5, ⟨[0, 4, 5, 6], [(4, [0], G31)]⟩), (6, ⟨[0, 4, 5, 6], []⟩), (11, ⟨[0, 4, 5, 6], []⟩)] [(5, (⟨[4, 5], []⟩, ⟨[2, 3], []⟩))] (([(0, L5_6), (0, L5_8)] : List (Nat × LE)).map (·.2))
theorem ek5_6 : EOk E5i18 C5i18 Try.f18.ntmps (bodyL Try.f18 0) L5_6 := eok_of (e := L5_6) (fun R x Kn k => s5_6 x.1.1 (fun v0 v1 v2 => Kn ((x.1.1, (), v0, v1, ()), ((), (), (), (), (), (), ((), ()), v2, ()))) (fun y0 y1 => k (.exit 0) ⟨[(4, (.box 6 [] 0)), (5, (.dat (.int .i64) y0))], [.dead, .dead, .dead, .dead, .dead, .dead, (.box (.agg (.scons (.own 7) .snil))), (.arr G31 y1)]⟩) (k .ret ⟨[(2, .nilp), (3, (.dat (.int .i64) 1))], [.dead, .dead, .dead, .dead, .dead, .dead]⟩) x.1.2.2.1 x.1.2.2.2.1 x.2.2.2.2.2.2.2.2.1) (fun _ _ _ => rfl) (fun _ _ _ _ => rfl) (fun R x Kn k => by kernel_rfl)
theorem ek5_8 : EOk E5i18 C5i18 Try.f18.ntmps (bodyL Try.f18 0) L5_8 := eok_of (e := L5_8) (fun R x Kn k => s5_8 x.1.1 (fun v0 v1 v2 => Kn ((x.1.1, (), v0, v1, ()), ((), (), (), (), (), (), (), (), (), ((), ()), v2, ()))) (fun y0 y1 => k (.exit 0) ⟨[(4, (.box 9 [] 0)), (5, (.dat (.int .i64) y0))], [.dead, .dead, .dead, .dead, .dead, .dead, .dead, .dead, .dead, (.box (.agg (.scons (.own 10) .snil))), (.arr G31 y1)]⟩) (k .ret ⟨[(2, .nilp), (3, (.dat (.int .i64) 1))], [.dead, .dead, .dead, .dead, .dead, .dead, .dead, .dead, .dead]⟩) x.1.2.2.1 x.1.2.2.2.1 x.2.2.2.2.2.2.2.2.2.2.2.1) (fun _ _ _ => rfl) (fun _ _ _ _ => rfl) (fun R x Kn k => by kernel_rfl)
theorem lm5i18 : ∀ c, Try.f18.body = some c → LmOk E5i18 C5i18 Try.f18.ntmps c := lmOk_of (ps := [(0, L5_6), (0, L5_8)]) (by kernel_rfl) (by kernel_rfl) ⟨ek5_6, ek5_8, trivial⟩
noncomputable def c5i18 : CmE := inl E5i18 C5i18 18 Try.f18
theorem d5i18 : CmOk Try.prog c5i18 := inl_ok (E := E5i18) ok5i18 ord lm5i18 Try.func18 ca18

theorem ca19 : callable Try.prog 19 := ⟨Try.f19, Try.func19, by kernel_rfl, by kernel_rfl⟩
noncomputable def E5i19 : Env := mkEnv2 Try.prog [] []
theorem ok5i19 : EnvOk E5i19 := mkEnv2_ok (by simp) (by simp)
noncomputable def C5i19 : Cfg := noCfg
theorem lm5i19 : ∀ c, Try.f19.body = some c → LmOk E5i19 C5i19 Try.f19.ntmps c := fun _ _ => noCfg_lm
noncomputable def c5i19 : CmE := inl E5i19 C5i19 19 Try.f19
theorem d5i19 : CmOk Try.prog c5i19 := inl_ok (E := E5i19) ok5i19 ord lm5i19 Try.func19 ca19

theorem ca5 : callable Try.prog 5 := ⟨Try.f5, Try.func5, by kernel_rfl, by kernel_rfl⟩
noncomputable def E5 : Env := mkEnv2 Try.prog [e7, e9, e12] [c7i8, c7i10, c7i11, c7i13, c5i14, c5i15, c5i16, c5i17, c5i18, c5i19]
theorem ok5 : EnvOk E5 := mkEnv2_ok (by simp only [List.mem_cons, List.not_mem_nil, or_false, forall_eq_or_imp, forall_eq]; exact ⟨p7, p9, p12⟩) (by simp only [List.mem_cons, List.not_mem_nil, or_false, forall_eq_or_imp, forall_eq]; exact ⟨d7i8, d7i10, d7i11, d7i13, d5i14, d5i15, d5i16, d5i17, d5i18, d5i19⟩)
/-- a round of a loop of consol/consollaw44.SealTells -/
noncomputable def s5_3 {R : Type} (t0 : (List T31)) (o0 : T23) (kn : Int → (List T31) → (List (T31 × Int)) → (List T31) → Option R) (k1 : (List T31) → (List (T31 × Int)) → (List T31) → Option R) (k2 : Option R) (t8 : Int) (o3 : (List T31)) (o4 : (List (T31 × Int))) (o5 : (List T31)) : Option R :=
  bif (decide (t8 < (List.length t0 : Int))) then
    (idx t0 t8).bind fun x3 =>
    (idx t0 t8).bind fun x4 =>
    (m21 x3.1).bind fun r5 =>
    bif (!r5) then
      (idx t0 t8).bind fun x6 =>
      (idx t0 t8).bind fun x7 =>
      bif ((decide (x6.1 < 0)) || (decide (x6.1 ≥ 200))) then
        asrt (((decide (o0.2.2.1 ≥ 0)) && (decide (o0.2.2.1 < (List.length o5 : Int)))) == true) (decide (0 ≤ o0.2.2.1) && decide (o0.2.2.1 < (List.length o5 : Int))) (
          ((bif (((decide (o0.2.2.1 ≥ 0)) && (decide (o0.2.2.1 < (List.length o5 : Int)))) == true) then (o5)[(o0.2.2.1 : Int).toNat]? else some (0, ([] : (List UInt8)), ()))).bind fun x8 =>
          asrt ((((decide (o0.2.2.1 ≥ 0)) && (decide (o0.2.2.1 < (List.length o5 : Int)))) && (x8.1 == o0.1)) == true) (decide (0 ≤ o0.2.2.1) && decide (o0.2.2.1 < (List.length o5 : Int))) (
            ((bif ((((decide (o0.2.2.1 ≥ 0)) && (decide (o0.2.2.1 < (List.length o5 : Int)))) && (x8.1 == o0.1)) == true) then (o5)[(o0.2.2.1 : Int).toNat]? else some (0, ([] : (List UInt8)), ()))).bind fun x9 =>
            bif (!(((Option.isSome (mapAt G31 (.int .i64) (o0.1, o0.2.1, ()) o4)) && ((Option.getD (mapAt G31 (.int .i64) (o0.1, o0.2.1, ()) o4) 0) == o0.2.2.1)) == ((((decide (o0.2.2.1 ≥ 0)) && (decide (o0.2.2.1 < (List.length o5 : Int)))) && (x8.1 == o0.1)) && (x9.2.1 == o0.2.1)))) then
              k2
            else
              kn (IntKind.i64.wrap (t8 + 1)) o3 o4 o5))
      else
        l5_1 x6.1 x7.2.1 o5 (
            asrt true (decide (List.length (α := T31) o5 + List.length (α := T31) [(x6.1, x7.2.1, ())] ≤ LIM)) (
              bif ((!((0 == x6.1) && ((([] : List UInt8) == x7.2.1) && ((0 == (List.length o5 : Int)) && true)))) == false) then
                bif ((!((0 == x6.1) && ((([] : List UInt8) == x7.2.1) && ((0 == (List.length o5 : Int)) && true)))) == false) then
                  asrt (((decide (o0.2.2.1 ≥ 0)) && (decide (o0.2.2.1 < (List.length (o5 ++ [(x6.1, x7.2.1, ())]) : Int)))) == true) (decide (0 ≤ o0.2.2.1) && decide (o0.2.2.1 < (List.length (o5 ++ [(x6.1, x7.2.1, ())]) : Int))) (
                    ((bif (((decide (o0.2.2.1 ≥ 0)) && (decide (o0.2.2.1 < (List.length (o5 ++ [(x6.1, x7.2.1, ())]) : Int)))) == true) then ((o5 ++ [(x6.1, x7.2.1, ())]))[(o0.2.2.1 : Int).toNat]? else some (0, ([] : (List UInt8)), ()))).bind fun x21 =>
                    asrt ((((decide (o0.2.2.1 ≥ 0)) && (decide (o0.2.2.1 < (List.length (o5 ++ [(x6.1, x7.2.1, ())]) : Int)))) && (x21.1 == o0.1)) == true) (decide (0 ≤ o0.2.2.1) && decide (o0.2.2.1 < (List.length (o5 ++ [(x6.1, x7.2.1, ())]) : Int))) (
                      ((bif ((((decide (o0.2.2.1 ≥ 0)) && (decide (o0.2.2.1 < (List.length (o5 ++ [(x6.1, x7.2.1, ())]) : Int)))) && (x21.1 == o0.1)) == true) then ((o5 ++ [(x6.1, x7.2.1, ())]))[(o0.2.2.1 : Int).toNat]? else some (0, ([] : (List UInt8)), ()))).bind fun x22 =>
                      bif ((!((0 == x6.1) && ((([] : List UInt8) == x7.2.1) && ((0 == (List.length o5 : Int)) && true)))) || (!(((Option.isSome (mapAt G31 (.int .i64) (o0.1, o0.2.1, ()) o4)) && ((Option.getD (mapAt G31 (.int .i64) (o0.1, o0.2.1, ()) o4) 0) == o0.2.2.1)) == ((((decide (o0.2.2.1 ≥ 0)) && (decide (o0.2.2.1 < (List.length (o5 ++ [(x6.1, x7.2.1, ())]) : Int)))) && (x21.1 == o0.1)) && (x22.2.1 == o0.2.1))))) then
                        k2
                      else
                        kn (IntKind.i64.wrap (t8 + 1)) o3 o4 (o5 ++ [(x6.1, x7.2.1, ())])))
                else
                  bif ((!((0 == x6.1) && ((([] : List UInt8) == x7.2.1) && ((0 == (List.length o5 : Int)) && true)))) || (!(((Option.isSome (mapAt G31 (.int .i64) (o0.1, o0.2.1, ()) o4)) && ((Option.getD (mapAt G31 (.int .i64) (o0.1, o0.2.1, ()) o4) 0) == o0.2.2.1)) == false))) then
                    k2
                  else
                    kn (IntKind.i64.wrap (t8 + 1)) o3 o4 (o5 ++ [(x6.1, x7.2.1, ())])
              else
                bif ((!((0 == x6.1) && ((([] : List UInt8) == x7.2.1) && ((0 == (List.length o5 : Int)) && true)))) == false) then
                  asrt (((decide (o0.2.2.1 ≥ 0)) && (decide (o0.2.2.1 < (List.length (o5 ++ [(x6.1, x7.2.1, ())]) : Int)))) == true) (decide (0 ≤ o0.2.2.1) && decide (o0.2.2.1 < (List.length (o5 ++ [(x6.1, x7.2.1, ())]) : Int))) (
                    ((bif (((decide (o0.2.2.1 ≥ 0)) && (decide (o0.2.2.1 < (List.length (o5 ++ [(x6.1, x7.2.1, ())]) : Int)))) == true) then ((o5 ++ [(x6.1, x7.2.1, ())]))[(o0.2.2.1 : Int).toNat]? else some (0, ([] : (List UInt8)), ()))).bind fun x23 =>
                    asrt ((((decide (o0.2.2.1 ≥ 0)) && (decide (o0.2.2.1 < (List.length (o5 ++ [(x6.1, x7.2.1, ())]) : Int)))) && (x23.1 == o0.1)) == true) (decide (0 ≤ o0.2.2.1) && decide (o0.2.2.1 < (List.length (o5 ++ [(x6.1, x7.2.1, ())]) : Int))) (
                      ((bif ((((decide (o0.2.2.1 ≥ 0)) && (decide (o0.2.2.1 < (List.length (o5 ++ [(x6.1, x7.2.1, ())]) : Int)))) && (x23.1 == o0.1)) == true) then ((o5 ++ [(x6.1, x7.2.1, ())]))[(o0.2.2.1 : Int).toNat]? else some (0, ([] : (List UInt8)), ()))).bind fun x24 =>
                      bif ((!((0 == x6.1) && ((([] : List UInt8) == x7.2.1) && ((0 == (List.length o5 : Int)) && true)))) || (!(false == ((((decide (o0.2.2.1 ≥ 0)) && (decide (o0.2.2.1 < (List.length (o5 ++ [(x6.1, x7.2.1, ())]) : Int)))) && (x23.1 == o0.1)) && (x24.2.1 == o0.2.1))))) then
                        k2
                      else
                        kn (IntKind.i64.wrap (t8 + 1)) o3 o4 (o5 ++ [(x6.1, x7.2.1, ())])))
                else
                  bif ((!((0 == x6.1) && ((([] : List UInt8) == x7.2.1) && ((0 == (List.length o5 : Int)) && true)))) || (!(false == false))) then
                    k2
                  else
                    kn (IntKind.i64.wrap (t8 + 1)) o3 o4 (o5 ++ [(x6.1, x7.2.1, ())]))) (fun y12 =>
            bif (decide (y12 < 0)) then
              asrt true (decide (List.length (α := T31) o5 + List.length (α := T31) [(x6.1, x7.2.1, ())] ≤ LIM)) (
                bif ((!((0 == x6.1) && ((([] : List UInt8) == x7.2.1) && ((0 == (List.length o5 : Int)) && true)))) == false) then
                  bif ((!((0 == x6.1) && ((([] : List UInt8) == x7.2.1) && ((0 == (List.length o5 : Int)) && true)))) == false) then
                    asrt (((decide (o0.2.2.1 ≥ 0)) && (decide (o0.2.2.1 < (List.length (o5 ++ [(x6.1, x7.2.1, ())]) : Int)))) == true) (decide (0 ≤ o0.2.2.1) && decide (o0.2.2.1 < (List.length (o5 ++ [(x6.1, x7.2.1, ())]) : Int))) (
                      ((bif (((decide (o0.2.2.1 ≥ 0)) && (decide (o0.2.2.1 < (List.length (o5 ++ [(x6.1, x7.2.1, ())]) : Int)))) == true) then ((o5 ++ [(x6.1, x7.2.1, ())]))[(o0.2.2.1 : Int).toNat]? else some (0, ([] : (List UInt8)), ()))).bind fun x13 =>
                      asrt ((((decide (o0.2.2.1 ≥ 0)) && (decide (o0.2.2.1 < (List.length (o5 ++ [(x6.1, x7.2.1, ())]) : Int)))) && (x13.1 == o0.1)) == true) (decide (0 ≤ o0.2.2.1) && decide (o0.2.2.1 < (List.length (o5 ++ [(x6.1, x7.2.1, ())]) : Int))) (
                        ((bif ((((decide (o0.2.2.1 ≥ 0)) && (decide (o0.2.2.1 < (List.length (o5 ++ [(x6.1, x7.2.1, ())]) : Int)))) && (x13.1 == o0.1)) == true) then ((o5 ++ [(x6.1, x7.2.1, ())]))[(o0.2.2.1 : Int).toNat]? else some (0, ([] : (List UInt8)), ()))).bind fun x14 =>
                        bif ((!((0 == x6.1) && ((([] : List UInt8) == x7.2.1) && ((0 == (List.length o5 : Int)) && true)))) || (!(((Option.isSome (mapAt G31 (.int .i64) (o0.1, o0.2.1, ()) o4)) && ((Option.getD (mapAt G31 (.int .i64) (o0.1, o0.2.1, ()) o4) 0) == o0.2.2.1)) == ((((decide (o0.2.2.1 ≥ 0)) && (decide (o0.2.2.1 < (List.length (o5 ++ [(x6.1, x7.2.1, ())]) : Int)))) && (x13.1 == o0.1)) && (x14.2.1 == o0.2.1))))) then
                          k2
                        else
                          kn (IntKind.i64.wrap (t8 + 1)) o3 o4 (o5 ++ [(x6.1, x7.2.1, ())])))
                  else
                    bif ((!((0 == x6.1) && ((([] : List UInt8) == x7.2.1) && ((0 == (List.length o5 : Int)) && true)))) || (!(((Option.isSome (mapAt G31 (.int .i64) (o0.1, o0.2.1, ()) o4)) && ((Option.getD (mapAt G31 (.int .i64) (o0.1, o0.2.1, ()) o4) 0) == o0.2.2.1)) == false))) then
                      k2
                    else
                      kn (IntKind.i64.wrap (t8 + 1)) o3 o4 (o5 ++ [(x6.1, x7.2.1, ())])
                else
                  bif ((!((0 == x6.1) && ((([] : List UInt8) == x7.2.1) && ((0 == (List.length o5 : Int)) && true)))) == false) then
                    asrt (((decide (o0.2.2.1 ≥ 0)) && (decide (o0.2.2.1 < (List.length (o5 ++ [(x6.1, x7.2.1, ())]) : Int)))) == true) (decide (0 ≤ o0.2.2.1) && decide (o0.2.2.1 < (List.length (o5 ++ [(x6.1, x7.2.1, ())]) : Int))) (
                      ((bif (((decide (o0.2.2.1 ≥ 0)) && (decide (o0.2.2.1 < (List.length (o5 ++ [(x6.1, x7.2.1, ())]) : Int)))) == true) then ((o5 ++ [(x6.1, x7.2.1, ())]))[(o0.2.2.1 : Int).toNat]? else some (0, ([] : (List UInt8)), ()))).bind fun x15 =>
                      asrt ((((decide (o0.2.2.1 ≥ 0)) && (decide (o0.2.2.1 < (List.length (o5 ++ [(x6.1, x7.2.1, ())]) : Int)))) && (x15.1 == o0.1)) == true) (decide (0 ≤ o0.2.2.1) && decide (o0.2.2.1 < (List.length (o5 ++ [(x6.1, x7.2.1, ())]) : Int))) (
                        ((bif ((((decide (o0.2.2.1 ≥ 0)) && (decide (o0.2.2.1 < (List.length (o5 ++ [(x6.1, x7.2.1, ())]) : Int)))) && (x15.1 == o0.1)) == true) then ((o5 ++ [(x6.1, x7.2.1, ())]))[(o0.2.2.1 : Int).toNat]? else some (0, ([] : (List UInt8)), ()))).bind fun x16 =>
                        bif ((!((0 == x6.1) && ((([] : List UInt8) == x7.2.1) && ((0 == (List.length o5 : Int)) && true)))) || (!(false == ((((decide (o0.2.2.1 ≥ 0)) && (decide (o0.2.2.1 < (List.length (o5 ++ [(x6.1, x7.2.1, ())]) : Int)))) && (x15.1 == o0.1)) && (x16.2.1 == o0.2.1))))) then
                          k2
                        else
                          kn (IntKind.i64.wrap (t8 + 1)) o3 o4 (o5 ++ [(x6.1, x7.2.1, ())])))
                  else
                    bif ((!((0 == x6.1) && ((([] : List UInt8) == x7.2.1) && ((0 == (List.length o5 : Int)) && true)))) || (!(false == false))) then
                      k2
                    else
                      kn (IntKind.i64.wrap (t8 + 1)) o3 o4 (o5 ++ [(x6.1, x7.2.1, ())]))
            else
              bif ((!((0 == x6.1) && ((([] : List UInt8) == x7.2.1) && ((0 == y12) && true)))) == false) then
                bif ((!((0 == x6.1) && ((([] : List UInt8) == x7.2.1) && ((0 == y12) && true)))) == false) then
                  asrt (((decide (o0.2.2.1 ≥ 0)) && (decide (o0.2.2.1 < (List.length o5 : Int)))) == true) (decide (0 ≤ o0.2.2.1) && decide (o0.2.2.1 < (List.length o5 : Int))) (
                    ((bif (((decide (o0.2.2.1 ≥ 0)) && (decide (o0.2.2.1 < (List.length o5 : Int)))) == true) then (o5)[(o0.2.2.1 : Int).toNat]? else some (0, ([] : (List UInt8)), ()))).bind fun x17 =>
                    asrt ((((decide (o0.2.2.1 ≥ 0)) && (decide (o0.2.2.1 < (List.length o5 : Int)))) && (x17.1 == o0.1)) == true) (decide (0 ≤ o0.2.2.1) && decide (o0.2.2.1 < (List.length o5 : Int))) (
                      ((bif ((((decide (o0.2.2.1 ≥ 0)) && (decide (o0.2.2.1 < (List.length o5 : Int)))) && (x17.1 == o0.1)) == true) then (o5)[(o0.2.2.1 : Int).toNat]? else some (0, ([] : (List UInt8)), ()))).bind fun x18 =>
                      bif ((!((0 == x6.1) && ((([] : List UInt8) == x7.2.1) && ((0 == y12) && true)))) || (!(((Option.isSome (mapAt G31 (.int .i64) (o0.1, o0.2.1, ()) o4)) && ((Option.getD (mapAt G31 (.int .i64) (o0.1, o0.2.1, ()) o4) 0) == o0.2.2.1)) == ((((decide (o0.2.2.1 ≥ 0)) && (decide (o0.2.2.1 < (List.length o5 : Int)))) && (x17.1 == o0.1)) && (x18.2.1 == o0.2.1))))) then
                        k2
                      else
                        kn (IntKind.i64.wrap (t8 + 1)) o3 o4 o5))
                else
                  bif ((!((0 == x6.1) && ((([] : List UInt8) == x7.2.1) && ((0 == y12) && true)))) || (!(((Option.isSome (mapAt G31 (.int .i64) (o0.1, o0.2.1, ()) o4)) && ((Option.getD (mapAt G31 (.int .i64) (o0.1, o0.2.1, ()) o4) 0) == o0.2.2.1)) == false))) then
                    k2
                  else
                    kn (IntKind.i64.wrap (t8 + 1)) o3 o4 o5
              else
                bif ((!((0 == x6.1) && ((([] : List UInt8) == x7.2.1) && ((0 == y12) && true)))) == false) then
                  asrt (((decide (o0.2.2.1 ≥ 0)) && (decide (o0.2.2.1 < (List.length o5 : Int)))) == true) (decide (0 ≤ o0.2.2.1) && decide (o0.2.2.1 < (List.length o5 : Int))) (
                    ((bif (((decide (o0.2.2.1 ≥ 0)) && (decide (o0.2.2.1 < (List.length o5 : Int)))) == true) then (o5)[(o0.2.2.1 : Int).toNat]? else some (0, ([] : (List UInt8)), ()))).bind fun x19 =>
                    asrt ((((decide (o0.2.2.1 ≥ 0)) && (decide (o0.2.2.1 < (List.length o5 : Int)))) && (x19.1 == o0.1)) == true) (decide (0 ≤ o0.2.2.1) && decide (o0.2.2.1 < (List.length o5 : Int))) (
                      ((bif ((((decide (o0.2.2.1 ≥ 0)) && (decide (o0.2.2.1 < (List.length o5 : Int)))) && (x19.1 == o0.1)) == true) then (o5)[(o0.2.2.1 : Int).toNat]? else some (0, ([] : (List UInt8)), ()))).bind fun x20 =>
                      bif ((!((0 == x6.1) && ((([] : List UInt8) == x7.2.1) && ((0 == y12) && true)))) || (!(false == ((((decide (o0.2.2.1 ≥ 0)) && (decide (o0.2.2.1 < (List.length o5 : Int)))) && (x19.1 == o0.1)) && (x20.2.1 == o0.2.1))))) then
                        k2
                      else
                        kn (IntKind.i64.wrap (t8 + 1)) o3 o4 o5))
                else
                  bif ((!((0 == x6.1) && ((([] : List UInt8) == x7.2.1) && ((0 == y12) && true)))) || (!(false == false))) then
                    k2
                  else
                    kn (IntKind.i64.wrap (t8 + 1)) o3 o4 o5) FUEL 0
    else
      bif (!(Option.isSome (mapAt G31 (.int .i64) (x3.1, x4.2.1, ()) o4))) then
        asrt true (decide (List.length (α := T31) o3 + List.length (α := T31) [(x3.1, x4.2.1, ())] ≤ LIM)) (
          asrt true (Option.isNone (mapAt G31 (.int .i64) (x3.1, x4.2.1, ()) o4)) (
            (idx t0 t8).bind fun x25 =>
            (idx t0 t8).bind fun x26 =>
            bif ((decide (x25.1 < 0)) || (decide (x25.1 ≥ 200))) then
              bif ((!((x3.1 == 0) && ((x4.2.1 == ([] : List UInt8)) && (((List.length o3 : Int) == 0) && true)))) == false) then
                bif ((!((x3.1 == 0) && ((x4.2.1 == ([] : List UInt8)) && (((List.length o3 : Int) == 0) && true)))) == false) then
                  asrt (((decide (o0.2.2.1 ≥ 0)) && (decide (o0.2.2.1 < (List.length o5 : Int)))) == true) (decide (0 ≤ o0.2.2.1) && decide (o0.2.2.1 < (List.length o5 : Int))) (
                    ((bif (((decide (o0.2.2.1 ≥ 0)) && (decide (o0.2.2.1 < (List.length o5 : Int)))) == true) then (o5)[(o0.2.2.1 : Int).toNat]? else some (0, ([] : (List UInt8)), ()))).bind fun x27 =>
                    asrt ((((decide (o0.2.2.1 ≥ 0)) && (decide (o0.2.2.1 < (List.length o5 : Int)))) && (x27.1 == o0.1)) == true) (decide (0 ≤ o0.2.2.1) && decide (o0.2.2.1 < (List.length o5 : Int))) (
                      ((bif ((((decide (o0.2.2.1 ≥ 0)) && (decide (o0.2.2.1 < (List.length o5 : Int)))) && (x27.1 == o0.1)) == true) then (o5)[(o0.2.2.1 : Int).toNat]? else some (0, ([] : (List UInt8)), ()))).bind fun x28 =>
                      bif ((!((x3.1 == 0) && ((x4.2.1 == ([] : List UInt8)) && (((List.length o3 : Int) == 0) && true)))) || (!(((Option.isSome (mapAt G31 (.int .i64) (o0.1, o0.2.1, ()) (o4 ++ [((x3.1, x4.2.1, ()), (List.length o3 : Int))]))) && ((Option.getD (mapAt G31 (.int .i64) (o0.1, o0.2.1, ()) (o4 ++ [((x3.1, x4.2.1, ()), (List.length o3 : Int))])) 0) == o0.2.2.1)) == ((((decide (o0.2.2.1 ≥ 0)) && (decide (o0.2.2.1 < (List.length o5 : Int)))) && (x27.1 == o0.1)) && (x28.2.1 == o0.2.1))))) then
                        k2
                      else
                        kn (IntKind.i64.wrap (t8 + 1)) (o3 ++ [(x3.1, x4.2.1, ())]) (o4 ++ [((x3.1, x4.2.1, ()), (List.length o3 : Int))]) o5))
                else
                  bif ((!((x3.1 == 0) && ((x4.2.1 == ([] : List UInt8)) && (((List.length o3 : Int) == 0) && true)))) || (!(((Option.isSome (mapAt G31 (.int .i64) (o0.1, o0.2.1, ()) (o4 ++ [((x3.1, x4.2.1, ()), (List.length o3 : Int))]))) && ((Option.getD (mapAt G31 (.int .i64) (o0.1, o0.2.1, ()) (o4 ++ [((x3.1, x4.2.1, ()), (List.length o3 : Int))])) 0) == o0.2.2.1)) == false))) then
                    k2
                  else
                    kn (IntKind.i64.wrap (t8 + 1)) (o3 ++ [(x3.1, x4.2.1, ())]) (o4 ++ [((x3.1, x4.2.1, ()), (List.length o3 : Int))]) o5
              else
                bif ((!((x3.1 == 0) && ((x4.2.1 == ([] : List UInt8)) && (((List.length o3 : Int) == 0) && true)))) == false) then
                  asrt (((decide (o0.2.2.1 ≥ 0)) && (decide (o0.2.2.1 < (List.length o5 : Int)))) == true) (decide (0 ≤ o0.2.2.1) && decide (o0.2.2.1 < (List.length o5 : Int))) (
                    ((bif (((decide (o0.2.2.1 ≥ 0)) && (decide (o0.2.2.1 < (List.length o5 : Int)))) == true) then (o5)[(o0.2.2.1 : Int).toNat]? else some (0, ([] : (List UInt8)), ()))).bind fun x29 =>
                    asrt ((((decide (o0.2.2.1 ≥ 0)) && (decide (o0.2.2.1 < (List.length o5 : Int)))) && (x29.1 == o0.1)) == true) (decide (0 ≤ o0.2.2.1) && decide (o0.2.2.1 < (List.length o5 : Int))) (
                      ((bif ((((decide (o0.2.2.1 ≥ 0)) && (decide (o0.2.2.1 < (List.length o5 : Int)))) && (x29.1 == o0.1)) == true) then (o5)[(o0.2.2.1 : Int).toNat]? else some (0, ([] : (List UInt8)), ()))).bind fun x30 =>
                      bif ((!((x3.1 == 0) && ((x4.2.1 == ([] : List UInt8)) && (((List.length o3 : Int) == 0) && true)))) || (!(false == ((((decide (o0.2.2.1 ≥ 0)) && (decide (o0.2.2.1 < (List.length o5 : Int)))) && (x29.1 == o0.1)) && (x30.2.1 == o0.2.1))))) then
                        k2
                      else
                        kn (IntKind.i64.wrap (t8 + 1)) (o3 ++ [(x3.1, x4.2.1, ())]) (o4 ++ [((x3.1, x4.2.1, ()), (List.length o3 : Int))]) o5))
                else
                  bif ((!((x3.1 == 0) && ((x4.2.1 == ([] : List UInt8)) && (((List.length o3 : Int) == 0) && true)))) || (!(false == false))) then
                    k2
                  else
                    kn (IntKind.i64.wrap (t8 + 1)) (o3 ++ [(x3.1, x4.2.1, ())]) (o4 ++ [((x3.1, x4.2.1, ()), (List.length o3 : Int))]) o5
            else
              l5_2 x25.1 x26.2.1 o5 (
                  asrt true (decide (List.length (α := T31) o5 + List.length (α := T31) [(x25.1, x26.2.1, ())] ≤ LIM)) (
                    bif ((!((x3.1 == x25.1) && ((x4.2.1 == x26.2.1) && (((List.length o3 : Int) == (List.length o5 : Int)) && true)))) == false) then
                      bif ((!((x3.1 == x25.1) && ((x4.2.1 == x26.2.1) && (((List.length o3 : Int) == (List.length o5 : Int)) && true)))) == false) then
                        asrt (((decide (o0.2.2.1 ≥ 0)) && (decide (o0.2.2.1 < (List.length (o5 ++ [(x25.1, x26.2.1, ())]) : Int)))) == true) (decide (0 ≤ o0.2.2.1) && decide (o0.2.2.1 < (List.length (o5 ++ [(x25.1, x26.2.1, ())]) : Int))) (
                          ((bif (((decide (o0.2.2.1 ≥ 0)) && (decide (o0.2.2.1 < (List.length (o5 ++ [(x25.1, x26.2.1, ())]) : Int)))) == true) then ((o5 ++ [(x25.1, x26.2.1, ())]))[(o0.2.2.1 : Int).toNat]? else some (0, ([] : (List UInt8)), ()))).bind fun x42 =>
                          asrt ((((decide (o0.2.2.1 ≥ 0)) && (decide (o0.2.2.1 < (List.length (o5 ++ [(x25.1, x26.2.1, ())]) : Int)))) && (x42.1 == o0.1)) == true) (decide (0 ≤ o0.2.2.1) && decide (o0.2.2.1 < (List.length (o5 ++ [(x25.1, x26.2.1, ())]) : Int))) (
                            ((bif ((((decide (o0.2.2.1 ≥ 0)) && (decide (o0.2.2.1 < (List.length (o5 ++ [(x25.1, x26.2.1, ())]) : Int)))) && (x42.1 == o0.1)) == true) then ((o5 ++ [(x25.1, x26.2.1, ())]))[(o0.2.2.1 : Int).toNat]? else some (0, ([] : (List UInt8)), ()))).bind fun x43 =>
                            bif ((!((x3.1 == x25.1) && ((x4.2.1 == x26.2.1) && (((List.length o3 : Int) == (List.length o5 : Int)) && true)))) || (!(((Option.isSome (mapAt G31 (.int .i64) (o0.1, o0.2.1, ()) (o4 ++ [((x3.1, x4.2.1, ()), (List.length o3 : Int))]))) && ((Option.getD (mapAt G31 (.int .i64) (o0.1, o0.2.1, ()) (o4 ++ [((x3.1, x4.2.1, ()), (List.length o3 : Int))])) 0) == o0.2.2.1)) == ((((decide (o0.2.2.1 ≥ 0)) && (decide (o0.2.2.1 < (List.length (o5 ++ [(x25.1, x26.2.1, ())]) : Int)))) && (x42.1 == o0.1)) && (x43.2.1 == o0.2.1))))) then
                              k2
                            else
                              kn (IntKind.i64.wrap (t8 + 1)) (o3 ++ [(x3.1, x4.2.1, ())]) (o4 ++ [((x3.1, x4.2.1, ()), (List.length o3 : Int))]) (o5 ++ [(x25.1, x26.2.1, ())])))
                      else
                        bif ((!((x3.1 == x25.1) && ((x4.2.1 == x26.2.1) && (((List.length o3 : Int) == (List.length o5 : Int)) && true)))) || (!(((Option.isSome (mapAt G31 (.int .i64) (o0.1, o0.2.1, ()) (o4 ++ [((x3.1, x4.2.1, ()), (List.length o3 : Int))]))) && ((Option.getD (mapAt G31 (.int .i64) (o0.1, o0.2.1, ()) (o4 ++ [((x3.1, x4.2.1, ()), (List.length o3 : Int))])) 0) == o0.2.2.1)) == false))) then
                          k2
                        else
                          kn (IntKind.i64.wrap (t8 + 1)) (o3 ++ [(x3.1, x4.2.1, ())]) (o4 ++ [((x3.1, x4.2.1, ()), (List.length o3 : Int))]) (o5 ++ [(x25.1, x26.2.1, ())])
                    else
                      bif ((!((x3.1 == x25.1) && ((x4.2.1 == x26.2.1) && (((List.length o3 : Int) == (List.length o5 : Int)) && true)))) == false) then
                        asrt (((decide (o0.2.2.1 ≥ 0)) && (decide (o0.2.2.1 < (List.length (o5 ++ [(x25.1, x26.2.1, ())]) : Int)))) == true) (decide (0 ≤ o0.2.2.1) && decide (o0.2.2.1 < (List.length (o5 ++ [(x25.1, x26.2.1, ())]) : Int))) (
                          ((bif (((decide (o0.2.2.1 ≥ 0)) && (decide (o0.2.2.1 < (List.length (o5 ++ [(x25.1, x26.2.1, ())]) : Int)))) == true) then ((o5 ++ [(x25.1, x26.2.1, ())]))[(o0.2.2.1 : Int).toNat]? else some (0, ([] : (List UInt8)), ()))).bind fun x44 =>
                          asrt ((((decide (o0.2.2.1 ≥ 0)) && (decide (o0.2.2.1 < (List.length (o5 ++ [(x25.1, x26.2.1, ())]) : Int)))) && (x44.1 == o0.1)) == true) (decide (0 ≤ o0.2.2.1) && decide (o0.2.2.1 < (List.length (o5 ++ [(x25.1, x26.2.1, ())]) : Int))) (
                            ((bif ((((decide (o0.2.2.1 ≥ 0)) && (decide (o0.2.2.1 < (List.length (o5 ++ [(x25.1, x26.2.1, ())]) : Int)))) && (x44.1 == o0.1)) == true) then ((o5 ++ [(x25.1, x26.2.1, ())]))[(o0.2.2.1 : Int).toNat]? else some (0, ([] : (List UInt8)), ()))).bind fun x45 =>
                            bif ((!((x3.1 == x25.1) && ((x4.2.1 == x26.2.1) && (((List.length o3 : Int) == (List.length o5 : Int)) && true)))) || (!(false == ((((decide (o0.2.2.1 ≥ 0)) && (decide (o0.2.2.1 < (List.length (o5 ++ [(x25.1, x26.2.1, ())]) : Int)))) && (x44.1 == o0.1)) && (x45.2.1 == o0.2.1))))) then
                              k2
                            else
                              kn (IntKind.i64.wrap (t8 + 1)) (o3 ++ [(x3.1, x4.2.1, ())]) (o4 ++ [((x3.1, x4.2.1, ()), (List.length o3 : Int))]) (o5 ++ [(x25.1, x26.2.1, ())])))
                      else
                        bif ((!((x3.1 == x25.1) && ((x4.2.1 == x26.2.1) && (((List.length o3 : Int) == (List.length o5 : Int)) && true)))) || (!(false == false))) then
                          k2
                        else
                          kn (IntKind.i64.wrap (t8 + 1)) (o3 ++ [(x3.1, x4.2.1, ())]) (o4 ++ [((x3.1, x4.2.1, ()), (List.length o3 : Int))]) (o5 ++ [(x25.1, x26.2.1, ())]))) (fun y33 =>
                  bif (decide (y33 < 0)) then
                    asrt true (decide (List.length (α := T31) o5 + List.length (α := T31) [(x25.1, x26.2.1, ())] ≤ LIM)) (
                      bif ((!((x3.1 == x25.1) && ((x4.2.1 == x26.2.1) && (((List.length o3 : Int) == (List.length o5 : Int)) && true)))) == false) then
                        bif ((!((x3.1 == x25.1) && ((x4.2.1 == x26.2.1) && (((List.length o3 : Int) == (List.length o5 : Int)) && true)))) == false) then
                          asrt (((decide (o0.2.2.1 ≥ 0)) && (decide (o0.2.2.1 < (List.length (o5 ++ [(x25.1, x26.2.1, ())]) : Int)))) == true) (decide (0 ≤ o0.2.2.1) && decide (o0.2.2.1 < (List.length (o5 ++ [(x25.1, x26.2.1, ())]) : Int))) (
                            ((bif (((decide (o0.2.2.1 ≥ 0)) && (decide (o0.2.2.1 < (List.length (o5 ++ [(x25.1, x26.2.1, ())]) : Int)))) == true) then ((o5 ++ [(x25.1, x26.2.1, ())]))[(o0.2.2.1 : Int).toNat]? else some (0, ([] : (List UInt8)), ()))).bind fun x34 =>
                            asrt ((((decide (o0.2.2.1 ≥ 0)) && (decide (o0.2.2.1 < (List.length (o5 ++ [(x25.1, x26.2.1, ())]) : Int)))) && (x34.1 == o0.1)) == true) (decide (0 ≤ o0.2.2.1) && decide (o0.2.2.1 < (List.length (o5 ++ [(x25.1, x26.2.1, ())]) : Int))) (
                              ((bif ((((decide (o0.2.2.1 ≥ 0)) && (decide (o0.2.2.1 < (List.length (o5 ++ [(x25.1, x26.2.1, ())]) : Int)))) && (x34.1 == o0.1)) == true) then ((o5 ++ [(x25.1, x26.2.1, ())]))[(o0.2.2.1 : Int).toNat]? else some (0, ([] : (List UInt8)), ()))).bind fun x35 =>
                              bif ((!((x3.1 == x25.1) && ((x4.2.1 == x26.2.1) && (((List.length o3 : Int) == (List.length o5 : Int)) && true)))) || (!(((Option.isSome (mapAt G31 (.int .i64) (o0.1, o0.2.1, ()) (o4 ++ [((x3.1, x4.2.1, ()), (List.length o3 : Int))]))) && ((Option.getD (mapAt G31 (.int .i64) (o0.1, o0.2.1, ()) (o4 ++ [((x3.1, x4.2.1, ()), (List.length o3 : Int))])) 0) == o0.2.2.1)) == ((((decide (o0.2.2.1 ≥ 0)) && (decide (o0.2.2.1 < (List.length (o5 ++ [(x25.1, x26.2.1, ())]) : Int)))) && (x34.1 == o0.1)) && (x35.2.1 == o0.2.1))))) then
                                k2
                              else
                                kn (IntKind.i64.wrap (t8 + 1)) (o3 ++ [(x3.1, x4.2.1, ())]) (o4 ++ [((x3.1, x4.2.1, ()), (List.length o3 : Int))]) (o5 ++ [(x25.1, x26.2.1, ())])))
                        else
                          bif ((!((x3.1 == x25.1) && ((x4.2.1 == x26.2.1) && (((List.length o3 : Int) == (List.length o5 : Int)) && true)))) || (!(((Option.isSome (mapAt G31 (.int .i64) (o0.1, o0.2.1, ()) (o4 ++ [((x3.1, x4.2.1, ()), (List.length o3 : Int))]))) && ((Option.getD (mapAt G31 (.int .i64) (o0.1, o0.2.1, ()) (o4 ++ [((x3.1, x4.2.1, ()), (List.length o3 : Int))])) 0) == o0.2.2.1)) == false))) then
                            k2
                          else
                            kn (IntKind.i64.wrap (t8 + 1)) (o3 ++ [(x3.1, x4.2.1, ())]) (o4 ++ [((x3.1, x4.2.1, ()), (List.length o3 : Int))]) (o5 ++ [(x25.1, x26.2.1, ())])
                      else
                        bif ((!((x3.1 == x25.1) && ((x4.2.1 == x26.2.1) && (((List.length o3 : Int) == (List.length o5 : Int)) && true)))) == false) then
                          asrt (((decide (o0.2.2.1 ≥ 0)) && (decide (o0.2.2.1 < (List.length (o5 ++ [(x25.1, x26.2.1, ())]) : Int)))) == true) (decide (0 ≤ o0.2.2.1) && decide (o0.2.2.1 < (List.length (o5 ++ [(x25.1, x26.2.1, ())]) : Int))) (
                            ((bif (((decide (o0.2.2.1 ≥ 0)) && (decide (o0.2.2.1 < (List.length (o5 ++ [(x25.1, x26.2.1, ())]) : Int)))) == true) then ((o5 ++ [(x25.1, x26.2.1, ())]))[(o0.2.2.1 : Int).toNat]? else some (0, ([] : (List UInt8)), ()))).bind fun x36 =>
                            asrt ((((decide (o0.2.2.1 ≥ 0)) && (decide (o0.2.2.1 < (List.length (o5 ++ [(x25.1, x26.2.1, ())]) : Int)))) && (x36.1 == o0.1)) == true) (decide (0 ≤ o0.2.2.1) && decide (o0.2.2.1 < (List.length (o5 ++ [(x25.1, x26.2.1, ())]) : Int))) (
                              ((bif ((((decide (o0.2.2.1 ≥ 0)) && (decide (o0.2.2.1 < (List.length (o5 ++ [(x25.1, x26.2.1, ())]) : Int)))) && (x36.1 == o0.1)) == true) then ((o5 ++ [(x25.1, x26.2.1, ())]))[(o0.2.2.1 : Int).toNat]? else some (0, ([] : (List UInt8)), ()))).bind fun x37 =>
                              bif ((!((x3.1 == x25.1) && ((x4.2.1 == x26.2.1) && (((List.length o3 : Int) == (List.length o5 : Int)) && true)))) || (!(false == ((((decide (o0.2.2.1 ≥ 0)) && (decide (o0.2.2.1 < (List.length (o5 ++ [(x25.1, x26.2.1, ())]) : Int)))) && (x36.1 == o0.1)) && (x37.2.1 == o0.2.1))))) then
                                k2
                              else
                                kn (IntKind.i64.wrap (t8 + 1)) (o3 ++ [(x3.1, x4.2.1, ())]) (o4 ++ [((x3.1, x4.2.1, ()), (List.length o3 : Int))]) (o5 ++ [(x25.1, x26.2.1, ())])))
                        else
                          bif ((!((x3.1 == x25.1) && ((x4.2.1 == x26.2.1) && (((List.length o3 : Int) == (List.length o5 : Int)) && true)))) || (!(false == false))) then
                            k2
                          else
                            kn (IntKind.i64.wrap (t8 + 1)) (o3 ++ [(x3.1, x4.2.1, ())]) (o4 ++ [((x3.1, x4.2.1, ()), (List.length o3 : Int))]) (o5 ++ [(x25.1, x26.2.1, ())]))
                  else
                    bif ((!((x3.1 == x25.1) && ((x4.2.1 == x26.2.1) && (((List.length o3 : Int) == y33) && true)))) == false) then
                      bif ((!((x3.1 == x25.1) && ((x4.2.1 == x26.2.1) && (((List.length o3 : Int) == y33) && true)))) == false) then
                        asrt (((decide (o0.2.2.1 ≥ 0)) && (decide (o0.2.2.1 < (List.length o5 : Int)))) == true) (decide (0 ≤ o0.2.2.1) && decide (o0.2.2.1 < (List.length o5 : Int))) (
                          ((bif (((decide (o0.2.2.1 ≥ 0)) && (decide (o0.2.2.1 < (List.length o5 : Int)))) == true) then (o5)[(o0.2.2.1 : Int).toNat]? else some (0, ([] : (List UInt8)), ()))).bind fun x38 =>
                          asrt ((((decide (o0.2.2.1 ≥ 0)) && (decide (o0.2.2.1 < (List.length o5 : Int)))) && (x38.1 == o0.1)) == true) (decide (0 ≤ o0.2.2.1) && decide (o0.2.2.1 < (List.length o5 : Int))) (
                            ((bif ((((decide (o0.2.2.1 ≥ 0)) && (decide (o0.2.2.1 < (List.length o5 : Int)))) && (x38.1 == o0.1)) == true) then (o5)[(o0.2.2.1 : Int).toNat]? else some (0, ([] : (List UInt8)), ()))).bind fun x39 =>
                            bif ((!((x3.1 == x25.1) && ((x4.2.1 == x26.2.1) && (((List.length o3 : Int) == y33) && true)))) || (!(((Option.isSome (mapAt G31 (.int .i64) (o0.1, o0.2.1, ()) (o4 ++ [((x3.1, x4.2.1, ()), (List.length o3 : Int))]))) && ((Option.getD (mapAt G31 (.int .i64) (o0.1, o0.2.1, ()) (o4 ++ [((x3.1, x4.2.1, ()), (List.length o3 : Int))])) 0) == o0.2.2.1)) == ((((decide (o0.2.2.1 ≥ 0)) && (decide (o0.2.2.1 < (List.length o5 : Int)))) && (x38.1 == o0.1)) && (x39.2.1 == o0.2.1))))) then
                              k2
                            else
                              kn (IntKind.i64.wrap (t8 + 1)) (o3 ++ [(x3.1, x4.2.1, ())]) (o4 ++ [((x3.1, x4.2.1, ()), (List.length o3 : Int))]) o5))
                      else
                        bif ((!((x3.1 == x25.1) && ((x4.2.1 == x26.2.1) && (((List.length o3 : Int) == y33) && true)))) || (!(((Option.isSome (mapAt G31 (.int .i64) (o0.1, o0.2.1, ()) (o4 ++ [((x3.1, x4.2.1, ()), (List.length o3 : Int))]))) && ((Option.getD (mapAt G31 (.int .i64) (o0.1, o0.2.1, ()) (o4 ++ [((x3.1, x4.2.1, ()), (List.length o3 : Int))])) 0) == o0.2.2.1)) == false))) then
                          k2
                        else
                          kn (IntKind.i64.wrap (t8 + 1)) (o3 ++ [(x3.1, x4.2.1, ())]) (o4 ++ [((x3.1, x4.2.1, ()), (List.length o3 : Int))]) o5
                    else
                      bif ((!((x3.1 == x25.1) && ((x4.2.1 == x26.2.1) && (((List.length o3 : Int) == y33) && true)))) == false) then
                        asrt (((decide (o0.2.2.1 ≥ 0)) && (decide (o0.2.2.1 < (List.length o5 : Int)))) == true) (decide (0 ≤ o0.2.2.1) && decide (o0.2.2.1 < (List.length o5 : Int))) (
                          ((bif (((decide (o0.2.2.1 ≥ 0)) && (decide (o0.2.2.1 < (List.length o5 : Int)))) == true) then (o5)[(o0.2.2.1 : Int).toNat]? else some (0, ([] : (List UInt8)), ()))).bind fun x40 =>
                          asrt ((((decide (o0.2.2.1 ≥ 0)) && (decide (o0.2.2.1 < (List.length o5 : Int)))) && (x40.1 == o0.1)) == true) (decide (0 ≤ o0.2.2.1) && decide (o0.2.2.1 < (List.length o5 : Int))) (
                            ((bif ((((decide (o0.2.2.1 ≥ 0)) && (decide (o0.2.2.1 < (List.length o5 : Int)))) && (x40.1 == o0.1)) == true) then (o5)[(o0.2.2.1 : Int).toNat]? else some (0, ([] : (List UInt8)), ()))).bind fun x41 =>
                            bif ((!((x3.1 == x25.1) && ((x4.2.1 == x26.2.1) && (((List.length o3 : Int) == y33) && true)))) || (!(false == ((((decide (o0.2.2.1 ≥ 0)) && (decide (o0.2.2.1 < (List.length o5 : Int)))) && (x40.1 == o0.1)) && (x41.2.1 == o0.2.1))))) then
                              k2
                            else
                              kn (IntKind.i64.wrap (t8 + 1)) (o3 ++ [(x3.1, x4.2.1, ())]) (o4 ++ [((x3.1, x4.2.1, ()), (List.length o3 : Int))]) o5))
                      else
                        bif ((!((x3.1 == x25.1) && ((x4.2.1 == x26.2.1) && (((List.length o3 : Int) == y33) && true)))) || (!(false == false))) then
                          k2
                        else
                          kn (IntKind.i64.wrap (t8 + 1)) (o3 ++ [(x3.1, x4.2.1, ())]) (o4 ++ [((x3.1, x4.2.1, ()), (List.length o3 : Int))]) o5) FUEL 0))
      else
        (idx t0 t8).bind fun x46 =>
        (idx t0 t8).bind fun x47 =>
        bif ((decide (x46.1 < 0)) || (decide (x46.1 ≥ 200))) then
          bif ((!((x3.1 == 0) && ((x4.2.1 == ([] : List UInt8)) && (((Option.getD (mapAt G31 (.int .i64) (x3.1, x4.2.1, ()) o4) 0) == 0) && true)))) == false) then
            bif ((!((x3.1 == 0) && ((x4.2.1 == ([] : List UInt8)) && (((Option.getD (mapAt G31 (.int .i64) (x3.1, x4.2.1, ()) o4) 0) == 0) && true)))) == false) then
              asrt (((decide (o0.2.2.1 ≥ 0)) && (decide (o0.2.2.1 < (List.length o5 : Int)))) == true) (decide (0 ≤ o0.2.2.1) && decide (o0.2.2.1 < (List.length o5 : Int))) (
                ((bif (((decide (o0.2.2.1 ≥ 0)) && (decide (o0.2.2.1 < (List.length o5 : Int)))) == true) then (o5)[(o0.2.2.1 : Int).toNat]? else some (0, ([] : (List UInt8)), ()))).bind fun x48 =>
                asrt ((((decide (o0.2.2.1 ≥ 0)) && (decide (o0.2.2.1 < (List.length o5 : Int)))) && (x48.1 == o0.1)) == true) (decide (0 ≤ o0.2.2.1) && decide (o0.2.2.1 < (List.length o5 : Int))) (
                  ((bif ((((decide (o0.2.2.1 ≥ 0)) && (decide (o0.2.2.1 < (List.length o5 : Int)))) && (x48.1 == o0.1)) == true) then (o5)[(o0.2.2.1 : Int).toNat]? else some (0, ([] : (List UInt8)), ()))).bind fun x49 =>
                  bif ((!((x3.1 == 0) && ((x4.2.1 == ([] : List UInt8)) && (((Option.getD (mapAt G31 (.int .i64) (x3.1, x4.2.1, ()) o4) 0) == 0) && true)))) || (!(((Option.isSome (mapAt G31 (.int .i64) (o0.1, o0.2.1, ()) o4)) && ((Option.getD (mapAt G31 (.int .i64) (o0.1, o0.2.1, ()) o4) 0) == o0.2.2.1)) == ((((decide (o0.2.2.1 ≥ 0)) && (decide (o0.2.2.1 < (List.length o5 : Int)))) && (x48.1 == o0.1)) && (x49.2.1 == o0.2.1))))) then
                    k2
                  else
                    kn (IntKind.i64.wrap (t8 + 1)) o3 o4 o5))
            else
              bif ((!((x3.1 == 0) && ((x4.2.1 == ([] : List UInt8)) && (((Option.getD (mapAt G31 (.int .i64) (x3.1, x4.2.1, ()) o4) 0) == 0) && true)))) || (!(((Option.isSome (mapAt G31 (.int .i64) (o0.1, o0.2.1, ()) o4)) && ((Option.getD (mapAt G31 (.int .i64) (o0.1, o0.2.1, ()) o4) 0) == o0.2.2.1)) == false))) then
                k2
              else
                kn (IntKind.i64.wrap (t8 + 1)) o3 o4 o5
          else
            bif ((!((x3.1 == 0) && ((x4.2.1 == ([] : List UInt8)) && (((Option.getD (mapAt G31 (.int .i64) (x3.1, x4.2.1, ()) o4) 0) == 0) && true)))) == false) then
              asrt (((decide (o0.2.2.1 ≥ 0)) && (decide (o0.2.2.1 < (List.length o5 : Int)))) == true) (decide (0 ≤ o0.2.2.1) && decide (o0.2.2.1 < (List.length o5 : Int))) (
                ((bif (((decide (o0.2.2.1 ≥ 0)) && (decide (o0.2.2.1 < (List.length o5 : Int)))) == true) then (o5)[(o0.2.2.1 : Int).toNat]? else some (0, ([] : (List UInt8)), ()))).bind fun x50 =>
                asrt ((((decide (o0.2.2.1 ≥ 0)) && (decide (o0.2.2.1 < (List.length o5 : Int)))) && (x50.1 == o0.1)) == true) (decide (0 ≤ o0.2.2.1) && decide (o0.2.2.1 < (List.length o5 : Int))) (
                  ((bif ((((decide (o0.2.2.1 ≥ 0)) && (decide (o0.2.2.1 < (List.length o5 : Int)))) && (x50.1 == o0.1)) == true) then (o5)[(o0.2.2.1 : Int).toNat]? else some (0, ([] : (List UInt8)), ()))).bind fun x51 =>
                  bif ((!((x3.1 == 0) && ((x4.2.1 == ([] : List UInt8)) && (((Option.getD (mapAt G31 (.int .i64) (x3.1, x4.2.1, ()) o4) 0) == 0) && true)))) || (!(false == ((((decide (o0.2.2.1 ≥ 0)) && (decide (o0.2.2.1 < (List.length o5 : Int)))) && (x50.1 == o0.1)) && (x51.2.1 == o0.2.1))))) then
                    k2
                  else
                    kn (IntKind.i64.wrap (t8 + 1)) o3 o4 o5))
            else
              bif ((!((x3.1 == 0) && ((x4.2.1 == ([] : List UInt8)) && (((Option.getD (mapAt G31 (.int .i64) (x3.1, x4.2.1, ()) o4) 0) == 0) && true)))) || (!(false == false))) then
                k2
              else
                kn (IntKind.i64.wrap (t8 + 1)) o3 o4 o5
        else
          l5_1 x46.1 x47.2.1 o5 (
              asrt true (decide (List.length (α := T31) o5 + List.length (α := T31) [(x46.1, x47.2.1, ())] ≤ LIM)) (
                bif ((!((x3.1 == x46.1) && ((x4.2.1 == x47.2.1) && (((Option.getD (mapAt G31 (.int .i64) (x3.1, x4.2.1, ()) o4) 0) == (List.length o5 : Int)) && true)))) == false) then
                  bif ((!((x3.1 == x46.1) && ((x4.2.1 == x47.2.1) && (((Option.getD (mapAt G31 (.int .i64) (x3.1, x4.2.1, ()) o4) 0) == (List.length o5 : Int)) && true)))) == false) then
                    asrt (((decide (o0.2.2.1 ≥ 0)) && (decide (o0.2.2.1 < (List.length (o5 ++ [(x46.1, x47.2.1, ())]) : Int)))) == true) (decide (0 ≤ o0.2.2.1) && decide (o0.2.2.1 < (List.length (o5 ++ [(x46.1, x47.2.1, ())]) : Int))) (
                      ((bif (((decide (o0.2.2.1 ≥ 0)) && (decide (o0.2.2.1 < (List.length (o5 ++ [(x46.1, x47.2.1, ())]) : Int)))) == true) then ((o5 ++ [(x46.1, x47.2.1, ())]))[(o0.2.2.1 : Int).toNat]? else some (0, ([] : (List UInt8)), ()))).bind fun x61 =>
                      asrt ((((decide (o0.2.2.1 ≥ 0)) && (decide (o0.2.2.1 < (List.length (o5 ++ [(x46.1, x47.2.1, ())]) : Int)))) && (x61.1 == o0.1)) == true) (decide (0 ≤ o0.2.2.1) && decide (o0.2.2.1 < (List.length (o5 ++ [(x46.1, x47.2.1, ())]) : Int))) (
                        ((bif ((((decide (o0.2.2.1 ≥ 0)) && (decide (o0.2.2.1 < (List.length (o5 ++ [(x46.1, x47.2.1, ())]) : Int)))) && (x61.1 == o0.1)) == true) then ((o5 ++ [(x46.1, x47.2.1, ())]))[(o0.2.2.1 : Int).toNat]? else some (0, ([] : (List UInt8)), ()))).bind fun x62 =>
                        bif ((!((x3.1 == x46.1) && ((x4.2.1 == x47.2.1) && (((Option.getD (mapAt G31 (.int .i64) (x3.1, x4.2.1, ()) o4) 0) == (List.length o5 : Int)) && true)))) || (!(((Option.isSome (mapAt G31 (.int .i64) (o0.1, o0.2.1, ()) o4)) && ((Option.getD (mapAt G31 (.int .i64) (o0.1, o0.2.1, ()) o4) 0) == o0.2.2.1)) == ((((decide (o0.2.2.1 ≥ 0)) && (decide (o0.2.2.1 < (List.length (o5 ++ [(x46.1, x47.2.1, ())]) : Int)))) && (x61.1 == o0.1)) && (x62.2.1 == o0.2.1))))) then
                          k2
                        else
                          kn (IntKind.i64.wrap (t8 + 1)) o3 o4 (o5 ++ [(x46.1, x47.2.1, ())])))
                  else
                    bif ((!((x3.1 == x46.1) && ((x4.2.1 == x47.2.1) && (((Option.getD (mapAt G31 (.int .i64) (x3.1, x4.2.1, ()) o4) 0) == (List.length o5 : Int)) && true)))) || (!(((Option.isSome (mapAt G31 (.int .i64) (o0.1, o0.2.1, ()) o4)) && ((Option.getD (mapAt G31 (.int .i64) (o0.1, o0.2.1, ()) o4) 0) == o0.2.2.1)) == false))) then
                      k2
                    else
                      kn (IntKind.i64.wrap (t8 + 1)) o3 o4 (o5 ++ [(x46.1, x47.2.1, ())])
                else
                  bif ((!((x3.1 == x46.1) && ((x4.2.1 == x47.2.1) && (((Option.getD (mapAt G31 (.int .i64) (x3.1, x4.2.1, ()) o4) 0) == (List.length o5 : Int)) && true)))) == false) then
                    asrt (((decide (o0.2.2.1 ≥ 0)) && (decide (o0.2.2.1 < (List.length (o5 ++ [(x46.1, x47.2.1, ())]) : Int)))) == true) (decide (0 ≤ o0.2.2.1) && decide (o0.2.2.1 < (List.length (o5 ++ [(x46.1, x47.2.1, ())]) : Int))) (
                      ((bif (((decide (o0.2.2.1 ≥ 0)) && (decide (o0.2.2.1 < (List.length (o5 ++ [(x46.1, x47.2.1, ())]) : Int)))) == true) then ((o5 ++ [(x46.1, x47.2.1, ())]))[(o0.2.2.1 : Int).toNat]? else some (0, ([] : (List UInt8)), ()))).bind fun x63 =>
                      asrt ((((decide (o0.2.2.1 ≥ 0)) && (decide (o0.2.2.1 < (List.length (o5 ++ [(x46.1, x47.2.1, ())]) : Int)))) && (x63.1 == o0.1)) == true) (decide (0 ≤ o0.2.2.1) && decide (o0.2.2.1 < (List.length (o5 ++ [(x46.1, x47.2.1, ())]) : Int))) (
                        ((bif ((((decide (o0.2.2.1 ≥ 0)) && (decide (o0.2.2.1 < (List.length (o5 ++ [(x46.1, x47.2.1, ())]) : Int)))) && (x63.1 == o0.1)) == true) then ((o5 ++ [(x46.1, x47.2.1, ())]))[(o0.2.2.1 : Int).toNat]? else some (0, ([] : (List UInt8)), ()))).bind fun x64 =>
                        bif ((!((x3.1 == x46.1) && ((x4.2.1 == x47.2.1) && (((Option.getD (mapAt G31 (.int .i64) (x3.1, x4.2.1, ()) o4) 0) == (List.length o5 : Int)) && true)))) || (!(false == ((((decide (o0.2.2.1 ≥ 0)) && (decide (o0.2.2.1 < (List.length (o5 ++ [(x46.1, x47.2.1, ())]) : Int)))) && (x63.1 == o0.1)) && (x64.2.1 == o0.2.1))))) then
                          k2
                        else
                          kn (IntKind.i64.wrap (t8 + 1)) o3 o4 (o5 ++ [(x46.1, x47.2.1, ())])))
                  else
                    bif ((!((x3.1 == x46.1) && ((x4.2.1 == x47.2.1) && (((Option.getD (mapAt G31 (.int .i64) (x3.1, x4.2.1, ()) o4) 0) == (List.length o5 : Int)) && true)))) || (!(false == false))) then
                      k2
                    else
                      kn (IntKind.i64.wrap (t8 + 1)) o3 o4 (o5 ++ [(x46.1, x47.2.1, ())]))) (fun y52 =>
              bif (decide (y52 < 0)) then
                asrt true (decide (List.length (α := T31) o5 + List.length (α := T31) [(x46.1, x47.2.1, ())] ≤ LIM)) (
                  bif ((!((x3.1 == x46.1) && ((x4.2.1 == x47.2.1) && (((Option.getD (mapAt G31 (.int .i64) (x3.1, x4.2.1, ()) o4) 0) == (List.length o5 : Int)) && true)))) == false) then
                    bif ((!((x3.1 == x46.1) && ((x4.2.1 == x47.2.1) && (((Option.getD (mapAt G31 (.int .i64) (x3.1, x4.2.1, ()) o4) 0) == (List.length o5 : Int)) && true)))) == false) then
                      asrt (((decide (o0.2.2.1 ≥ 0)) && (decide (o0.2.2.1 < (List.length (o5 ++ [(x46.1, x47.2.1, ())]) : Int)))) == true) (decide (0 ≤ o0.2.2.1) && decide (o0.2.2.1 < (List.length (o5 ++ [(x46.1, x47.2.1, ())]) : Int))) (
                        ((bif (((decide (o0.2.2.1 ≥ 0)) && (decide (o0.2.2.1 < (List.length (o5 ++ [(x46.1, x47.2.1, ())]) : Int)))) == true) then ((o5 ++ [(x46.1, x47.2.1, ())]))[(o0.2.2.1 : Int).toNat]? else some (0, ([] : (List UInt8)), ()))).bind fun x53 =>
                        asrt ((((decide (o0.2.2.1 ≥ 0)) && (decide (o0.2.2.1 < (List.length (o5 ++ [(x46.1, x47.2.1, ())]) : Int)))) && (x53.1 == o0.1)) == true) (decide (0 ≤ o0.2.2.1) && decide (o0.2.2.1 < (List.length (o5 ++ [(x46.1, x47.2.1, ())]) : Int))) (
                          ((bif ((((decide (o0.2.2.1 ≥ 0)) && (decide (o0.2.2.1 < (List.length (o5 ++ [(x46.1, x47.2.1, ())]) : Int)))) && (x53.1 == o0.1)) == true) then ((o5 ++ [(x46.1, x47.2.1, ())]))[(o0.2.2.1 : Int).toNat]? else some (0, ([] : (List UInt8)), ()))).bind fun x54 =>
                          bif ((!((x3.1 == x46.1) && ((x4.2.1 == x47.2.1) && (((Option.getD (mapAt G31 (.int .i64) (x3.1, x4.2.1, ()) o4) 0) == (List.length o5 : Int)) && true)))) || (!(((Option.isSome (mapAt G31 (.int .i64) (o0.1, o0.2.1, ()) o4)) && ((Option.getD (mapAt G31 (.int .i64) (o0.1, o0.2.1, ()) o4) 0) == o0.2.2.1)) == ((((decide (o0.2.2.1 ≥ 0)) && (decide (o0.2.2.1 < (List.length (o5 ++ [(x46.1, x47.2.1, ())]) : Int)))) && (x53.1 == o0.1)) && (x54.2.1 == o0.2.1))))) then
                            k2
                          else
                            kn (IntKind.i64.wrap (t8 + 1)) o3 o4 (o5 ++ [(x46.1, x47.2.1, ())])))
                    else
                      bif ((!((x3.1 == x46.1) && ((x4.2.1 == x47.2.1) && (((Option.getD (mapAt G31 (.int .i64) (x3.1, x4.2.1, ()) o4) 0) == (List.length o5 : Int)) && true)))) || (!(((Option.isSome (mapAt G31 (.int .i64) (o0.1, o0.2.1, ()) o4)) && ((Option.getD (mapAt G31 (.int .i64) (o0.1, o0.2.1, ()) o4) 0) == o0.2.2.1)) == false))) then
                        k2
                      else
                        kn (IntKind.i64.wrap (t8 + 1)) o3 o4 (o5 ++ [(x46.1, x47.2.1, ())])
                  else
                    bif ((!((x3.1 == x46.1) && ((x4.2.1 == x47.2.1) && (((Option.getD (mapAt G31 (.int .i64) (x3.1, x4.2.1, ()) o4) 0) == (List.length o5 : Int)) && true)))) == false) then
                      asrt (((decide (o0.2.2.1 ≥ 0)) && (decide (o0.2.2.1 < (List.length (o5 ++ [(x46.1, x47.2.1, ())]) : Int)))) == true) (decide (0 ≤ o0.2.2.1) && decide (o0.2.2.1 < (List.length (o5 ++ [(x46.1, x47.2.1, ())]) : Int))) (
                        ((bif (((decide (o0.2.2.1 ≥ 0)) && (decide (o0.2.2.1 < (List.length (o5 ++ [(x46.1, x47.2.1, ())]) : Int)))) == true) then ((o5 ++ [(x46.1, x47.2.1, ())]))[(o0.2.2.1 : Int).toNat]? else some (0, ([] : (List UInt8)), ()))).bind fun x55 =>
                        asrt ((((decide (o0.2.2.1 ≥ 0)) && (decide (o0.2.2.1 < (List.length (o5 ++ [(x46.1, x47.2.1, ())]) : Int)))) && (x55.1 == o0.1)) == true) (decide (0 ≤ o0.2.2.1) && decide (o0.2.2.1 < (List.length (o5 ++ [(x46.1, x47.2.1, ())]) : Int))) (
                          ((bif ((((decide (o0.2.2.1 ≥ 0)) && (decide (o0.2.2.1 < (List.length (o5 ++ [(x46.1, x47.2.1, ())]) : Int)))) && (x55.1 == o0.1)) == true) then ((o5 ++ [(x46.1, x47.2.1, ())]))[(o0.2.2.1 : Int).toNat]? else some (0, ([] : (List UInt8)), ()))).bind fun x56 =>
                          bif ((!((x3.1 == x46.1) && ((x4.2.1 == x47.2.1) && (((Option.getD (mapAt G31 (.int .i64) (x3.1, x4.2.1, ()) o4) 0) == (List.length o5 : Int)) && true)))) || (!(false == ((((decide (o0.2.2.1 ≥ 0)) && (decide (o0.2.2.1 < (List.length (o5 ++ [(x46.1, x47.2.1, ())]) : Int)))) && (x55.1 == o0.1)) && (x56.2.1 == o0.2.1))))) then
                            k2
                          else
                            kn (IntKind.i64.wrap (t8 + 1)) o3 o4 (o5 ++ [(x46.1, x47.2.1, ())])))
                    else
                      bif ((!((x3.1 == x46.1) && ((x4.2.1 == x47.2.1) && (((Option.getD (mapAt G31 (.int .i64) (x3.1, x4.2.1, ()) o4) 0) == (List.length o5 : Int)) && true)))) || (!(false == false))) then
                        k2
                      else
                        kn (IntKind.i64.wrap (t8 + 1)) o3 o4 (o5 ++ [(x46.1, x47.2.1, ())]))
              else
                bif ((!((x3.1 == x46.1) && ((x4.2.1 == x47.2.1) && (((Option.getD (mapAt G31 (.int .i64) (x3.1, x4.2.1, ()) o4) 0) == y52) && true)))) == false) then
                  bif ((!((x3.1 == x46.1) && ((x4.2.1 == x47.2.1) && (((Option.getD (mapAt G31 (.int .i64) (x3.1, x4.2.1, ()) o4) 0) == y52) && true)))) == false) then
                    asrt (((decide (o0.2.2.1 ≥ 0)) && (decide (o0.2.2.1 < (List.length o5 : Int)))) == true) (decide (0 ≤ o0.2.2.1) && decide (o0.2.2.1 < (List.length o5 : Int))) (
                      ((bif (((decide (o0.2.2.1 ≥ 0)) && (decide (o0.2.2.1 < (List.length o5 : Int)))) == true) then (o5)[(o0.2.2.1 : Int).toNat]? else some (0, ([] : (List UInt8)), ()))).bind fun x57 =>
                      asrt ((((decide (o0.2.2.1 ≥ 0)) && (decide (o0.2.2.1 < (List.length o5 : Int)))) && (x57.1 == o0.1)) == true) (decide (0 ≤ o0.2.2.1) && decide (o0.2.2.1 < (List.length o5 : Int))) (
                        ((bif ((((decide (o0.2.2.1 ≥ 0)) && (decide (o0.2.2.1 < (List.length o5 : Int)))) && (x57.1 == o0.1)) == true) then (o5)[(o0.2.2.1 : Int).toNat]? else some (0, ([] : (List UInt8)), ()))).bind fun x58 =>
                        bif ((!((x3.1 == x46.1) && ((x4.2.1 == x47.2.1) && (((Option.getD (mapAt G31 (.int .i64) (x3.1, x4.2.1, ()) o4) 0) == y52) && true)))) || (!(((Option.isSome (mapAt G31 (.int .i64) (o0.1, o0.2.1, ()) o4)) && ((Option.getD (mapAt G31 (.int .i64) (o0.1, o0.2.1, ()) o4) 0) == o0.2.2.1)) == ((((decide (o0.2.2.1 ≥ 0)) && (decide (o0.2.2.1 < (List.length o5 : Int)))) && (x57.1 == o0.1)) && (x58.2.1 == o0.2.1))))) then
                          k2
                        else
                          kn (IntKind.i64.wrap (t8 + 1)) o3 o4 o5))
                  else
                    bif ((!((x3.1 == x46.1) && ((x4.2.1 == x47.2.1) && (((Option.getD (mapAt G31 (.int .i64) (x3.1, x4.2.1, ()) o4) 0) == y52) && true)))) || (!(((Option.isSome (mapAt G31 (.int .i64) (o0.1, o0.2.1, ()) o4)) && ((Option.getD (mapAt G31 (.int .i64) (o0.1, o0.2.1, ()) o4) 0) == o0.2.2.1)) == false))) then
                      k2
                    else
                      kn (IntKind.i64.wrap (t8 + 1)) o3 o4 o5
                else
                  bif ((!((x3.1 == x46.1) && ((x4.2.1 == x47.2.1) && (((Option.getD (mapAt G31 (.int .i64) (x3.1, x4.2.1, ()) o4) 0) == y52) && true)))) == false) then
                    asrt (((decide (o0.2.2.1 ≥ 0)) && (decide (o0.2.2.1 < (List.length o5 : Int)))) == true) (decide (0 ≤ o0.2.2.1) && decide (o0.2.2.1 < (List.length o5 : Int))) (
                      ((bif (((decide (o0.2.2.1 ≥ 0)) && (decide (o0.2.2.1 < (List.length o5 : Int)))) == true) then (o5)[(o0.2.2.1 : Int).toNat]? else some (0, ([] : (List UInt8)), ()))).bind fun x59 =>
                      asrt ((((decide (o0.2.2.1 ≥ 0)) && (decide (o0.2.2.1 < (List.length o5 : Int)))) && (x59.1 == o0.1)) == true) (decide (0 ≤ o0.2.2.1) && decide (o0.2.2.1 < (List.length o5 : Int))) (
                        ((bif ((((decide (o0.2.2.1 ≥ 0)) && (decide (o0.2.2.1 < (List.length o5 : Int)))) && (x59.1 == o0.1)) == true) then (o5)[(o0.2.2.1 : Int).toNat]? else some (0, ([] : (List UInt8)), ()))).bind fun x60 =>
                        bif ((!((x3.1 == x46.1) && ((x4.2.1 == x47.2.1) && (((Option.getD (mapAt G31 (.int .i64) (x3.1, x4.2.1, ()) o4) 0) == y52) && true)))) || (!(false == ((((decide (o0.2.2.1 ≥ 0)) && (decide (o0.2.2.1 < (List.length o5 : Int)))) && (x59.1 == o0.1)) && (x60.2.1 == o0.2.1))))) then
                          k2
                        else
                          kn (IntKind.i64.wrap (t8 + 1)) o3 o4 o5))
                  else
                    bif ((!((x3.1 == x46.1) && ((x4.2.1 == x47.2.1) && (((Option.getD (mapAt G31 (.int .i64) (x3.1, x4.2.1, ()) o4) 0) == y52) && true)))) || (!(false == false))) then
                      k2
                    else
                      kn (IntKind.i64.wrap (t8 + 1)) o3 o4 o5) FUEL 0
  else
    k1 o3 o4 o5
noncomputable def l5_3 {R : Type} (t0 : (List T31)) (o0 : T23) (k1 : (List T31) → (List (T31 × Int)) → (List T31) → Option R) (k2 : Option R) : Nat → Int → (List T31) → (List (T31 × Int)) → (List T31) → Option R
  | 0, _, _, _, _ => none
  | n + 1, t8, o3, o4, o5 => s5_3 t0 o0 (l5_3 t0 o0 k1 k2 n) k1 k2 t8 o3 o4 o5
noncomputable def L5_3 : LE := ⟨10, 0, ⟨[(0, (.dat (.sl G31))), (3, (.box 0 [] 0)), (5, (.dat .bool)), (6, (.box 1 [] 0)), (7, (.box 2 [] 0)), (8, (.dat (.int .i64)))], [(.box (.dat G23)), (.box (.agg (.scons (.own 3) (.scons (.mp 4) .snil)))), (.box (.agg (.scons (.own 5) .snil))), (.arr G31), (.map G31 (.int .i64)), (.arr G31)]⟩, fun R n x k => l5_3 x.1.1 x.2.1 (fun y0 y1 y2 => k (.exit 0) ⟨[(0, (.dat (.sl G31) x.1.1)), (3, (.box 0 [] 0)), (5, (.dat .bool x.1.2.2.1)), (6, (.box 1 [] 0)), (7, (.box 2 [] 0))], [(.box (.dat G23 x.2.1)), (.box (.agg (.scons (.own 3) (.scons (.mp 4) .snil)))), (.box (.agg (.scons (.own 5) .snil))), (.arr G31 y0), (.map G31 (.int .i64) y1), (.arr G31 y2)]⟩) (k .ret ⟨[(4, (.dat .bool false))], []⟩) n x.1.2.2.2.2.2.1 x.2.2.2.2.1 x.2.2.2.2.2.1 x.2.2.2.2.2.2.1⟩
noncomputable def C5 : Cfg := mkCfg [(10, ⟨[0, 3, 5, 6, 7, 8], [(7, [0], G31), (6, [0], G31)]⟩)] [(10, (⟨[0, 3, 5, 6, 7], []⟩, ⟨[4], []⟩))] (([(0, L5_3)] : List (Nat × LE)).map (·.2))
theorem ek5_3 : EOk E5 C5 Try.f5.ntmps (bodyL Try.f5 0) L5_3 := eok_of (e := L5_3) (fun R x Kn k => s5_3 x.1.1 x.2.1 (fun v0 v1 v2 v3 => Kn ((x.1.1, (), x.1.2.2.1, (), (), v0, ()), (x.2.1, ((), (), ()), ((), ()), v1, v2, v3, ()))) (fun y0 y1 y2 => k (.exit 0) ⟨[(0, (.dat (.sl G31) x.1.1)), (3, (.box 0 [] 0)), (5, (.dat .bool x.1.2.2.1)), (6, (.box 1 [] 0)), (7, (.box 2 [] 0))], [(.box (.dat G23 x.2.1)), (.box (.agg (.scons (.own 3) (.scons (.mp 4) .snil)))), (.box (.agg (.scons (.own 5) .snil))), (.arr G31 y0), (.map G31 (.int .i64) y1), (.arr G31 y2)]⟩) (k .ret ⟨[(4, (.dat .bool false))], []⟩) x.1.2.2.2.2.2.1 x.2.2.2.2.1 x.2.2.2.2.2.1 x.2.2.2.2.2.2.1) (fun _ _ _ => rfl) (fun _ _ _ _ => rfl) (fun R x Kn k => by kernel_rfl)
theorem lm5 : ∀ c, Try.f5.body = some c → LmOk E5 C5 Try.f5.ntmps c := lmOk_of (ps := [(0, L5_3)]) (by kernel_rfl) (by kernel_rfl) ⟨ek5_3, trivial⟩
noncomputable def m5 (a0 : (List T31)) (a1 : T23) : Option (Bool) :=
  (m7).bind fun r1 =>
  (m9 a0 40).bind fun r2 =>
  bif (!r2) then
    some r1
  else
    l5_3 a0 a1 (fun y65 y66 y67 =>
        l5_4 a0 (List.length a0 : Int) (fun y71 y72 =>
            bif (decide ((List.length y71 : Int) < (List.length a0 : Int))) then
              l5_8 a0 (fun y105 y106 =>
                  bif (y105 != 0) then
                    bif ((5 != y105) || (!(true == true))) then
                      some false
                    else
                      (bif false then (m12 [] []) else some false).bind fun r107 =>
                      bif (r1 == true) then
                        (cloneM y65).bind fun r108 =>
                        bif (r1 == true) then
                          asrt true (decide (List.length (α := T31) y67 ≤ LIM)) (
                            (bif (r1 == true) then (m12 r108 y67) else some false).bind fun r109 =>
                            some (r1 && r109))
                        else
                          (bif (r1 == true) then (m12 r108 []) else some false).bind fun r110 =>
                          some (r1 && r110)
                      else
                        bif (r1 == true) then
                          asrt true (decide (List.length (α := T31) y67 ≤ LIM)) (
                            (bif (r1 == true) then (m12 [] y67) else some false).bind fun r111 =>
                            some (r1 && r111))
                        else
                          (bif (r1 == true) then (m12 [] []) else some false).bind fun r112 =>
                          some (r1 && r112)
                  else
                    some false) (
                  some false) FUEL 0 0 []
            else
              l5_8 a0 (fun y113 y114 =>
                  bif (y113 != 0) then
                    bif ((0 != y113) || (!(false == true))) then
                      some false
                    else
                      (bif false then (m12 [] []) else some false).bind fun r115 =>
                      bif (r1 == true) then
                        (cloneM y65).bind fun r116 =>
                        bif (r1 == true) then
                          asrt true (decide (List.length (α := T31) y67 ≤ LIM)) (
                            (bif (r1 == true) then (m12 r116 y67) else some false).bind fun r117 =>
                            some (r1 && r117))
                        else
                          (bif (r1 == true) then (m12 r116 []) else some false).bind fun r118 =>
                          some (r1 && r118)
                      else
                        bif (r1 == true) then
                          asrt true (decide (List.length (α := T31) y67 ≤ LIM)) (
                            (bif (r1 == true) then (m12 [] y67) else some false).bind fun r119 =>
                            some (r1 && r119))
                        else
                          (bif (r1 == true) then (m12 [] []) else some false).bind fun r120 =>
                          some (r1 && r120)
                  else
                    bif (!(false == false)) then
                      some false
                    else
                      (cloneM y71).bind fun r121 =>
                      asrt true (decide (List.length (α := T31) y114 ≤ LIM)) (
                        (m12 r121 y114).bind fun r122 =>
                        bif ((!r122) == false) then
                          bif ((!r122) == false) then
                            asrt (((decide (a1.2.2.1 ≥ 0)) && (decide (a1.2.2.1 < (List.length y114 : Int)))) == true) (decide (0 ≤ a1.2.2.1) && decide (a1.2.2.1 < (List.length y114 : Int))) (
                              ((bif (((decide (a1.2.2.1 ≥ 0)) && (decide (a1.2.2.1 < (List.length y114 : Int)))) == true) then (y114)[(a1.2.2.1 : Int).toNat]? else some (0, ([] : (List UInt8)), ()))).bind fun x123 =>
                              asrt ((((decide (a1.2.2.1 ≥ 0)) && (decide (a1.2.2.1 < (List.length y114 : Int)))) && (x123.1 == a1.1)) == true) (decide (0 ≤ a1.2.2.1) && decide (a1.2.2.1 < (List.length y114 : Int))) (
                                ((bif ((((decide (a1.2.2.1 ≥ 0)) && (decide (a1.2.2.1 < (List.length y114 : Int)))) && (x123.1 == a1.1)) == true) then (y114)[(a1.2.2.1 : Int).toNat]? else some (0, ([] : (List UInt8)), ()))).bind fun x124 =>
                                bif ((!r122) || (!(((Option.isSome (mapAt G31 (.int .i64) (a1.1, a1.2.1, ()) y72)) && ((Option.getD (mapAt G31 (.int .i64) (a1.1, a1.2.1, ()) y72) 0) == a1.2.2.1)) == ((((decide (a1.2.2.1 ≥ 0)) && (decide (a1.2.2.1 < (List.length y114 : Int)))) && (x123.1 == a1.1)) && (x124.2.1 == a1.2.1))))) then
                                  some false
                                else
                                  bif (r1 == true) then
                                    (cloneM y65).bind fun r127 =>
                                    bif (r1 == true) then
                                      asrt true (decide (List.length (α := T31) y67 ≤ LIM)) (
                                        (bif (r1 == true) then (m12 r127 y67) else some false).bind fun r128 =>
                                        some (r1 && r128))
                                    else
                                      (bif (r1 == true) then (m12 r127 []) else some false).bind fun r129 =>
                                      some (r1 && r129)
                                  else
                                    bif (r1 == true) then
                                      asrt true (decide (List.length (α := T31) y67 ≤ LIM)) (
                                        (bif (r1 == true) then (m12 [] y67) else some false).bind fun r130 =>
                                        some (r1 && r130))
                                    else
                                      (bif (r1 == true) then (m12 [] []) else some false).bind fun r131 =>
                                      some (r1 && r131)))
                          else
                            bif ((!r122) || (!(((Option.isSome (mapAt G31 (.int .i64) (a1.1, a1.2.1, ()) y72)) && ((Option.getD (mapAt G31 (.int .i64) (a1.1, a1.2.1, ()) y72) 0) == a1.2.2.1)) == false))) then
                              some false
                            else
                              bif (r1 == true) then
                                (cloneM y65).bind fun r132 =>
                                bif (r1 == true) then
                                  asrt true (decide (List.length (α := T31) y67 ≤ LIM)) (
                                    (bif (r1 == true) then (m12 r132 y67) else some false).bind fun r133 =>
                                    some (r1 && r133))
                                else
                                  (bif (r1 == true) then (m12 r132 []) else some false).bind fun r134 =>
                                  some (r1 && r134)
                              else
                                bif (r1 == true) then
                                  asrt true (decide (List.length (α := T31) y67 ≤ LIM)) (
                                    (bif (r1 == true) then (m12 [] y67) else some false).bind fun r135 =>
                                    some (r1 && r135))
                                else
                                  (bif (r1 == true) then (m12 [] []) else some false).bind fun r136 =>
                                  some (r1 && r136)
                        else
                          bif ((!r122) == false) then
                            asrt (((decide (a1.2.2.1 ≥ 0)) && (decide (a1.2.2.1 < (List.length y114 : Int)))) == true) (decide (0 ≤ a1.2.2.1) && decide (a1.2.2.1 < (List.length y114 : Int))) (
                              ((bif (((decide (a1.2.2.1 ≥ 0)) && (decide (a1.2.2.1 < (List.length y114 : Int)))) == true) then (y114)[(a1.2.2.1 : Int).toNat]? else some (0, ([] : (List UInt8)), ()))).bind fun x125 =>
                              asrt ((((decide (a1.2.2.1 ≥ 0)) && (decide (a1.2.2.1 < (List.length y114 : Int)))) && (x125.1 == a1.1)) == true) (decide (0 ≤ a1.2.2.1) && decide (a1.2.2.1 < (List.length y114 : Int))) (
                                ((bif ((((decide (a1.2.2.1 ≥ 0)) && (decide (a1.2.2.1 < (List.length y114 : Int)))) && (x125.1 == a1.1)) == true) then (y114)[(a1.2.2.1 : Int).toNat]? else some (0, ([] : (List UInt8)), ()))).bind fun x126 =>
                                bif ((!r122) || (!(false == ((((decide (a1.2.2.1 ≥ 0)) && (decide (a1.2.2.1 < (List.length y114 : Int)))) && (x125.1 == a1.1)) && (x126.2.1 == a1.2.1))))) then
                                  some false
                                else
                                  bif (r1 == true) then
                                    (cloneM y65).bind fun r137 =>
                                    bif (r1 == true) then
                                      asrt true (decide (List.length (α := T31) y67 ≤ LIM)) (
                                        (bif (r1 == true) then (m12 r137 y67) else some false).bind fun r138 =>
                                        some (r1 && r138))
                                    else
                                      (bif (r1 == true) then (m12 r137 []) else some false).bind fun r139 =>
                                      some (r1 && r139)
                                  else
                                    bif (r1 == true) then
                                      asrt true (decide (List.length (α := T31) y67 ≤ LIM)) (
                                        (bif (r1 == true) then (m12 [] y67) else some false).bind fun r140 =>
                                        some (r1 && r140))
                                    else
                                      (bif (r1 == true) then (m12 [] []) else some false).bind fun r141 =>
                                      some (r1 && r141)))
                          else
                            bif ((!r122) || (!(false == false))) then
                              some false
                            else
                              bif (r1 == true) then
                                (cloneM y65).bind fun r142 =>
                                bif (r1 == true) then
                                  asrt true (decide (List.length (α := T31) y67 ≤ LIM)) (
                                    (bif (r1 == true) then (m12 r142 y67) else some false).bind fun r143 =>
                                    some (r1 && r143))
                                else
                                  (bif (r1 == true) then (m12 r142 []) else some false).bind fun r144 =>
                                  some (r1 && r144)
                              else
                                bif (r1 == true) then
                                  asrt true (decide (List.length (α := T31) y67 ≤ LIM)) (
                                    (bif (r1 == true) then (m12 [] y67) else some false).bind fun r145 =>
                                    some (r1 && r145))
                                else
                                  (bif (r1 == true) then (m12 [] []) else some false).bind fun r146 =>
                                  some (r1 && r146))) (
                  some false) FUEL 0 0 []) (
            l5_6 a0 (fun y82 y83 =>
                bif (y82 != 0) then
                  bif ((1 != y82) || (!(true == true))) then
                    some false
                  else
                    (bif false then (m12 [] []) else some false).bind fun r90 =>
                    bif (r1 == true) then
                      (cloneM y65).bind fun r91 =>
                      bif (r1 == true) then
                        asrt true (decide (List.length (α := T31) y67 ≤ LIM)) (
                          (bif (r1 == true) then (m12 r91 y67) else some false).bind fun r92 =>
                          some (r1 && r92))
                      else
                        (bif (r1 == true) then (m12 r91 []) else some false).bind fun r93 =>
                        some (r1 && r93)
                    else
                      bif (r1 == true) then
                        asrt true (decide (List.length (α := T31) y67 ≤ LIM)) (
                          (bif (r1 == true) then (m12 [] y67) else some false).bind fun r94 =>
                          some (r1 && r94))
                      else
                        (bif (r1 == true) then (m12 [] []) else some false).bind fun r95 =>
                        some (r1 && r95)
                else
                  some false) (
                bif (!(true == true)) then
                  some false
                else
                  (bif false then (m12 [] []) else some false).bind fun r84 =>
                  bif (r1 == true) then
                    (cloneM y65).bind fun r85 =>
                    bif (r1 == true) then
                      asrt true (decide (List.length (α := T31) y67 ≤ LIM)) (
                        (bif (r1 == true) then (m12 r85 y67) else some false).bind fun r86 =>
                        some (r1 && r86))
                    else
                      (bif (r1 == true) then (m12 r85 []) else some false).bind fun r87 =>
                      some (r1 && r87)
                  else
                    bif (r1 == true) then
                      asrt true (decide (List.length (α := T31) y67 ≤ LIM)) (
                        (bif (r1 == true) then (m12 [] y67) else some false).bind fun r88 =>
                        some (r1 && r88))
                    else
                      (bif (r1 == true) then (m12 [] []) else some false).bind fun r89 =>
                      some (r1 && r89)) FUEL 0 0 []) FUEL 0 [] []) (
        some false) FUEL 0 [] [] []
noncomputable def e5 : PmE := entry 5 [(.sl G31), G23] false .bool (fun x => m5 x.1 x.2.1)
theorem q5 (x : tyL [(.sl G31), G23]) : execF E5 C5 Try.f5 (datL [(.sl G31), G23] x) [] (retK false .bool) = m5 x.1 x.2.1 := by kernel_rfl
theorem p5 : PmOk Try.prog e5 := pm_ok (E := E5) ok5 ord lm5 Try.func5 ca5 q5

end Go.Proofs.Ytmkhnmkbohckbaa
