/- Models of the functions that the statements reach. -/
import Derived.Test.YtmkhnmkbohckbaaE33
import Derived.Test.YtmkhnmkbohckbaaE35
import Derived.Test.YtmkhnmkbohckbaaChecked
import Derived.KernelRfl
namespace Go.Proofs.Ytmkhnmkbohckbaa
open Go Go.Eng
set_option linter.unusedVariables false

/-- x, y, signed, code -/
abbrev G7 : GT := .cons (.int .i64) (.cons (.int .i64) (.cons .bool (.cons (.int .u8) (.nil))))
abbrev T7 : Type := Int × Int × Bool × Int × Unit
/-- msg, addr -/
abbrev G13 : GT := .cons .str (.cons (.int .u64) (.nil))
abbrev T13 : Type := (List UInt8) × Int × Unit
/-- Key, Text, Mark -/
abbrev G23 : GT := .cons (.int .i64) (.cons .str (.cons (.int .i64) (.nil)))
abbrev T23 : Type := Int × (List UInt8) × Int × Unit
/-- Key, Text -/
abbrev G31 : GT := .cons (.int .i64) (.cons .str (.nil))
abbrev T31 : Type := Int × (List UInt8) × Unit
/-- L -/
abbrev G52 : GT := .cons (.sl G31) (.nil)
abbrev T52 : Type := (List T31) × Unit

theorem ord : Try.prog.follows .mixedOrders = true := by kernel_rfl

/-! 21: consol/seal.key -/
theorem ca21 : callable Try.prog 21 := ⟨Try.f21, Try.func21, by kernel_rfl, by kernel_rfl⟩
noncomputable def E21 : Env := mkEnv2 Try.prog [] []
theorem ok21 : EnvOk E21 := mkEnv2_ok (by simp) (by simp)
noncomputable def C21 : Cfg := noCfg
theorem lm21 : ∀ c, Try.f21.body = some c → LmOk E21 C21 Try.f21.ntmps c := fun _ _ => noCfg_lm
noncomputable def m21 (a0 : Int) : Option (Bool) :=
  some ((decide (0 ≤ a0)) && (decide (a0 < 200)))
noncomputable def e21 : PmE := entry 21 [(.int .i64)] false .bool (fun x => m21 x.1)
theorem q21 (x : tyL [(.int .i64)]) : execF E21 C21 Try.f21 (datL [(.int .i64)] x) [] (retK false .bool) = m21 x.1 := by kernel_rfl
theorem p21 : PmOk Try.prog e21 := pm_ok (E := E21) ok21 ord lm21 Try.func21 ca21 q21

theorem ca22 : callable Try.prog 22 := ⟨Try.f22, Try.func22, by kernel_rfl, by kernel_rfl⟩
/-! 22: slices.Clone[[]consol/api.Sealed,consol/api.Sealed] -/
noncomputable def c22 : CmE := ownE 22 [(.sl G31)] G31 (fun x => cloneM x.1)
theorem d22 : CmOk Try.prog c22 := own_ok ca22 (clone_run (g := G31) ord Try.func22 Try.underlying22 rfl (by kernel_rfl) (fun _ => by kernel_rfl) (by kernel_rfl) (fun _ => by kernel_rfl))

/-! 7: consol/consollaw44.small -/
theorem ca8 : callable Try.prog 8 := ⟨Try.f8, Try.func8, by kernel_rfl, by kernel_rfl⟩
noncomputable def E7i8 : Env := mkEnv2 Try.prog [] []
theorem ok7i8 : EnvOk E7i8 := mkEnv2_ok (by simp) (by simp)
noncomputable def C7i8 : Cfg := noCfg
theorem lm7i8 : ∀ c, Try.f8.body = some c → LmOk E7i8 C7i8 Try.f8.ntmps c := fun _ _ => noCfg_lm
noncomputable def c7i8 : CmE := inl E7i8 C7i8 8 Try.f8
theorem d7i8 : CmOk Try.prog c7i8 := inl_ok (E := E7i8) ok7i8 ord lm7i8 Try.func8 ca8

theorem ca10 : callable Try.prog 10 := ⟨Try.f10, Try.func10, by kernel_rfl, by kernel_rfl⟩
noncomputable def E7i10 : Env := mkEnv2 Try.prog [e21] []
theorem ok7i10 : EnvOk E7i10 := mkEnv2_ok (by simp only [List.mem_cons, List.not_mem_nil, or_false, forall_eq]; exact p21) (by simp)
noncomputable def C7i10 : Cfg := mkCfg [(10, ⟨[1, 2, 6, 8], [], []⟩)] [] (([] : List (Nat × LE)).map (·.2))
theorem lm7i10 : ∀ c, Try.f10.body = some c → LmOk E7i10 C7i10 Try.f10.ntmps c := lmOk_of (ps := []) (by kernel_rfl) (by kernel_rfl) trivial
noncomputable def c7i10 : CmE := inl E7i10 C7i10 10 Try.f10
theorem d7i10 : CmOk Try.prog c7i10 := inl_ok (E := E7i10) ok7i10 ord lm7i10 Try.func10 ca10

theorem ca11 : callable Try.prog 11 := ⟨Try.f11, Try.func11, by kernel_rfl, by kernel_rfl⟩
noncomputable def E7i11 : Env := mkEnv2 Try.prog [] []
theorem ok7i11 : EnvOk E7i11 := mkEnv2_ok (by simp) (by simp)
noncomputable def C7i11 : Cfg := noCfg
theorem lm7i11 : ∀ c, Try.f11.body = some c → LmOk E7i11 C7i11 Try.f11.ntmps c := fun _ _ => noCfg_lm
noncomputable def c7i11 : CmE := inl E7i11 C7i11 11 Try.f11
theorem d7i11 : CmOk Try.prog c7i11 := inl_ok (E := E7i11) ok7i11 ord lm7i11 Try.func11 ca11

theorem ca13 : callable Try.prog 13 := ⟨Try.f13, Try.func13, by kernel_rfl, by kernel_rfl⟩
noncomputable def E7i13 : Env := mkEnv2 Try.prog [] [c22]
theorem ok7i13 : EnvOk E7i13 := mkEnv2_ok (by simp) (by simp only [List.mem_cons, List.not_mem_nil, or_false, forall_eq]; exact d22)
noncomputable def C7i13 : Cfg := noCfg
theorem lm7i13 : ∀ c, Try.f13.body = some c → LmOk E7i13 C7i13 Try.f13.ntmps c := fun _ _ => noCfg_lm
noncomputable def c7i13 : CmE := inl E7i13 C7i13 13 Try.f13
theorem d7i13 : CmOk Try.prog c7i13 := inl_ok (E := E7i13) ok7i13 ord lm7i13 Try.func13 ca13

theorem ca7 : callable Try.prog 7 := ⟨Try.f7, Try.func7, by kernel_rfl, by kernel_rfl⟩
noncomputable def E7 : Env := mkEnv2 Try.prog [] [c7i8, c7i10, c7i11, c7i13]
theorem ok7 : EnvOk E7 := mkEnv2_ok (by simp) (by simp only [List.mem_cons, List.not_mem_nil, or_false, forall_eq_or_imp, forall_eq]; exact ⟨d7i8, d7i10, d7i11, d7i13⟩)
noncomputable def C7 : Cfg := noCfg
theorem lm7 : ∀ c, Try.f7.body = some c → LmOk E7 C7 Try.f7.ntmps c := fun _ _ => noCfg_lm
noncomputable def m7  : Option (Bool) :=
  some true
noncomputable def e7 : PmE := entry 7 [] false .bool (fun x => m7 )
theorem q7 (x : tyL []) : execF E7 C7 Try.f7 (datL [] x) [] (retK false .bool) = m7  := by kernel_rfl
theorem p7 : PmOk Try.prog e7 := pm_ok (E := E7) ok7 ord lm7 Try.func7 ca7 q7

/-! 9: consol/consolref44.Few -/
theorem ca9 : callable Try.prog 9 := ⟨Try.f9, Try.func9, by kernel_rfl, by kernel_rfl⟩
noncomputable def E9 : Env := mkEnv2 Try.prog [] []
theorem ok9 : EnvOk E9 := mkEnv2_ok (by simp) (by simp)
/-- a round of a loop of consol/consolref44.Few -/
noncomputable def s9_1 {R : Type} (t0 : (List T31)) (t1 : Int) (kn : Int → Option R) (k1 : Option R) (k2 : Option R) (t5 : Int) : Option R :=
  bif ((decide (t5 < (List.length t0 : Int))) && (decide (t5 ≤ t1))) then
    (idx t0 t5).bind fun x1 =>
    bif (decide ((List.length x1.2.1 : Int) > 500)) then
      k2
    else
      kn (IntKind.i64.wrap (t5 + 1))
  else
    k1
noncomputable def l9_1 {R : Type} (t0 : (List T31)) (t1 : Int) (k1 : Option R) (k2 : Option R) : Nat → Int → Option R
  | 0, _ => none
  | n + 1, t5 => s9_1 t0 t1 (l9_1 t0 t1 k1 k2 n) k1 k2 t5
noncomputable def L9_1 : LE := ⟨3, 0, ⟨[(0, (.dat (.sl G31))), (1, (.dat (.int .i64))), (5, (.dat (.int .i64)))], []⟩, fun R n x k => l9_1 x.1.1 x.1.2.1 (k (.exit 0) ⟨[(0, (.dat (.sl G31) x.1.1)), (1, (.dat (.int .i64) x.1.2.1))], []⟩) (k .ret ⟨[(4, (.dat .bool false))], []⟩) n x.1.2.2.1⟩
noncomputable def C9 : Cfg := mkCfg [(3, ⟨[0, 1, 5], [], []⟩)] [(3, (⟨[0, 1], [], []⟩, ⟨[4], [], []⟩))] (([(0, L9_1)] : List (Nat × LE)).map (·.2))
theorem ek9_1 : EOk E9 C9 Try.f9.ntmps (bodyL Try.f9 0) L9_1 := eok_of (e := L9_1) (fun R x Kn k => s9_1 x.1.1 x.1.2.1 (fun v0 => Kn ((x.1.1, x.1.2.1, v0, ()), (()))) (k (.exit 0) ⟨[(0, (.dat (.sl G31) x.1.1)), (1, (.dat (.int .i64) x.1.2.1))], []⟩) (k .ret ⟨[(4, (.dat .bool false))], []⟩) x.1.2.2.1) (fun _ _ _ => rfl) (fun _ _ _ _ => rfl) (fun R x Kn k => by kernel_rfl)
theorem lm9 : ∀ c, Try.f9.body = some c → LmOk E9 C9 Try.f9.ntmps c := lmOk_of (ps := [(0, L9_1)]) (by kernel_rfl) (by kernel_rfl) ⟨ek9_1, trivial⟩
noncomputable def m9 (a0 : (List T31)) (a1 : Int) : Option (Bool) :=
  l9_1 a0 a1 (
      some (decide ((List.length a0 : Int) ≤ a1))) (
      some false) FUEL 0
noncomputable def e9 : PmE := entry 9 [(.sl G31), (.int .i64)] false .bool (fun x => m9 x.1 x.2.1)
theorem q9 (x : tyL [(.sl G31), (.int .i64)]) : execF E9 C9 Try.f9 (datL [(.sl G31), (.int .i64)] x) [] (retK false .bool) = m9 x.1 x.2.1 := by kernel_rfl
theorem p9 : PmOk Try.prog e9 := pm_ok (E := E9) ok9 ord lm9 Try.func9 ca9 q9

/-! 12: consol/consolref44.Same -/
theorem ca12 : callable Try.prog 12 := ⟨Try.f12, Try.func12, by kernel_rfl, by kernel_rfl⟩
noncomputable def E12 : Env := mkEnv2 Try.prog [] []
theorem ok12 : EnvOk E12 := mkEnv2_ok (by simp) (by simp)
/-- a round of a loop of consol/consolref44.Same -/
noncomputable def s12_1 {R : Type} (t0 : (List T31)) (t1 : (List T31)) (kn : Int → Option R) (k1 : Option R) (k2 : Option R) (t5 : Int) : Option R :=
  bif (decide (t5 < (List.length t0 : Int))) then
    (idx t0 t5).bind fun x1 =>
    (idx t1 t5).bind fun x2 =>
    bif (!((x1.1 == x2.1) && ((x1.2.1 == x2.2.1) && true))) then
      k2
    else
      kn (IntKind.i64.wrap (t5 + 1))
  else
    k1
noncomputable def l12_1 {R : Type} (t0 : (List T31)) (t1 : (List T31)) (k1 : Option R) (k2 : Option R) : Nat → Int → Option R
  | 0, _ => none
  | n + 1, t5 => s12_1 t0 t1 (l12_1 t0 t1 k1 k2 n) k1 k2 t5
noncomputable def L12_1 : LE := ⟨5, 0, ⟨[(0, (.dat (.sl G31))), (1, (.dat (.sl G31))), (5, (.dat (.int .i64)))], []⟩, fun R n x k => l12_1 x.1.1 x.1.2.1 (k (.exit 0) ⟨[], []⟩) (k .ret ⟨[(4, (.dat .bool false))], []⟩) n x.1.2.2.1⟩
noncomputable def C12 : Cfg := mkCfg [(5, ⟨[0, 1, 5], [], []⟩)] [(5, (⟨[], [], []⟩, ⟨[4], [], []⟩))] (([(0, L12_1)] : List (Nat × LE)).map (·.2))
theorem ek12_1 : EOk E12 C12 Try.f12.ntmps (bodyL Try.f12 0) L12_1 := eok_of (e := L12_1) (fun R x Kn k => s12_1 x.1.1 x.1.2.1 (fun v0 => Kn ((x.1.1, x.1.2.1, v0, ()), (()))) (k (.exit 0) ⟨[], []⟩) (k .ret ⟨[(4, (.dat .bool false))], []⟩) x.1.2.2.1) (fun _ _ _ => rfl) (fun _ _ _ _ => rfl) (fun R x Kn k => by kernel_rfl)
theorem lm12 : ∀ c, Try.f12.body = some c → LmOk E12 C12 Try.f12.ntmps c := lmOk_of (ps := [(0, L12_1)]) (by kernel_rfl) (by kernel_rfl) ⟨ek12_1, trivial⟩
noncomputable def m12 (a0 : (List T31)) (a1 : (List T31)) : Option (Bool) :=
  bif ((List.length a0 : Int) != (List.length a1 : Int)) then
    some false
  else
    l12_1 a0 a1 (
        some true) (
        some false) FUEL 0
noncomputable def e12 : PmE := entry 12 [(.sl G31), (.sl G31)] false .bool (fun x => m12 x.1 x.2.1)
theorem q12 (x : tyL [(.sl G31), (.sl G31)]) : execF E12 C12 Try.f12 (datL [(.sl G31), (.sl G31)] x) [] (retK false .bool) = m12 x.1 x.2.1 := by kernel_rfl
theorem p12 : PmOk Try.prog e12 := pm_ok (E := E12) ok12 ord lm12 Try.func12 ca12 q12

theorem ca24 : callable Try.prog 24 := ⟨Try.f24, Try.func24, by kernel_rfl, by kernel_rfl⟩
/-! 24: maps.Clone[map[consol/api.Sealed]int,consol/api.Sealed,int] -/
noncomputable def mclRen24 : Shelf.Ren := ⟨fun | 5 => 24 | 7 => 25 | n => n, fun | 3 => 3 | 4 => 4 | 20 => 20 | 23 => 46 | 25 => 32 | n => n, id⟩
theorem mclLays24 : SlLaysW.n5 Try.prog mclRen24 where
  mixed := ord
  f5 := ⟨ "maps.Clone[map[consol/api.Sealed]int,consol/api.Sealed,int]", by decide, Try.func24.trans (congrArg some (by kernel_rfl))⟩
  f7 := Try.func25.trans (congrArg some (by kernel_rfl))
  t4 := by kernel_rfl
  t20 := by kernel_rfl
  t23 := by kernel_rfl
  a4 := fun _ => by kernel_rfl
  z4 := fun _ => by kernel_rfl
  v4 := fun _ => by kernel_rfl
  a20 := fun _ => by kernel_rfl
  z20 := fun _ => by kernel_rfl
  v20 := fun _ => by kernel_rfl
  a23 := fun _ => by kernel_rfl
  z23 := fun _ => by kernel_rfl
  v23 := fun _ => by kernel_rfl
noncomputable def c24 : CmE := mclE 24
theorem d24 : CmOk Try.prog c24 := mcl_ok (mclSpec_of (ρ := mclRen24) mclLays24 ca24)

/-! 6: consol/consollaw44.SealOpens -/
theorem ca17 : callable Try.prog 17 := ⟨Try.f17, Try.func17, by kernel_rfl, by kernel_rfl⟩
noncomputable def E6i17 : Env := mkEnv2 Try.prog [e21] [c7i8, c7i10]
theorem ok6i17 : EnvOk E6i17 := mkEnv2_ok (by simp only [List.mem_cons, List.not_mem_nil, or_false, forall_eq]; exact p21) (by simp only [List.mem_cons, List.not_mem_nil, or_false, forall_eq_or_imp, forall_eq]; exact ⟨d7i8, d7i10⟩)
/-- a round of a loop of consol/seal.Open -/
noncomputable def s6_2 {R : Type} (t8 : (List T31)) (t9 : Int) (kn : Int → (List T31) → (List (T31 × Int)) → Option R) (k1 : (List T31) → (List (T31 × Int)) → Option R) (k2 : Option R) (t10 : Int) (o7 : (List T31)) (o8 : (List (T31 × Int))) : Option R :=
  bif (decide (t10 < t9)) then
    (idx t8 t10).bind fun x17 =>
    (m21 x17.1).bind fun r18 =>
    bif (!r18) then
      k2
    else
      (m21 x17.1).bind fun r19 =>
      bif (!r19) then
        kn (IntKind.i64.wrap (t10 + 1)) o7 o8
      else
        bif (!(Option.isSome (mapAt G31 (.int .i64) (x17.1, x17.2.1, ()) o8))) then
          asrt true (decide (List.length (α := T31) o7 + List.length (α := T31) [(x17.1, x17.2.1, ())] ≤ LIM)) (
            asrt true (Option.isNone (mapAt G31 (.int .i64) (x17.1, x17.2.1, ()) o8)) (
              kn (IntKind.i64.wrap (t10 + 1)) (o7 ++ [(x17.1, x17.2.1, ())]) (o8 ++ [((x17.1, x17.2.1, ()), (List.length o7 : Int))])))
        else
          kn (IntKind.i64.wrap (t10 + 1)) o7 o8
  else
    k1 o7 o8
noncomputable def l6_2 {R : Type} (t8 : (List T31)) (t9 : Int) (k1 : (List T31) → (List (T31 × Int)) → Option R) (k2 : Option R) : Nat → Int → (List T31) → (List (T31 × Int)) → Option R
  | 0, _, _, _ => none
  | n + 1, t10, o7, o8 => s6_2 t8 t9 (l6_2 t8 t9 k1 k2 n) k1 k2 t10 o7 o8
noncomputable def L6_2 : LE := ⟨4, 6, ⟨[(0, (.dat (.sl G31))), (4, (.box 6 [] 0)), (8, (.dat (.sl G31))), (9, (.dat (.int .i64))), (10, (.dat (.int .i64)))], [.dead, .dead, .dead, .dead, .dead, .dead, (.box (.agg (.scons (.own 7) (.scons (.mp 8) .snil)))), (.arr G31), (.map G31 (.int .i64))]⟩, fun R n x k => l6_2 x.1.2.2.1 x.1.2.2.2.1 (fun y0 y1 => k (.exit 0) ⟨[(0, (.dat (.sl G31) x.1.1)), (4, (.box 6 [] 0))], [.dead, .dead, .dead, .dead, .dead, .dead, (.box (.agg (.scons (.own 7) (.scons (.mp 8) .snil)))), (.arr G31 y0), (.map G31 (.int .i64) y1)]⟩) (k .ret ⟨[(2, .nilp), (3, (.dat (.int .i64) 1))], [.dead, .dead, .dead, .dead, .dead, .dead]⟩) n x.1.2.2.2.2.1 x.2.2.2.2.2.2.2.2.1 x.2.2.2.2.2.2.2.2.2.1⟩
/-- a round of a loop of consol/seal.Open -/
noncomputable def s6_4 {R : Type} (t9 : Int) (o6 : (List T31)) (kn : Int → (List T31) → (List (T31 × Int)) → Option R) (k1 : (List T31) → (List (T31 × Int)) → Option R) (k2 : Option R) (t10 : Int) (o8 : (List T31)) (o9 : (List (T31 × Int))) : Option R :=
  bif (decide (t10 < t9)) then
    asrt true (decide (0 ≤ t10) && decide (t10 < (List.length o6 : Int))) (
      ((o6)[(t10 : Int).toNat]?).bind fun x26 =>
      (m21 x26.1).bind fun r27 =>
      bif (!r27) then
        k2
      else
        (m21 x26.1).bind fun r28 =>
        bif (!r28) then
          kn (IntKind.i64.wrap (t10 + 1)) o8 o9
        else
          bif (!(Option.isSome (mapAt G31 (.int .i64) (x26.1, x26.2.1, ()) o9))) then
            asrt true (decide (List.length (α := T31) o8 + List.length (α := T31) [(x26.1, x26.2.1, ())] ≤ LIM)) (
              asrt true (Option.isNone (mapAt G31 (.int .i64) (x26.1, x26.2.1, ()) o9)) (
                kn (IntKind.i64.wrap (t10 + 1)) (o8 ++ [(x26.1, x26.2.1, ())]) (o9 ++ [((x26.1, x26.2.1, ()), (List.length o8 : Int))])))
          else
            kn (IntKind.i64.wrap (t10 + 1)) o8 o9)
  else
    k1 o8 o9
noncomputable def l6_4 {R : Type} (t9 : Int) (o6 : (List T31)) (k1 : (List T31) → (List (T31 × Int)) → Option R) (k2 : Option R) : Nat → Int → (List T31) → (List (T31 × Int)) → Option R
  | 0, _, _, _ => none
  | n + 1, t10, o8, o9 => s6_4 t9 o6 (l6_4 t9 o6 k1 k2 n) k1 k2 t10 o8 o9
noncomputable def L6_4 : LE := ⟨4, 7, ⟨[(0, (.own 6)), (4, (.box 7 [] 0)), (8, (.own 6)), (9, (.dat (.int .i64))), (10, (.dat (.int .i64)))], [.dead, .dead, .dead, .dead, .dead, .dead, (.arr G31), (.box (.agg (.scons (.own 8) (.scons (.mp 9) .snil)))), (.arr G31), (.map G31 (.int .i64))]⟩, fun R n x k => l6_4 x.1.2.2.2.1 x.2.2.2.2.2.2.2.1 (fun y0 y1 => k (.exit 0) ⟨[(0, (.own 6)), (4, (.box 7 [] 0))], [.dead, .dead, .dead, .dead, .dead, .dead, (.arr G31 x.2.2.2.2.2.2.2.1), (.box (.agg (.scons (.own 8) (.scons (.mp 9) .snil)))), (.arr G31 y0), (.map G31 (.int .i64) y1)]⟩) (k .ret ⟨[(2, .nilp), (3, (.dat (.int .i64) 1))], [.dead, .dead, .dead, .dead, .dead, .dead, (.arr G31 x.2.2.2.2.2.2.2.1)]⟩) n x.1.2.2.2.2.1 x.2.2.2.2.2.2.2.2.2.1 x.2.2.2.2.2.2.2.2.2.2.1⟩
/-- a round of a loop of consol/seal.Open -/
noncomputable def s6_5 {R : Type} (t9 : Int) (o9 : (List T31)) (kn : Int → (List T31) → (List (T31 × Int)) → Option R) (k1 : (List T31) → (List (T31 × Int)) → Option R) (k2 : Option R) (t10 : Int) (o11 : (List T31)) (o12 : (List (T31 × Int))) : Option R :=
  bif (decide (t10 < t9)) then
    asrt true (decide (0 ≤ t10) && decide (t10 < (List.length o9 : Int))) (
      ((o9)[(t10 : Int).toNat]?).bind fun x32 =>
      (m21 x32.1).bind fun r33 =>
      bif (!r33) then
        k2
      else
        (m21 x32.1).bind fun r34 =>
        bif (!r34) then
          kn (IntKind.i64.wrap (t10 + 1)) o11 o12
        else
          bif (!(Option.isSome (mapAt G31 (.int .i64) (x32.1, x32.2.1, ()) o12))) then
            asrt true (decide (List.length (α := T31) o11 + List.length (α := T31) [(x32.1, x32.2.1, ())] ≤ LIM)) (
              asrt true (Option.isNone (mapAt G31 (.int .i64) (x32.1, x32.2.1, ()) o12)) (
                kn (IntKind.i64.wrap (t10 + 1)) (o11 ++ [(x32.1, x32.2.1, ())]) (o12 ++ [((x32.1, x32.2.1, ()), (List.length o11 : Int))])))
          else
            kn (IntKind.i64.wrap (t10 + 1)) o11 o12)
  else
    k1 o11 o12
noncomputable def l6_5 {R : Type} (t9 : Int) (o9 : (List T31)) (k1 : (List T31) → (List (T31 × Int)) → Option R) (k2 : Option R) : Nat → Int → (List T31) → (List (T31 × Int)) → Option R
  | 0, _, _, _ => none
  | n + 1, t10, o11, o12 => s6_5 t9 o9 (l6_5 t9 o9 k1 k2 n) k1 k2 t10 o11 o12
noncomputable def L6_5 : LE := ⟨4, 10, ⟨[(0, (.own 9)), (4, (.box 10 [] 0)), (8, (.own 9)), (9, (.dat (.int .i64))), (10, (.dat (.int .i64)))], [.dead, .dead, .dead, .dead, .dead, .dead, .dead, .dead, .dead, (.arr G31), (.box (.agg (.scons (.own 11) (.scons (.mp 12) .snil)))), (.arr G31), (.map G31 (.int .i64))]⟩, fun R n x k => l6_5 x.1.2.2.2.1 x.2.2.2.2.2.2.2.2.2.2.1 (fun y0 y1 => k (.exit 0) ⟨[(0, (.own 9)), (4, (.box 10 [] 0))], [.dead, .dead, .dead, .dead, .dead, .dead, .dead, .dead, .dead, (.arr G31 x.2.2.2.2.2.2.2.2.2.2.1), (.box (.agg (.scons (.own 11) (.scons (.mp 12) .snil)))), (.arr G31 y0), (.map G31 (.int .i64) y1)]⟩) (k .ret ⟨[(2, .nilp), (3, (.dat (.int .i64) 1))], [.dead, .dead, .dead, .dead, .dead, .dead, .dead, .dead, .dead, (.arr G31 x.2.2.2.2.2.2.2.2.2.2.1)]⟩) n x.1.2.2.2.2.1 x.2.2.2.2.2.2.2.2.2.2.2.2.1 x.2.2.2.2.2.2.2.2.2.2.2.2.2.1⟩
/-- a round of a loop of consol/seal.Open -/
noncomputable def s6_6 {R : Type} (t9 : Int) (o12 : (List T31)) (kn : Int → (List T31) → (List (T31 × Int)) → Option R) (k1 : (List T31) → (List (T31 × Int)) → Option R) (k2 : Option R) (t10 : Int) (o14 : (List T31)) (o15 : (List (T31 × Int))) : Option R :=
  bif (decide (t10 < t9)) then
    asrt true (decide (0 ≤ t10) && decide (t10 < (List.length o12 : Int))) (
      ((o12)[(t10 : Int).toNat]?).bind fun x38 =>
      (m21 x38.1).bind fun r39 =>
      bif (!r39) then
        k2
      else
        (m21 x38.1).bind fun r40 =>
        bif (!r40) then
          kn (IntKind.i64.wrap (t10 + 1)) o14 o15
        else
          bif (!(Option.isSome (mapAt G31 (.int .i64) (x38.1, x38.2.1, ()) o15))) then
            asrt true (decide (List.length (α := T31) o14 + List.length (α := T31) [(x38.1, x38.2.1, ())] ≤ LIM)) (
              asrt true (Option.isNone (mapAt G31 (.int .i64) (x38.1, x38.2.1, ()) o15)) (
                kn (IntKind.i64.wrap (t10 + 1)) (o14 ++ [(x38.1, x38.2.1, ())]) (o15 ++ [((x38.1, x38.2.1, ()), (List.length o14 : Int))])))
          else
            kn (IntKind.i64.wrap (t10 + 1)) o14 o15)
  else
    k1 o14 o15
noncomputable def l6_6 {R : Type} (t9 : Int) (o12 : (List T31)) (k1 : (List T31) → (List (T31 × Int)) → Option R) (k2 : Option R) : Nat → Int → (List T31) → (List (T31 × Int)) → Option R
  | 0, _, _, _ => none
  | n + 1, t10, o14, o15 => s6_6 t9 o12 (l6_6 t9 o12 k1 k2 n) k1 k2 t10 o14 o15
noncomputable def L6_6 : LE := ⟨4, 13, ⟨[(0, (.own 12)), (4, (.box 13 [] 0)), (8, (.own 12)), (9, (.dat (.int .i64))), (10, (.dat (.int .i64)))], [.dead, .dead, .dead, .dead, .dead, .dead, .dead, .dead, .dead, .dead, .dead, .dead, (.arr G31), (.box (.agg (.scons (.own 14) (.scons (.mp 15) .snil)))), (.arr G31), (.map G31 (.int .i64))]⟩, fun R n x k => l6_6 x.1.2.2.2.1 x.2.2.2.2.2.2.2.2.2.2.2.2.2.1 (fun y0 y1 => k (.exit 0) ⟨[(0, (.own 12)), (4, (.box 13 [] 0))], [.dead, .dead, .dead, .dead, .dead, .dead, .dead, .dead, .dead, .dead, .dead, .dead, (.arr G31 x.2.2.2.2.2.2.2.2.2.2.2.2.2.1), (.box (.agg (.scons (.own 14) (.scons (.mp 15) .snil)))), (.arr G31 y0), (.map G31 (.int .i64) y1)]⟩) (k .ret ⟨[(2, .nilp), (3, (.dat (.int .i64) 1))], [.dead, .dead, .dead, .dead, .dead, .dead, .dead, .dead, .dead, .dead, .dead, .dead, (.arr G31 x.2.2.2.2.2.2.2.2.2.2.2.2.2.1)]⟩) n x.1.2.2.2.2.1 x.2.2.2.2.2.2.2.2.2.2.2.2.2.2.2.1 x.2.2.2.2.2.2.2.2.2.2.2.2.2.2.2.2.1⟩
noncomputable def C6i17 : Cfg := mkCfg [(4, ⟨[0, 4, 8, 9, 10], [(4, [0], G31)], []⟩)] [(4, (⟨[0, 4], [], []⟩, ⟨[2, 3], [], []⟩))] (([(0, L6_2), (0, L6_4), (0, L6_5), (0, L6_6)] : List (Nat × LE)).map (·.2))
theorem ek6_2 : EOk E6i17 C6i17 Try.f17.ntmps (bodyL Try.f17 0) L6_2 := eok_of (e := L6_2) (fun R x Kn k => s6_2 x.1.2.2.1 x.1.2.2.2.1 (fun v0 v1 v2 => Kn ((x.1.1, (), x.1.2.2.1, x.1.2.2.2.1, v0, ()), ((), (), (), (), (), (), ((), (), ()), v1, v2, ()))) (fun y0 y1 => k (.exit 0) ⟨[(0, (.dat (.sl G31) x.1.1)), (4, (.box 6 [] 0))], [.dead, .dead, .dead, .dead, .dead, .dead, (.box (.agg (.scons (.own 7) (.scons (.mp 8) .snil)))), (.arr G31 y0), (.map G31 (.int .i64) y1)]⟩) (k .ret ⟨[(2, .nilp), (3, (.dat (.int .i64) 1))], [.dead, .dead, .dead, .dead, .dead, .dead]⟩) x.1.2.2.2.2.1 x.2.2.2.2.2.2.2.2.1 x.2.2.2.2.2.2.2.2.2.1) (fun _ _ _ => rfl) (fun _ _ _ _ => rfl) (fun R x Kn k => by kernel_rfl)
theorem ek6_4 : EOk E6i17 C6i17 Try.f17.ntmps (bodyL Try.f17 0) L6_4 := eok_of (e := L6_4) (fun R x Kn k => s6_4 x.1.2.2.2.1 x.2.2.2.2.2.2.2.1 (fun v0 v1 v2 => Kn (((), (), (), x.1.2.2.2.1, v0, ()), ((), (), (), (), (), (), x.2.2.2.2.2.2.2.1, ((), (), ()), v1, v2, ()))) (fun y0 y1 => k (.exit 0) ⟨[(0, (.own 6)), (4, (.box 7 [] 0))], [.dead, .dead, .dead, .dead, .dead, .dead, (.arr G31 x.2.2.2.2.2.2.2.1), (.box (.agg (.scons (.own 8) (.scons (.mp 9) .snil)))), (.arr G31 y0), (.map G31 (.int .i64) y1)]⟩) (k .ret ⟨[(2, .nilp), (3, (.dat (.int .i64) 1))], [.dead, .dead, .dead, .dead, .dead, .dead, (.arr G31 x.2.2.2.2.2.2.2.1)]⟩) x.1.2.2.2.2.1 x.2.2.2.2.2.2.2.2.2.1 x.2.2.2.2.2.2.2.2.2.2.1) (fun _ _ _ => rfl) (fun _ _ _ _ => rfl) (fun R x Kn k => by kernel_rfl)
theorem ek6_5 : EOk E6i17 C6i17 Try.f17.ntmps (bodyL Try.f17 0) L6_5 := eok_of (e := L6_5) (fun R x Kn k => s6_5 x.1.2.2.2.1 x.2.2.2.2.2.2.2.2.2.2.1 (fun v0 v1 v2 => Kn (((), (), (), x.1.2.2.2.1, v0, ()), ((), (), (), (), (), (), (), (), (), x.2.2.2.2.2.2.2.2.2.2.1, ((), (), ()), v1, v2, ()))) (fun y0 y1 => k (.exit 0) ⟨[(0, (.own 9)), (4, (.box 10 [] 0))], [.dead, .dead, .dead, .dead, .dead, .dead, .dead, .dead, .dead, (.arr G31 x.2.2.2.2.2.2.2.2.2.2.1), (.box (.agg (.scons (.own 11) (.scons (.mp 12) .snil)))), (.arr G31 y0), (.map G31 (.int .i64) y1)]⟩) (k .ret ⟨[(2, .nilp), (3, (.dat (.int .i64) 1))], [.dead, .dead, .dead, .dead, .dead, .dead, .dead, .dead, .dead, (.arr G31 x.2.2.2.2.2.2.2.2.2.2.1)]⟩) x.1.2.2.2.2.1 x.2.2.2.2.2.2.2.2.2.2.2.2.1 x.2.2.2.2.2.2.2.2.2.2.2.2.2.1) (fun _ _ _ => rfl) (fun _ _ _ _ => rfl) (fun R x Kn k => by kernel_rfl)
theorem ek6_6 : EOk E6i17 C6i17 Try.f17.ntmps (bodyL Try.f17 0) L6_6 := eok_of (e := L6_6) (fun R x Kn k => s6_6 x.1.2.2.2.1 x.2.2.2.2.2.2.2.2.2.2.2.2.2.1 (fun v0 v1 v2 => Kn (((), (), (), x.1.2.2.2.1, v0, ()), ((), (), (), (), (), (), (), (), (), (), (), (), x.2.2.2.2.2.2.2.2.2.2.2.2.2.1, ((), (), ()), v1, v2, ()))) (fun y0 y1 => k (.exit 0) ⟨[(0, (.own 12)), (4, (.box 13 [] 0))], [.dead, .dead, .dead, .dead, .dead, .dead, .dead, .dead, .dead, .dead, .dead, .dead, (.arr G31 x.2.2.2.2.2.2.2.2.2.2.2.2.2.1), (.box (.agg (.scons (.own 14) (.scons (.mp 15) .snil)))), (.arr G31 y0), (.map G31 (.int .i64) y1)]⟩) (k .ret ⟨[(2, .nilp), (3, (.dat (.int .i64) 1))], [.dead, .dead, .dead, .dead, .dead, .dead, .dead, .dead, .dead, .dead, .dead, .dead, (.arr G31 x.2.2.2.2.2.2.2.2.2.2.2.2.2.1)]⟩) x.1.2.2.2.2.1 x.2.2.2.2.2.2.2.2.2.2.2.2.2.2.2.1 x.2.2.2.2.2.2.2.2.2.2.2.2.2.2.2.2.1) (fun _ _ _ => rfl) (fun _ _ _ _ => rfl) (fun R x Kn k => by kernel_rfl)
theorem lm6i17 : ∀ c, Try.f17.body = some c → LmOk E6i17 C6i17 Try.f17.ntmps c := lmOk_of (ps := [(0, L6_2), (0, L6_4), (0, L6_5), (0, L6_6)]) (by kernel_rfl) (by kernel_rfl) ⟨ek6_2, ek6_4, ek6_5, ek6_6, trivial⟩
noncomputable def c6i17 : CmE := inl E6i17 C6i17 17 Try.f17
theorem d6i17 : CmOk Try.prog c6i17 := inl_ok (E := E6i17) ok6i17 ord lm6i17 Try.func17 ca17

theorem ca20 : callable Try.prog 20 := ⟨Try.f20, Try.func20, by kernel_rfl, by kernel_rfl⟩
noncomputable def E6i20 : Env := mkEnv2 Try.prog [] [c22, c24]
theorem ok6i20 : EnvOk E6i20 := mkEnv2_ok (by simp) (by simp only [List.mem_cons, List.not_mem_nil, or_false, forall_eq_or_imp, forall_eq]; exact ⟨d22, d24⟩)
noncomputable def C6i20 : Cfg := noCfg
theorem lm6i20 : ∀ c, Try.f20.body = some c → LmOk E6i20 C6i20 Try.f20.ntmps c := fun _ _ => noCfg_lm
noncomputable def c6i20 : CmE := inl E6i20 C6i20 20 Try.f20
theorem d6i20 : CmOk Try.prog c6i20 := inl_ok (E := E6i20) ok6i20 ord lm6i20 Try.func20 ca20

theorem ca6 : callable Try.prog 6 := ⟨Try.f6, Try.func6, by kernel_rfl, by kernel_rfl⟩
noncomputable def E6 : Env := mkEnv2 Try.prog [e7, e9, e12] [c7i8, c7i10, c7i11, c7i13, c6i17, c6i20]
theorem ok6 : EnvOk E6 := mkEnv2_ok (by simp only [List.mem_cons, List.not_mem_nil, or_false, forall_eq_or_imp, forall_eq]; exact ⟨p7, p9, p12⟩) (by simp only [List.mem_cons, List.not_mem_nil, or_false, forall_eq_or_imp, forall_eq]; exact ⟨d7i8, d7i10, d7i11, d7i13, d6i17, d6i20⟩)
/-- a round of a loop of consol/consollaw44.SealOpens -/
noncomputable def s6_1 {R : Type} (t0 : (List T31)) (kn : Int → (List T23) → (List T31) → (List (T31 × Int)) → Option R) (k1 : (List T23) → (List T31) → (List (T31 × Int)) → Option R) (t8 : Int) (o2 : (List T23)) (o3 : (List T31)) (o4 : (List (T31 × Int))) : Option R :=
  bif (decide (t8 < (List.length t0 : Int))) then
    cont (fun (k12 : ((List T23) × (List T31) × (List (T31 × Int))) → _) =>
      (idx t0 t8).bind fun x3 =>
      (idx t0 t8).bind fun x4 =>
      (m21 x3.1).bind fun r5 =>
      bif (!r5) then
        (idx t0 t8).bind fun x6 =>
        (idxG ((decide (x6.1 ≥ 0)) == true) (0, ([] : (List UInt8)), ()) t0 t8).bind fun x7 =>
        bif ((decide (x6.1 ≥ 0)) && (decide (x7.1 < 200))) then
          asrt true (decide (List.length (α := T23) o2 + List.length (α := T23) [(0, ([] : List UInt8), 0, ())] ≤ LIM)) (
            k12 ((o2 ++ [(0, ([] : List UInt8), 0, ())]), o3, o4))
        else
          k12 (o2, o3, o4)
      else
        bif (!(Option.isSome (mapAt G31 (.int .i64) (x3.1, x4.2.1, ()) o4))) then
          asrt true (decide (List.length (α := T31) o3 + List.length (α := T31) [(x3.1, x4.2.1, ())] ≤ LIM)) (
            asrt true (Option.isNone (mapAt G31 (.int .i64) (x3.1, x4.2.1, ()) o4)) (
              (idx t0 t8).bind fun x8 =>
              (idxG ((decide (x8.1 ≥ 0)) == true) (0, ([] : (List UInt8)), ()) t0 t8).bind fun x9 =>
              bif ((decide (x8.1 ≥ 0)) && (decide (x9.1 < 200))) then
                asrt true (decide (List.length (α := T23) o2 + List.length (α := T23) [(x3.1, x4.2.1, (List.length o3 : Int), ())] ≤ LIM)) (
                  k12 ((o2 ++ [(x3.1, x4.2.1, (List.length o3 : Int), ())]), (o3 ++ [(x3.1, x4.2.1, ())]), (o4 ++ [((x3.1, x4.2.1, ()), (List.length o3 : Int))])))
              else
                k12 (o2, (o3 ++ [(x3.1, x4.2.1, ())]), (o4 ++ [((x3.1, x4.2.1, ()), (List.length o3 : Int))]))))
        else
          (idx t0 t8).bind fun x10 =>
          (idxG ((decide (x10.1 ≥ 0)) == true) (0, ([] : (List UInt8)), ()) t0 t8).bind fun x11 =>
          bif ((decide (x10.1 ≥ 0)) && (decide (x11.1 < 200))) then
            asrt true (decide (List.length (α := T23) o2 + List.length (α := T23) [(x3.1, x4.2.1, (Option.getD (mapAt G31 (.int .i64) (x3.1, x4.2.1, ()) o4) 0), ())] ≤ LIM)) (
              k12 ((o2 ++ [(x3.1, x4.2.1, (Option.getD (mapAt G31 (.int .i64) (x3.1, x4.2.1, ()) o4) 0), ())]), o3, o4))
          else
            k12 (o2, o3, o4)) fun y12 =>
    kn (IntKind.i64.wrap (t8 + 1)) y12.1 y12.2.1 y12.2.2
  else
    k1 o2 o3 o4
noncomputable def l6_1 {R : Type} (t0 : (List T31)) (k1 : (List T23) → (List T31) → (List (T31 × Int)) → Option R) : Nat → Int → (List T23) → (List T31) → (List (T31 × Int)) → Option R
  | 0, _, _, _, _ => none
  | n + 1, t8, o2, o3, o4 => s6_1 t0 (l6_1 t0 k1 n) k1 t8 o2 o3 o4
noncomputable def L6_1 : LE := ⟨8, 0, ⟨[(0, (.dat (.sl G31))), (3, (.box 0 [] 0)), (5, (.dat .bool)), (6, (.box 1 [] 0)), (7, (.own 2)), (8, (.dat (.int .i64)))], [(.box (.dat G31)), (.box (.agg (.scons (.own 3) (.scons (.mp 4) .snil)))), (.arr G23), (.arr G31), (.map G31 (.int .i64))]⟩, fun R n x k => l6_1 x.1.1 (fun y0 y1 y2 => k (.exit 0) ⟨[(3, (.box 0 [] 0)), (5, (.dat .bool x.1.2.2.1)), (6, (.box 1 [] 0)), (7, (.own 2))], [(.box (.dat G31 x.2.1)), (.box (.agg (.scons (.own 3) (.scons (.mp 4) .snil)))), (.arr G23 y0), (.arr G31 y1), (.map G31 (.int .i64) y2)]⟩) n x.1.2.2.2.2.2.1 x.2.2.2.1 x.2.2.2.2.1 x.2.2.2.2.2.1⟩
/-- a round of a loop of consol/consollaw44.SealOpens -/
noncomputable def s6_3 {R : Type} (o2 : (List T23)) (o7 : (List (T31 × Int))) (kn : Int → Option R) (k1 : Option R) (k2 : Option R) (t13 : Int) : Option R :=
  bif (decide (t13 < (List.length o2 : Int))) then
    asrt true (decide (0 ≤ t13) && decide (t13 < (List.length o2 : Int))) (
      ((o2)[(t13 : Int).toNat]?).bind fun x24 =>
      bif (!((Option.isSome (mapAt G31 (.int .i64) (x24.1, x24.2.1, ()) o7)) && ((Option.getD (mapAt G31 (.int .i64) (x24.1, x24.2.1, ()) o7) 0) == x24.2.2.1))) then
        k2
      else
        kn (IntKind.i64.wrap (t13 + 1)))
  else
    k1
noncomputable def l6_3 {R : Type} (o2 : (List T23)) (o7 : (List (T31 × Int))) (k1 : Option R) (k2 : Option R) : Nat → Int → Option R
  | 0, _ => none
  | n + 1, t13 => s6_3 o2 o7 (l6_3 o2 o7 k1 k2 n) k1 k2 t13
noncomputable def L6_3 : LE := ⟨20, 0, ⟨[(3, (.box 0 [] 0)), (5, (.dat .bool)), (6, (.box 1 [] 0)), (7, (.own 2)), (10, (.dat (.sl G31))), (11, (.box 3 [] 0)), (13, (.dat (.int .i64)))], [(.box (.dat G31)), (.box (.agg (.scons (.own 4) (.scons (.mp 5) .snil)))), (.arr G23), (.box (.agg (.scons (.own 6) (.scons (.mp 7) .snil)))), (.arr G31), (.map G31 (.int .i64)), (.arr G31), (.map G31 (.int .i64))]⟩, fun R n x k => l6_3 x.2.2.2.1 x.2.2.2.2.2.2.2.2.1 (k (.exit 2) ⟨[(3, (.box 0 [] 0)), (5, (.dat .bool x.1.2.1)), (6, (.box 1 [] 0)), (10, (.dat (.sl G31) x.1.2.2.2.2.1))], [(.box (.dat G31 x.2.1)), (.box (.agg (.scons (.own 2) (.scons (.mp 3) .snil)))), (.arr G31 x.2.2.2.2.2.1), (.map G31 (.int .i64) x.2.2.2.2.2.2.1)]⟩) (k .ret ⟨[(4, (.dat .bool false))], []⟩) n x.1.2.2.2.2.2.2.1⟩
noncomputable def C6 : Cfg := mkCfg [(8, ⟨[0, 3, 5, 6, 7, 8], [(6, [0], G31), (7, [], G23)], []⟩), (9, ⟨[0, 3, 5, 6, 7, 8], [(6, [0], G31), (7, [], G23)], []⟩), (20, ⟨[3, 5, 6, 7, 10, 11, 13], [], []⟩), (29, ⟨[3, 5, 6, 10], [], []⟩)] [(8, (⟨[3, 5, 6, 7], [], []⟩, ⟨[4], [], []⟩)), (20, (⟨[3, 5, 6, 10], [], []⟩, ⟨[4], [], []⟩))] (([(0, L6_1), (1, L6_3)] : List (Nat × LE)).map (·.2)) [] [(13, [(10, [], (.sl G31))])]
theorem ek6_1 : EOk E6 C6 Try.f6.ntmps (bodyL Try.f6 0) L6_1 := eok_of (e := L6_1) (fun R x Kn k => s6_1 x.1.1 (fun v0 v1 v2 v3 => Kn ((x.1.1, (), x.1.2.2.1, (), (), v0, ()), (x.2.1, ((), (), ()), v1, v2, v3, ()))) (fun y0 y1 y2 => k (.exit 0) ⟨[(3, (.box 0 [] 0)), (5, (.dat .bool x.1.2.2.1)), (6, (.box 1 [] 0)), (7, (.own 2))], [(.box (.dat G31 x.2.1)), (.box (.agg (.scons (.own 3) (.scons (.mp 4) .snil)))), (.arr G23 y0), (.arr G31 y1), (.map G31 (.int .i64) y2)]⟩) x.1.2.2.2.2.2.1 x.2.2.2.1 x.2.2.2.2.1 x.2.2.2.2.2.1) (fun _ _ _ => rfl) (fun _ _ _ _ => rfl) (fun R x Kn k => by kernel_rfl)
theorem ek6_3 : EOk E6 C6 Try.f6.ntmps (bodyL Try.f6 1) L6_3 := eok_of (e := L6_3) (fun R x Kn k => s6_3 x.2.2.2.1 x.2.2.2.2.2.2.2.2.1 (fun v0 => Kn (((), x.1.2.1, (), (), x.1.2.2.2.2.1, (), v0, ()), (x.2.1, ((), (), ()), x.2.2.2.1, ((), (), ()), x.2.2.2.2.2.1, x.2.2.2.2.2.2.1, x.2.2.2.2.2.2.2.1, x.2.2.2.2.2.2.2.2.1, ()))) (k (.exit 2) ⟨[(3, (.box 0 [] 0)), (5, (.dat .bool x.1.2.1)), (6, (.box 1 [] 0)), (10, (.dat (.sl G31) x.1.2.2.2.2.1))], [(.box (.dat G31 x.2.1)), (.box (.agg (.scons (.own 2) (.scons (.mp 3) .snil)))), (.arr G31 x.2.2.2.2.2.1), (.map G31 (.int .i64) x.2.2.2.2.2.2.1)]⟩) (k .ret ⟨[(4, (.dat .bool false))], []⟩) x.1.2.2.2.2.2.2.1) (fun _ _ _ => rfl) (fun _ _ _ _ => rfl) (fun R x Kn k => by kernel_rfl)
theorem lm6 : ∀ c, Try.f6.body = some c → LmOk E6 C6 Try.f6.ntmps c := lmOk_of (ps := [(0, L6_1), (1, L6_3)]) (by kernel_rfl) (by kernel_rfl) ⟨ek6_1, ek6_3, trivial⟩
noncomputable def m6 (a0 : (List T31)) (a1 : T31) : Option (Bool) :=
  (m7).bind fun r1 =>
  (m9 a0 40).bind fun r2 =>
  bif (bif ((!r2) || (decide ((List.length a1.2.1 : Int) > 500))) then true else false) then
    some (bif r1 then true else false)
  else
    l6_1 a0 (fun y13 y14 y15 =>
        (cloneM y14).bind fun r16 =>
        l6_2 r16 (List.length r16 : Int) (fun y20 y21 =>
            bif (decide ((List.length y20 : Int) < (List.length r16 : Int))) then
              some false
            else
              (cloneM y20).bind fun r22 =>
              (m12 r22 r16).bind fun r23 =>
              bif (!r23) then
                some false
              else
                l6_3 y13 y21 (
                    cont (fun (k46 : Unit → _) =>
                      bif (decide ((List.length r16 : Int) > 0)) then
                        asrt true (decide (List.length (α := T31) r16 ≤ LIM)) (
                          (idx r16 (IntKind.i64.wrap ((List.length r16 : Int) - 1))).bind fun x25 =>
                          asrt true (decide (List.length (α := T31) r16 + List.length (α := T31) [x25] ≤ LIM)) (
                            l6_4 (List.length (r16 ++ [x25]) : Int) (r16 ++ [x25]) (fun y29 y30 =>
                                bif (decide ((List.length y29 : Int) < (List.length (r16 ++ [x25]) : Int))) then
                                  asrt true (decide (List.length (α := T31) r16 ≤ LIM)) (
                                    (idx r16 0).bind fun x37 =>
                                    asrt true (decide (List.length (α := T31) r16 + List.length (α := T31) [x37, (200, ([] : List UInt8), ())] ≤ LIM)) (
                                      l6_6 (List.length (r16 ++ [x37, (200, ([] : List UInt8), ())]) : Int) (r16 ++ [x37, (200, ([] : List UInt8), ())]) (fun y41 y42 =>
                                          bif (decide ((List.length y41 : Int) < (List.length (r16 ++ [x37, (200, ([] : List UInt8), ())]) : Int))) then
                                            some false
                                          else
                                            some false) (
                                          k46 ()) FUEL 0 [] []))
                                else
                                  asrt true (decide (List.length (α := T31) r16 ≤ LIM)) (
                                    (idx r16 0).bind fun x43 =>
                                    asrt true (decide (List.length (α := T31) r16 + List.length (α := T31) [x43, (200, ([] : List UInt8), ())] ≤ LIM)) (
                                      l6_6 (List.length (r16 ++ [x43, (200, ([] : List UInt8), ())]) : Int) (r16 ++ [x43, (200, ([] : List UInt8), ())]) (fun y44 y45 =>
                                          bif (decide ((List.length y44 : Int) < (List.length (r16 ++ [x43, (200, ([] : List UInt8), ())]) : Int))) then
                                            some false
                                          else
                                            some false) (
                                          some false) FUEL 0 [] []))) (
                                asrt true (decide (List.length (α := T31) r16 ≤ LIM)) (
                                  (idx r16 0).bind fun x31 =>
                                  asrt true (decide (List.length (α := T31) r16 + List.length (α := T31) [x31, (200, ([] : List UInt8), ())] ≤ LIM)) (
                                    l6_5 (List.length (r16 ++ [x31, (200, ([] : List UInt8), ())]) : Int) (r16 ++ [x31, (200, ([] : List UInt8), ())]) (fun y35 y36 =>
                                        bif (decide ((List.length y35 : Int) < (List.length (r16 ++ [x31, (200, ([] : List UInt8), ())]) : Int))) then
                                          some false
                                        else
                                          some false) (
                                        some false) FUEL 0 [] []))) FUEL 0 [] []))
                      else
                        k46 ()) fun _ =>
                    (cloneM y14).bind fun r47 =>
                    (cloneM r47).bind fun r48 =>
                    (m21 a1.1).bind fun r49 =>
                    bif (!r49) then
                      (cloneM y14).bind fun r50 =>
                      (cloneM r47).bind fun r51 =>
                      bif (((List.length r51 : Int) != (List.length r48 : Int)) == false) then
                        (cloneM r47).bind fun r52 =>
                        (bif (((List.length r51 : Int) != (List.length r48 : Int)) == false) then (m12 r52 r16) else some false).bind fun r53 =>
                        bif (((List.length r51 : Int) != (List.length r48 : Int)) || (!r53)) then
                          some false
                        else
                          asrt true (decide (a1.2.1.length + ([120] : List UInt8).length ≤ 4294967296)) (
                            (m21 0).bind fun r55 =>
                            bif (!r55) then
                              bif (r1 == true) then
                                (cloneM y14).bind fun r56 =>
                                (bif (r1 == true) then (m12 r56 r50) else some false).bind fun r57 =>
                                some (r1 && r57)
                              else
                                (bif (r1 == true) then (m12 [] r50) else some false).bind fun r58 =>
                                some (r1 && r58)
                            else
                              bif (!(Option.isSome (mapAt G31 (.int .i64) (0, (a1.2.1 ++ [120]), ()) y15))) then
                                asrt true (decide (List.length (α := T31) r47 + List.length (α := T31) [(0, (a1.2.1 ++ [120]), ())] ≤ LIM)) (
                                  asrt true (Option.isNone (mapAt G31 (.int .i64) (0, (a1.2.1 ++ [120]), ()) y15)) (
                                    bif (r1 == true) then
                                      (cloneM y14).bind fun r59 =>
                                      (bif (r1 == true) then (m12 r59 r50) else some false).bind fun r60 =>
                                      some (r1 && r60)
                                    else
                                      (bif (r1 == true) then (m12 [] r50) else some false).bind fun r61 =>
                                      some (r1 && r61)))
                              else
                                bif (r1 == true) then
                                  (cloneM y14).bind fun r62 =>
                                  (bif (r1 == true) then (m12 r62 r50) else some false).bind fun r63 =>
                                  some (r1 && r63)
                                else
                                  (bif (r1 == true) then (m12 [] r50) else some false).bind fun r64 =>
                                  some (r1 && r64))
                      else
                        (bif (((List.length r51 : Int) != (List.length r48 : Int)) == false) then (m12 [] r16) else some false).bind fun r54 =>
                        bif (((List.length r51 : Int) != (List.length r48 : Int)) || (!r54)) then
                          some false
                        else
                          asrt true (decide (a1.2.1.length + ([120] : List UInt8).length ≤ 4294967296)) (
                            (m21 0).bind fun r65 =>
                            bif (!r65) then
                              bif (r1 == true) then
                                (cloneM y14).bind fun r66 =>
                                (bif (r1 == true) then (m12 r66 r50) else some false).bind fun r67 =>
                                some (r1 && r67)
                              else
                                (bif (r1 == true) then (m12 [] r50) else some false).bind fun r68 =>
                                some (r1 && r68)
                            else
                              bif (!(Option.isSome (mapAt G31 (.int .i64) (0, (a1.2.1 ++ [120]), ()) y15))) then
                                asrt true (decide (List.length (α := T31) r47 + List.length (α := T31) [(0, (a1.2.1 ++ [120]), ())] ≤ LIM)) (
                                  asrt true (Option.isNone (mapAt G31 (.int .i64) (0, (a1.2.1 ++ [120]), ()) y15)) (
                                    bif (r1 == true) then
                                      (cloneM y14).bind fun r69 =>
                                      (bif (r1 == true) then (m12 r69 r50) else some false).bind fun r70 =>
                                      some (r1 && r70)
                                    else
                                      (bif (r1 == true) then (m12 [] r50) else some false).bind fun r71 =>
                                      some (r1 && r71)))
                              else
                                bif (r1 == true) then
                                  (cloneM y14).bind fun r72 =>
                                  (bif (r1 == true) then (m12 r72 r50) else some false).bind fun r73 =>
                                  some (r1 && r73)
                                else
                                  (bif (r1 == true) then (m12 [] r50) else some false).bind fun r74 =>
                                  some (r1 && r74))
                    else
                      bif (!(Option.isSome (mapAt G31 (.int .i64) (a1.1, a1.2.1, ()) y15))) then
                        asrt true (decide (List.length (α := T31) y14 + List.length (α := T31) [(a1.1, a1.2.1, ())] ≤ LIM)) (
                          asrt true (Option.isNone (mapAt G31 (.int .i64) (a1.1, a1.2.1, ()) y15)) (
                            (cloneM (y14 ++ [(a1.1, a1.2.1, ())])).bind fun r75 =>
                            (cloneM r47).bind fun r76 =>
                            bif (((List.length r76 : Int) != (List.length r48 : Int)) == false) then
                              (cloneM r47).bind fun r77 =>
                              (bif (((List.length r76 : Int) != (List.length r48 : Int)) == false) then (m12 r77 r16) else some false).bind fun r78 =>
                              bif (((List.length r76 : Int) != (List.length r48 : Int)) || (!r78)) then
                                some false
                              else
                                asrt true (decide (a1.2.1.length + ([120] : List UInt8).length ≤ 4294967296)) (
                                  (m21 0).bind fun r80 =>
                                  bif (!r80) then
                                    bif (r1 == true) then
                                      (cloneM (y14 ++ [(a1.1, a1.2.1, ())])).bind fun r81 =>
                                      (bif (r1 == true) then (m12 r81 r75) else some false).bind fun r82 =>
                                      some (r1 && r82)
                                    else
                                      (bif (r1 == true) then (m12 [] r75) else some false).bind fun r83 =>
                                      some (r1 && r83)
                                  else
                                    bif (!(Option.isSome (mapAt G31 (.int .i64) (0, (a1.2.1 ++ [120]), ()) y15))) then
                                      asrt true (decide (List.length (α := T31) r47 + List.length (α := T31) [(0, (a1.2.1 ++ [120]), ())] ≤ LIM)) (
                                        asrt true (Option.isNone (mapAt G31 (.int .i64) (0, (a1.2.1 ++ [120]), ()) y15)) (
                                          bif (r1 == true) then
                                            (cloneM (y14 ++ [(a1.1, a1.2.1, ())])).bind fun r84 =>
                                            (bif (r1 == true) then (m12 r84 r75) else some false).bind fun r85 =>
                                            some (r1 && r85)
                                          else
                                            (bif (r1 == true) then (m12 [] r75) else some false).bind fun r86 =>
                                            some (r1 && r86)))
                                    else
                                      bif (r1 == true) then
                                        (cloneM (y14 ++ [(a1.1, a1.2.1, ())])).bind fun r87 =>
                                        (bif (r1 == true) then (m12 r87 r75) else some false).bind fun r88 =>
                                        some (r1 && r88)
                                      else
                                        (bif (r1 == true) then (m12 [] r75) else some false).bind fun r89 =>
                                        some (r1 && r89))
                            else
                              (bif (((List.length r76 : Int) != (List.length r48 : Int)) == false) then (m12 [] r16) else some false).bind fun r79 =>
                              bif (((List.length r76 : Int) != (List.length r48 : Int)) || (!r79)) then
                                some false
                              else
                                asrt true (decide (a1.2.1.length + ([120] : List UInt8).length ≤ 4294967296)) (
                                  (m21 0).bind fun r90 =>
                                  bif (!r90) then
                                    bif (r1 == true) then
                                      (cloneM (y14 ++ [(a1.1, a1.2.1, ())])).bind fun r91 =>
                                      (bif (r1 == true) then (m12 r91 r75) else some false).bind fun r92 =>
                                      some (r1 && r92)
                                    else
                                      (bif (r1 == true) then (m12 [] r75) else some false).bind fun r93 =>
                                      some (r1 && r93)
                                  else
                                    bif (!(Option.isSome (mapAt G31 (.int .i64) (0, (a1.2.1 ++ [120]), ()) y15))) then
                                      asrt true (decide (List.length (α := T31) r47 + List.length (α := T31) [(0, (a1.2.1 ++ [120]), ())] ≤ LIM)) (
                                        asrt true (Option.isNone (mapAt G31 (.int .i64) (0, (a1.2.1 ++ [120]), ()) y15)) (
                                          bif (r1 == true) then
                                            (cloneM (y14 ++ [(a1.1, a1.2.1, ())])).bind fun r94 =>
                                            (bif (r1 == true) then (m12 r94 r75) else some false).bind fun r95 =>
                                            some (r1 && r95)
                                          else
                                            (bif (r1 == true) then (m12 [] r75) else some false).bind fun r96 =>
                                            some (r1 && r96)))
                                    else
                                      bif (r1 == true) then
                                        (cloneM (y14 ++ [(a1.1, a1.2.1, ())])).bind fun r97 =>
                                        (bif (r1 == true) then (m12 r97 r75) else some false).bind fun r98 =>
                                        some (r1 && r98)
                                      else
                                        (bif (r1 == true) then (m12 [] r75) else some false).bind fun r99 =>
                                        some (r1 && r99))))
                      else
                        (cloneM y14).bind fun r100 =>
                        (cloneM r47).bind fun r101 =>
                        bif (((List.length r101 : Int) != (List.length r48 : Int)) == false) then
                          (cloneM r47).bind fun r102 =>
                          (bif (((List.length r101 : Int) != (List.length r48 : Int)) == false) then (m12 r102 r16) else some false).bind fun r103 =>
                          bif (((List.length r101 : Int) != (List.length r48 : Int)) || (!r103)) then
                            some false
                          else
                            asrt true (decide (a1.2.1.length + ([120] : List UInt8).length ≤ 4294967296)) (
                              (m21 0).bind fun r105 =>
                              bif (!r105) then
                                bif (r1 == true) then
                                  (cloneM y14).bind fun r106 =>
                                  (bif (r1 == true) then (m12 r106 r100) else some false).bind fun r107 =>
                                  some (r1 && r107)
                                else
                                  (bif (r1 == true) then (m12 [] r100) else some false).bind fun r108 =>
                                  some (r1 && r108)
                              else
                                bif (!(Option.isSome (mapAt G31 (.int .i64) (0, (a1.2.1 ++ [120]), ()) y15))) then
                                  asrt true (decide (List.length (α := T31) r47 + List.length (α := T31) [(0, (a1.2.1 ++ [120]), ())] ≤ LIM)) (
                                    asrt true (Option.isNone (mapAt G31 (.int .i64) (0, (a1.2.1 ++ [120]), ()) y15)) (
                                      bif (r1 == true) then
                                        (cloneM y14).bind fun r109 =>
                                        (bif (r1 == true) then (m12 r109 r100) else some false).bind fun r110 =>
                                        some (r1 && r110)
                                      else
                                        (bif (r1 == true) then (m12 [] r100) else some false).bind fun r111 =>
                                        some (r1 && r111)))
                                else
                                  bif (r1 == true) then
                                    (cloneM y14).bind fun r112 =>
                                    (bif (r1 == true) then (m12 r112 r100) else some false).bind fun r113 =>
                                    some (r1 && r113)
                                  else
                                    (bif (r1 == true) then (m12 [] r100) else some false).bind fun r114 =>
                                    some (r1 && r114))
                        else
                          (bif (((List.length r101 : Int) != (List.length r48 : Int)) == false) then (m12 [] r16) else some false).bind fun r104 =>
                          bif (((List.length r101 : Int) != (List.length r48 : Int)) || (!r104)) then
                            some false
                          else
                            asrt true (decide (a1.2.1.length + ([120] : List UInt8).length ≤ 4294967296)) (
                              (m21 0).bind fun r115 =>
                              bif (!r115) then
                                bif (r1 == true) then
                                  (cloneM y14).bind fun r116 =>
                                  (bif (r1 == true) then (m12 r116 r100) else some false).bind fun r117 =>
                                  some (r1 && r117)
                                else
                                  (bif (r1 == true) then (m12 [] r100) else some false).bind fun r118 =>
                                  some (r1 && r118)
                              else
                                bif (!(Option.isSome (mapAt G31 (.int .i64) (0, (a1.2.1 ++ [120]), ()) y15))) then
                                  asrt true (decide (List.length (α := T31) r47 + List.length (α := T31) [(0, (a1.2.1 ++ [120]), ())] ≤ LIM)) (
                                    asrt true (Option.isNone (mapAt G31 (.int .i64) (0, (a1.2.1 ++ [120]), ()) y15)) (
                                      bif (r1 == true) then
                                        (cloneM y14).bind fun r119 =>
                                        (bif (r1 == true) then (m12 r119 r100) else some false).bind fun r120 =>
                                        some (r1 && r120)
                                      else
                                        (bif (r1 == true) then (m12 [] r100) else some false).bind fun r121 =>
                                        some (r1 && r121)))
                                else
                                  bif (r1 == true) then
                                    (cloneM y14).bind fun r122 =>
                                    (bif (r1 == true) then (m12 r122 r100) else some false).bind fun r123 =>
                                    some (r1 && r123)
                                  else
                                    (bif (r1 == true) then (m12 [] r100) else some false).bind fun r124 =>
                                    some (r1 && r124))) (
                    some false) FUEL 0) (
            some false) FUEL 0 [] []) FUEL 0 [] [] []
noncomputable def e6 : PmE := entry 6 [(.sl G31), G31] false .bool (fun x => m6 x.1 x.2.1)
theorem q6 (x : tyL [(.sl G31), G31]) : execF E6 C6 Try.f6 (datL [(.sl G31), G31] x) [] (retK false .bool) = m6 x.1 x.2.1 := by kernel_rfl
theorem p6 : PmOk Try.prog e6 := pm_ok (E := E6) ok6 ord lm6 Try.func6 ca6 q6

end Go.Proofs.Ytmkhnmkbohckbaa
