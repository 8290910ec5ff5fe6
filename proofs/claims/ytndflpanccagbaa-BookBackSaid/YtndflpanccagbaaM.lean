/- Models of the functions that the statements reach. -/
import Derived.Test.YtndflpanccagbaaE31
import Derived.Test.YtndflpanccagbaaChecked
import Derived.KernelRfl
namespace Go.Proofs.Ytndflpanccagbaa
open Go Go.Eng
set_option linter.unusedVariables false

/-- x, y, signed, code -/
abbrev G7 : GT := .cons (.int .i64) (.cons (.int .i64) (.cons .bool (.cons (.int .u8) (.nil))))
abbrev T7 : Type := Int × Int × Bool × Int × Unit
/-- msg, addr -/
abbrev G13 : GT := .cons .str (.cons (.int .u64) (.nil))
abbrev T13 : Type := List UInt8 × Int × Unit
/-- Parent, Owner -/
abbrev G35 : GT := .cons (.int .i64) (.cons (.int .i64) (.nil))
abbrev T35 : Type := Int × Int × Unit

theorem ord : Try.prog.follows .mixedOrders = true := by kernel_rfl

/-! 25: consol/consollaw30.five -/
theorem ca25 : callable Try.prog 25 := ⟨Try.f25, Try.func25, by kernel_rfl, by kernel_rfl⟩
noncomputable def E25 : Env := mkEnv2 Try.prog [] []
theorem ok25 : EnvOk E25 := mkEnv2_ok (by simp) (by simp)
noncomputable def C25 : Cfg := noCfg
theorem lm25 : ∀ c, Try.f25.body = some c → LmOk E25 C25 Try.f25.ntmps c := fun _ _ => noCfg_lm
noncomputable def m25  : Option ((List T35)) :=
  some [((-1), (-1), ()), (0, (-1), ()), (0, (-1), ()), (1, (-1), ()), ((-1), (-1), ())]
noncomputable def e25 : PmE := entry 25 [] false (.sl G35) (fun x => m25 )
theorem q25 (x : tyL []) : execF E25 C25 Try.f25 (datL [] x) [] (retK false (.sl G35)) = m25  := by kernel_rfl
theorem p25 : PmOk Try.prog e25 := pm_ok (E := E25) ok25 ord lm25 Try.func25 ca25 q25

/-! 29: consol/book.levels -/
theorem ca29 : callable Try.prog 29 := ⟨Try.f29, Try.func29, by kernel_rfl, by kernel_rfl⟩
noncomputable def E29 : Env := mkEnv2 Try.prog [] []
theorem ok29 : EnvOk E29 := mkEnv2_ok (by simp) (by simp)
/-- a round of a loop of consol/book.levels -/
noncomputable def s29_1 {R : Type} (t13 : (List T35)) (t14 : Int) (kn : Int → (List Int) → Option R) (k1 : (List Int) → Option R) (k2 : Option R) (t15 : Int) (o0 : (List Int)) : Option R :=
  bif (decide (t15 < t14)) then
    (idx t13 t15).bind fun x1 =>
    bif ((((decide (x1.1 < (-1))) || (decide (x1.1 ≥ t15))) || (decide (x1.2.1 < (-1)))) || (decide (x1.2.1 ≥ 60))) then
      k2
    else
      cont (fun (k4 : (List Int) → _) =>
        bif (decide (x1.1 ≥ 0)) then
          asrt true (decide (0 ≤ x1.1) && decide (x1.1 < (List.length o0 : Int))) (
            ((o0)[(x1.1 : Int).toNat]?).bind fun x2 =>
            asrt true (decide (0 ≤ t15) && decide (t15 < (List.length o0 : Int))) (
              ((o0)[(t15 : Int).toNat]?).bind fun x3 =>
              k4 (List.set o0 (t15 : Int).toNat (IntKind.i64.wrap (x2 + 1)))))
        else
          k4 o0) fun y4 =>
      asrt true (decide (0 ≤ t15) && decide (t15 < (List.length y4 : Int))) (
        ((y4)[(t15 : Int).toNat]?).bind fun x5 =>
        bif (decide (x5 > 4)) then
          k2
        else
          kn (IntKind.i64.wrap (t15 + 1)) y4)
  else
    k1 o0
noncomputable def l29_1 {R : Type} (t13 : (List T35)) (t14 : Int) (k1 : (List Int) → Option R) (k2 : Option R) : Nat → Int → (List Int) → Option R
  | 0, _, _ => none
  | n + 1, t15, o0 => s29_1 t13 t14 (l29_1 t13 t14 k1 k2 n) k1 k2 t15 o0
noncomputable def L29_1 : LE := ⟨6, 0, ⟨[(4, (.own 0)), (13, (.dat (.sl G35))), (14, (.dat (.int .i64))), (15, (.dat (.int .i64)))], [(.arr (.int .i64))]⟩, fun R n x k => l29_1 x.1.2.1 x.1.2.2.1 (fun y0 => k (.exit 0) ⟨[(4, (.own 0))], [(.arr (.int .i64) y0)]⟩) (k .ret ⟨[(2, .nils), (3, (.dat .bool false))], []⟩) n x.1.2.2.2.1 x.2.1⟩
noncomputable def C29 : Cfg := mkCfg [(6, ⟨[4, 13, 14, 15], []⟩), (12, ⟨[4, 5, 13, 14, 15], []⟩), (14, ⟨[4, 13, 14, 15], []⟩)] [(6, (⟨[4], []⟩, ⟨[2, 3], []⟩))] (([(0, L29_1)] : List (Nat × LE)).map (·.2))
theorem ek29_1 : EOk E29 C29 Try.f29.ntmps (bodyL Try.f29 0) L29_1 := eok_of (e := L29_1) (fun R x Kn k => s29_1 x.1.2.1 x.1.2.2.1 (fun v0 v1 => Kn (((), x.1.2.1, x.1.2.2.1, v0, ()), (v1, ()))) (fun y0 => k (.exit 0) ⟨[(4, (.own 0))], [(.arr (.int .i64) y0)]⟩) (k .ret ⟨[(2, .nils), (3, (.dat .bool false))], []⟩) x.1.2.2.2.1 x.2.1) (fun _ _ _ => rfl) (fun _ _ _ _ => rfl) (fun R x Kn k => by kernel_rfl)
theorem lm29 : ∀ c, Try.f29.body = some c → LmOk E29 C29 Try.f29.ntmps c := lmOk_of (ps := [(0, L29_1)]) (by kernel_rfl) (by kernel_rfl) ⟨ek29_1, trivial⟩
noncomputable def m29 (a0 : (List T35)) : Option (((List Int) × (Bool × Unit))) :=
  bif (decide ((List.length a0 : Int) > 20000)) then
    some ([], false, ())
  else
    asrt true (decide (0 ≤ (List.length a0 : Int)) && decide ((List.length a0 : Int) ≤ (List.length a0 : Int)) && decide ((List.length a0 : Int) ≤ (LIM : Int))) (
      l29_1 a0 (List.length a0 : Int) (fun y6 =>
          some (y6, true, ())) (
          some ([], false, ())) FUEL 0 (List.replicate ((List.length a0 : Int) : Int).toNat 0))
theorem q29 (x : tyL [(.sl G35)]) : execF E29 C29 Try.f29 (datL [(.sl G35)] x) [] (retT [true, false] (.cons (.sl (.int .i64)) (.cons .bool .nil))) = m29 x.1 := by kernel_rfl
noncomputable def c29 : CmE := ownT 29 [(.sl G35)] [true, false] (.cons (.sl (.int .i64)) (.cons .bool .nil)) (fun x => m29 x.1)
theorem d29 : CmOk Try.prog c29 := ownT_ok ca29 (frun_of (E := E29) ok29 ord lm29 Try.func29 q29)

/-! 13: consol/book.Right -/
theorem ca13 : callable Try.prog 13 := ⟨Try.f13, Try.func13, by kernel_rfl, by kernel_rfl⟩
noncomputable def E13 : Env := mkEnv2 Try.prog [] [c29]
theorem ok13 : EnvOk E13 := mkEnv2_ok (by simp) (by simp only [List.mem_cons, List.not_mem_nil, or_false, forall_eq]; exact d29)
noncomputable def C13 : Cfg := noCfg
theorem lm13 : ∀ c, Try.f13.body = some c → LmOk E13 C13 Try.f13.ntmps c := fun _ _ => noCfg_lm
noncomputable def m13 (a0 : (List T35)) : Option (Bool) :=
  (m29 a0).bind fun r1 =>
  some r1.2.1
noncomputable def e13 : PmE := entry 13 [(.sl G35)] false .bool (fun x => m13 x.1)
theorem q13 (x : tyL [(.sl G35)]) : execF E13 C13 Try.f13 (datL [(.sl G35)] x) [] (retK false .bool) = m13 x.1 := by kernel_rfl
theorem p13 : PmOk Try.prog e13 := pm_ok (E := E13) ok13 ord lm13 Try.func13 ca13 q13

/-! 26: consol/book.valid -/
theorem ca26 : callable Try.prog 26 := ⟨Try.f26, Try.func26, by kernel_rfl, by kernel_rfl⟩
noncomputable def E26 : Env := mkEnv2 Try.prog [e13] []
theorem ok26 : EnvOk E26 := mkEnv2_ok (by simp only [List.mem_cons, List.not_mem_nil, or_false, forall_eq]; exact p13) (by simp)
/-- a round of a loop of consol/book.valid -/
noncomputable def s26_1 {R : Type} (t24 : (List T35)) (t25 : Int) (kn : Int → (List Bool) → Option R) (k1 : (List Bool) → Option R) (t26 : Int) (o0 : (List Bool)) : Option R :=
  bif (decide (t26 < t25)) then
    cont (fun (k4 : (List Bool) → _) =>
      (idx t24 t26).bind fun x2 =>
      bif (decide (x2.1 ≥ 0)) then
        asrt true (decide (0 ≤ x2.1) && decide (x2.1 < (List.length o0 : Int))) (
          ((o0)[(x2.1 : Int).toNat]?).bind fun x3 =>
          k4 (List.set o0 (x2.1 : Int).toNat true))
      else
        k4 o0) fun y4 =>
    kn (IntKind.i64.wrap (t26 + 1)) y4
  else
    k1 o0
noncomputable def l26_1 {R : Type} (t24 : (List T35)) (t25 : Int) (k1 : (List Bool) → Option R) : Nat → Int → (List Bool) → Option R
  | 0, _, _ => none
  | n + 1, t26, o0 => s26_1 t24 t25 (l26_1 t24 t25 k1 n) k1 t26 o0
noncomputable def L26_1 : LE := ⟨6, 0, ⟨[(1, (.dat (.sl (.int .i64)))), (5, (.own 0)), (24, (.dat (.sl G35))), (25, (.dat (.int .i64))), (26, (.dat (.int .i64)))], [(.arr .bool)]⟩, fun R n x k => l26_1 x.1.2.2.1 x.1.2.2.2.1 (fun y0 => k (.exit 0) ⟨[(1, (.dat (.sl (.int .i64)) x.1.1)), (5, (.own 0))], [(.arr .bool y0)]⟩) n x.1.2.2.2.2.1 x.2.1⟩
/-- a round of a loop of consol/book.valid -/
noncomputable def s26_2 {R : Type} (t38 : (List Int)) (t39 : Int) (o0 : (List Bool)) (kn : Int → Int → Option R) (k1 : Int → Option R) (k2 : Option R) (t8 : Int) (t40 : Int) : Option R :=
  bif (decide (t40 < t39)) then
    (idx t38 t40).bind fun x6 =>
    asrt ((((decide (x6 < 0)) || (decide (x6 > 1000000000))) == false) && ((decide (x6 > 0)) == true)) (decide (0 ≤ t40) && decide (t40 < (List.length o0 : Int))) (
      ((bif ((((decide (x6 < 0)) || (decide (x6 > 1000000000))) == false) && ((decide (x6 > 0)) == true)) then (o0)[(t40 : Int).toNat]? else some false)).bind fun x7 =>
      bif (((decide (x6 < 0)) || (decide (x6 > 1000000000))) || ((decide (x6 > 0)) && x7)) then
        k2
      else
        kn (IntKind.i64.wrap (t8 + x6)) (IntKind.i64.wrap (t40 + 1)))
  else
    k1 t8
noncomputable def l26_2 {R : Type} (t38 : (List Int)) (t39 : Int) (o0 : (List Bool)) (k1 : Int → Option R) (k2 : Option R) : Nat → Int → Int → Option R
  | 0, _, _ => none
  | n + 1, t8, t40 => s26_2 t38 t39 o0 (l26_2 t38 t39 o0 k1 k2 n) k1 k2 t8 t40
noncomputable def L26_2 : LE := ⟨13, 0, ⟨[(5, (.own 0)), (8, (.dat (.int .i64))), (38, (.dat (.sl (.int .i64)))), (39, (.dat (.int .i64))), (40, (.dat (.int .i64)))], [(.arr .bool)]⟩, fun R n x k => l26_2 x.1.2.2.1 x.1.2.2.2.1 x.2.1 (fun y0 => k (.exit 2) ⟨[(8, (.dat (.int .i64) y0))], []⟩) (k .ret ⟨[(4, (.dat .bool false))], []⟩) n x.1.2.1 x.1.2.2.2.2.1⟩
noncomputable def C26 : Cfg := mkCfg [(6, ⟨[1, 5, 24, 25, 26], []⟩), (10, ⟨[1, 5, 24, 25, 26], []⟩), (13, ⟨[5, 8, 38, 39, 40], []⟩)] [(6, (⟨[1, 5], []⟩, ⟨[4], []⟩)), (13, (⟨[8], []⟩, ⟨[4], []⟩))] (([(0, L26_1), (1, L26_2)] : List (Nat × LE)).map (·.2))
theorem ek26_1 : EOk E26 C26 Try.f26.ntmps (bodyL Try.f26 0) L26_1 := eok_of (e := L26_1) (fun R x Kn k => s26_1 x.1.2.2.1 x.1.2.2.2.1 (fun v0 v1 => Kn ((x.1.1, (), x.1.2.2.1, x.1.2.2.2.1, v0, ()), (v1, ()))) (fun y0 => k (.exit 0) ⟨[(1, (.dat (.sl (.int .i64)) x.1.1)), (5, (.own 0))], [(.arr .bool y0)]⟩) x.1.2.2.2.2.1 x.2.1) (fun _ _ _ => rfl) (fun _ _ _ _ => rfl) (fun R x Kn k => by kernel_rfl)
theorem ek26_2 : EOk E26 C26 Try.f26.ntmps (bodyL Try.f26 1) L26_2 := eok_of (e := L26_2) (fun R x Kn k => s26_2 x.1.2.2.1 x.1.2.2.2.1 x.2.1 (fun v0 v1 => Kn (((), v0, x.1.2.2.1, x.1.2.2.2.1, v1, ()), (x.2.1, ()))) (fun y0 => k (.exit 2) ⟨[(8, (.dat (.int .i64) y0))], []⟩) (k .ret ⟨[(4, (.dat .bool false))], []⟩) x.1.2.1 x.1.2.2.2.2.1) (fun _ _ _ => rfl) (fun _ _ _ _ => rfl) (fun R x Kn k => by kernel_rfl)
theorem lm26 : ∀ c, Try.f26.body = some c → LmOk E26 C26 Try.f26.ntmps c := lmOk_of (ps := [(0, L26_1), (1, L26_2)]) (by kernel_rfl) (by kernel_rfl) ⟨ek26_1, ek26_2, trivial⟩
noncomputable def m26 (a0 : (List T35)) (a1 : (List Int)) : Option (Bool) :=
  (m13 a0).bind fun r1 =>
  bif ((!r1) || ((List.length a1 : Int) != (List.length a0 : Int))) then
    some false
  else
    asrt true (decide (0 ≤ (List.length a0 : Int)) && decide ((List.length a0 : Int) ≤ (List.length a0 : Int)) && decide ((List.length a0 : Int) ≤ (LIM : Int))) (
      l26_1 a0 (List.length a0 : Int) (fun y5 =>
          l26_2 a1 (List.length a1 : Int) y5 (fun y8 =>
              some (decide (y8 ≤ 1000000000))) (
              some false) FUEL 0 0) FUEL 0 (List.replicate ((List.length a0 : Int) : Int).toNat false))
noncomputable def e26 : PmE := entry 26 [(.sl G35), (.sl (.int .i64))] false .bool (fun x => m26 x.1 x.2.1)
theorem q26 (x : tyL [(.sl G35), (.sl (.int .i64))]) : execF E26 C26 Try.f26 (datL [(.sl G35), (.sl (.int .i64))] x) [] (retK false .bool) = m26 x.1 x.2.1 := by kernel_rfl
theorem p26 : PmOk Try.prog e26 := pm_ok (E := E26) ok26 ord lm26 Try.func26 ca26 q26

/-! 27: consol/book.leaf -/
theorem ca33 : callable Try.prog 33 := ⟨Try.f33, Try.func33, by kernel_rfl, by kernel_rfl⟩
noncomputable def E27i33 : Env := mkEnv2 Try.prog [] []
theorem ok27i33 : EnvOk E27i33 := mkEnv2_ok (by simp) (by simp)
noncomputable def C27i33 : Cfg := noCfg
theorem lm27i33 : ∀ c, Try.f33.body = some c → LmOk E27i33 C27i33 Try.f33.ntmps c := fun _ _ => noCfg_lm
noncomputable def c27i33 : CmE := inl E27i33 C27i33 33 Try.f33
theorem d27i33 : CmOk Try.prog c27i33 := inl_ok (E := E27i33) ok27i33 ord lm27i33 Try.func33 ca33

theorem ca34 : callable Try.prog 34 := ⟨Try.f34, Try.func34, by kernel_rfl, by kernel_rfl⟩
noncomputable def E27i34 : Env := mkEnv2 Try.prog [] [c27i33]
theorem ok27i34 : EnvOk E27i34 := mkEnv2_ok (by simp) (by simp only [List.mem_cons, List.not_mem_nil, or_false, forall_eq]; exact d27i33)
/-- a round of a loop of slices.IndexFunc[[]consol/api.Seat,consol/api.Seat] -/
noncomputable def s27_1 {R : Type} (t0 : (List T35)) (t7 : Int) (o0 : Int) (kn : Int → Option R) (k1 : Option R) (k2 : Int → Option R) (t8 : Int) : Option R :=
  bif (decide (t8 < t7)) then
    (idx t0 t8).bind fun x1 =>
    bif (x1.1 == o0) then
      k2 t8
    else
      kn (IntKind.i64.wrap (t8 + 1))
  else
    k1
noncomputable def l27_1 {R : Type} (t0 : (List T35)) (t7 : Int) (o0 : Int) (k1 : Option R) (k2 : Int → Option R) : Nat → Int → Option R
  | 0, _ => none
  | n + 1, t8 => s27_1 t0 t7 o0 (l27_1 t0 t7 o0 k1 k2 n) k1 k2 t8
noncomputable def L27_1 : LE := ⟨3, 1, ⟨[(0, (.dat (.sl G35))), (1, (.fn 33 (.scons (.box 0 [] 0) .snil))), (7, (.dat (.int .i64))), (8, (.dat (.int .i64)))], [(.box (.dat (.int .i64)))]⟩, fun R n x k => l27_1 x.1.1 x.1.2.2.1 x.2.1 (k (.exit 0) ⟨[], [(.box (.dat (.int .i64) x.2.1))]⟩) (fun y0 => k .ret ⟨[(4, (.dat (.int .i64) y0))], [(.box (.dat (.int .i64) x.2.1))]⟩) n x.1.2.2.2.1⟩
noncomputable def C27i34 : Cfg := mkCfg [(3, ⟨[0, 1, 7, 8], []⟩)] [(3, (⟨[], []⟩, ⟨[4], []⟩))] (([(0, L27_1)] : List (Nat × LE)).map (·.2))
theorem ek27_1 : EOk E27i34 C27i34 Try.f34.ntmps (bodyL Try.f34 0) L27_1 := eok_of (e := L27_1) (fun R x Kn k => s27_1 x.1.1 x.1.2.2.1 x.2.1 (fun v0 => Kn ((x.1.1, ((), ()), x.1.2.2.1, v0, ()), (x.2.1, ()))) (k (.exit 0) ⟨[], [(.box (.dat (.int .i64) x.2.1))]⟩) (fun y0 => k .ret ⟨[(4, (.dat (.int .i64) y0))], [(.box (.dat (.int .i64) x.2.1))]⟩) x.1.2.2.2.1) (fun _ _ _ => rfl) (fun _ _ _ _ => rfl) (fun R x Kn k => by kernel_rfl)
theorem lm27i34 : ∀ c, Try.f34.body = some c → LmOk E27i34 C27i34 Try.f34.ntmps c := lmOk_of (ps := [(0, L27_1)]) (by kernel_rfl) (by kernel_rfl) ⟨ek27_1, trivial⟩
noncomputable def c27i34 : CmE := inl E27i34 C27i34 34 Try.f34
theorem d27i34 : CmOk Try.prog c27i34 := inl_ok (E := E27i34) ok27i34 ord lm27i34 Try.func34 ca34

theorem ca32 : callable Try.prog 32 := ⟨Try.f32, Try.func32, by kernel_rfl, by kernel_rfl⟩
noncomputable def E27i32 : Env := mkEnv2 Try.prog [] [c27i34]
theorem ok27i32 : EnvOk E27i32 := mkEnv2_ok (by simp) (by simp only [List.mem_cons, List.not_mem_nil, or_false, forall_eq]; exact d27i34)
noncomputable def C27i32 : Cfg := noCfg
theorem lm27i32 : ∀ c, Try.f32.body = some c → LmOk E27i32 C27i32 Try.f32.ntmps c := fun _ _ => noCfg_lm
noncomputable def c27i32 : CmE := inl E27i32 C27i32 32 Try.f32
theorem d27i32 : CmOk Try.prog c27i32 := inl_ok (E := E27i32) ok27i32 ord lm27i32 Try.func32 ca32

theorem ca27 : callable Try.prog 27 := ⟨Try.f27, Try.func27, by kernel_rfl, by kernel_rfl⟩
noncomputable def E27 : Env := mkEnv2 Try.prog [] [c27i32]
theorem ok27 : EnvOk E27 := mkEnv2_ok (by simp) (by simp only [List.mem_cons, List.not_mem_nil, or_false, forall_eq]; exact d27i32)
noncomputable def C27 : Cfg := noCfg
theorem lm27 : ∀ c, Try.f27.body = some c → LmOk E27 C27 Try.f27.ntmps c := fun _ _ => noCfg_lm
noncomputable def m27 (a0 : (List T35)) (a1 : Int) : Option (Bool) :=
  bif (((decide (a1 ≥ 0)) && (decide (a1 < (List.length a0 : Int)))) == true) then
    l27_1 a0 (List.length a0 : Int) a1 (
        some (((decide (a1 ≥ 0)) && (decide (a1 < (List.length a0 : Int)))) && (!(decide ((-1) ≥ 0))))) (fun y2 =>
        some (((decide (a1 ≥ 0)) && (decide (a1 < (List.length a0 : Int)))) && (!(decide (y2 ≥ 0))))) FUEL 0
  else
    some (bif ((decide (a1 ≥ 0)) && (decide (a1 < (List.length a0 : Int)))) then true else false)
noncomputable def e27 : PmE := entry 27 [(.sl G35), (.int .i64)] false .bool (fun x => m27 x.1 x.2.1)
theorem q27 (x : tyL [(.sl G35), (.int .i64)]) : execF E27 C27 Try.f27 (datL [(.sl G35), (.int .i64)] x) [] (retK false .bool) = m27 x.1 x.2.1 := by kernel_rfl
theorem p27 : PmOk Try.prog e27 := pm_ok (E := E27) ok27 ord lm27 Try.func27 ca27 q27

theorem ca28 : callable Try.prog 28 := ⟨Try.f28, Try.func28, by kernel_rfl, by kernel_rfl⟩
/-! 28: slices.Clone[[]int,int] -/
noncomputable def c28 : CmE := ownE 28 [(.sl (.int .i64))] (.int .i64) (fun x => cloneM x.1)
theorem d28 : CmOk Try.prog c28 := own_ok ca28 (clone_run (g := (.int .i64)) ord Try.func28 Try.underlying23 rfl (by kernel_rfl) (fun _ => by kernel_rfl) (by kernel_rfl) (fun _ => by kernel_rfl))

/-! 10: consol/book.Move -/
theorem ca10 : callable Try.prog 10 := ⟨Try.f10, Try.func10, by kernel_rfl, by kernel_rfl⟩
noncomputable def E10 : Env := mkEnv2 Try.prog [e26, e27] [c28]
theorem ok10 : EnvOk E10 := mkEnv2_ok (by simp only [List.mem_cons, List.not_mem_nil, or_false, forall_eq_or_imp, forall_eq]; exact ⟨p26, p27⟩) (by simp only [List.mem_cons, List.not_mem_nil, or_false, forall_eq]; exact d28)
noncomputable def C10 : Cfg := noCfg
theorem lm10 : ∀ c, Try.f10.body = some c → LmOk E10 C10 Try.f10.ntmps c := fun _ _ => noCfg_lm
noncomputable def m10 (a0 : (List T35)) (a1 : (List Int)) (a2 : Int) (a3 : Int) (a4 : Int) : Option (((List Int) × (Int × Unit))) :=
  (m26 a0 a1).bind fun r1 =>
  bif ((!r1) || (decide (a4 < 1))) then
    some ([], 1, ())
  else
    (m27 a0 a2).bind fun r2 =>
    (bif ((!r2) == false) then (m27 a0 a3) else some false).bind fun r3 =>
    bif ((!r2) || (!r3)) then
      some ([], 4, ())
    else
      (idx a1 a2).bind fun x4 =>
      bif (decide (x4 < a4)) then
        some ([], 22, ())
      else
        (cloneM a1).bind fun r5 =>
        asrt true (decide (0 ≤ a2) && decide (a2 < (List.length r5 : Int))) (
          ((r5)[(a2 : Int).toNat]?).bind fun x6 =>
          asrt true (decide (0 ≤ a2) && decide (a2 < (List.length r5 : Int))) (
            ((r5)[(a2 : Int).toNat]?).bind fun x7 =>
            asrt true (decide (0 ≤ a3) && decide (a3 < (List.length (List.set r5 (a2 : Int).toNat (IntKind.i64.wrap (x6 - a4))) : Int))) (
              (((List.set r5 (a2 : Int).toNat (IntKind.i64.wrap (x6 - a4))))[(a3 : Int).toNat]?).bind fun x8 =>
              asrt true (decide (0 ≤ a3) && decide (a3 < (List.length (List.set r5 (a2 : Int).toNat (IntKind.i64.wrap (x6 - a4))) : Int))) (
                (((List.set r5 (a2 : Int).toNat (IntKind.i64.wrap (x6 - a4))))[(a3 : Int).toNat]?).bind fun x9 =>
                some ((List.set (List.set r5 (a2 : Int).toNat (IntKind.i64.wrap (x6 - a4))) (a3 : Int).toNat (IntKind.i64.wrap (x8 + a4))), 0, ())))))
theorem q10 (x : tyL [(.sl G35), (.sl (.int .i64)), (.int .i64), (.int .i64), (.int .i64)]) : execF E10 C10 Try.f10 (datL [(.sl G35), (.sl (.int .i64)), (.int .i64), (.int .i64), (.int .i64)] x) [] (retT [true, false] (.cons (.sl (.int .i64)) (.cons (.int .i64) .nil))) = m10 x.1 x.2.1 x.2.2.1 x.2.2.2.1 x.2.2.2.2.1 := by kernel_rfl
noncomputable def c10 : CmE := ownT 10 [(.sl G35), (.sl (.int .i64)), (.int .i64), (.int .i64), (.int .i64)] [true, false] (.cons (.sl (.int .i64)) (.cons (.int .i64) .nil)) (fun x => m10 x.1 x.2.1 x.2.2.1 x.2.2.2.1 x.2.2.2.2.1)
theorem d10 : CmOk Try.prog c10 := ownT_ok ca10 (frun_of (E := E10) ok10 ord lm10 Try.func10 q10)

/-! 21: consol/book.Held -/
theorem ca21 : callable Try.prog 21 := ⟨Try.f21, Try.func21, by kernel_rfl, by kernel_rfl⟩
noncomputable def E21 : Env := mkEnv2 Try.prog [e26] [c28]
theorem ok21 : EnvOk E21 := mkEnv2_ok (by simp only [List.mem_cons, List.not_mem_nil, or_false, forall_eq]; exact p26) (by simp only [List.mem_cons, List.not_mem_nil, or_false, forall_eq]; exact d28)
/-- a round of a loop of consol/book.Held -/
noncomputable def s21_1 {R : Type} (t0 : (List T35)) (t2 : Int) (kn : Int → (List Int) → Option R) (k1 : (List Int) → Option R) (t8 : Int) (o0 : (List Int)) : Option R :=
  bif (decide (t8 > t2)) then
    cont (fun (k7 : (List Int) → _) =>
      (idx t0 t8).bind fun x3 =>
      bif (decide (x3.1 ≥ 0)) then
        asrt true (decide (0 ≤ x3.1) && decide (x3.1 < (List.length o0 : Int))) (
          ((o0)[(x3.1 : Int).toNat]?).bind fun x4 =>
          asrt true (decide (0 ≤ t8) && decide (t8 < (List.length o0 : Int))) (
            ((o0)[(t8 : Int).toNat]?).bind fun x5 =>
            asrt true (decide (0 ≤ x3.1) && decide (x3.1 < (List.length o0 : Int))) (
              ((o0)[(x3.1 : Int).toNat]?).bind fun x6 =>
              k7 (List.set o0 (x3.1 : Int).toNat (IntKind.i64.wrap (x4 + x5))))))
      else
        k7 o0) fun y7 =>
    kn (IntKind.i64.wrap (t8 - 1)) y7
  else
    k1 o0
noncomputable def l21_1 {R : Type} (t0 : (List T35)) (t2 : Int) (k1 : (List Int) → Option R) : Nat → Int → (List Int) → Option R
  | 0, _, _ => none
  | n + 1, t8, o0 => s21_1 t0 t2 (l21_1 t0 t2 k1 n) k1 t8 o0
noncomputable def L21_1 : LE := ⟨6, 0, ⟨[(0, (.dat (.sl G35))), (2, (.dat (.int .i64))), (7, (.own 0)), (8, (.dat (.int .i64)))], [(.arr (.int .i64))]⟩, fun R n x k => l21_1 x.1.1 x.1.2.1 (fun y0 => k (.exit 0) ⟨[(2, (.dat (.int .i64) x.1.2.1)), (7, (.own 0))], [(.arr (.int .i64) y0)]⟩) n x.1.2.2.2.1 x.2.1⟩
noncomputable def C21 : Cfg := mkCfg [(6, ⟨[0, 2, 7, 8], []⟩), (7, ⟨[0, 2, 7, 8], []⟩)] [(6, (⟨[2, 7], []⟩, ⟨[6], []⟩))] (([(0, L21_1)] : List (Nat × LE)).map (·.2))
theorem ek21_1 : EOk E21 C21 Try.f21.ntmps (bodyL Try.f21 0) L21_1 := eok_of (e := L21_1) (fun R x Kn k => s21_1 x.1.1 x.1.2.1 (fun v0 v1 => Kn ((x.1.1, x.1.2.1, (), v0, ()), (v1, ()))) (fun y0 => k (.exit 0) ⟨[(2, (.dat (.int .i64) x.1.2.1)), (7, (.own 0))], [(.arr (.int .i64) y0)]⟩) x.1.2.2.2.1 x.2.1) (fun _ _ _ => rfl) (fun _ _ _ _ => rfl) (fun R x Kn k => by kernel_rfl)
theorem lm21 : ∀ c, Try.f21.body = some c → LmOk E21 C21 Try.f21.ntmps c := lmOk_of (ps := [(0, L21_1)]) (by kernel_rfl) (by kernel_rfl) ⟨ek21_1, trivial⟩
noncomputable def m21 (a0 : (List T35)) (a1 : (List Int)) (a2 : Int) : Option (Int) :=
  (m26 a0 a1).bind fun r1 =>
  bif (((!r1) || (decide (a2 < 0))) || (decide (a2 ≥ (List.length a0 : Int)))) then
    some 0
  else
    (cloneM a1).bind fun r2 =>
    l21_1 a0 a2 (fun y8 =>
        asrt true (decide (0 ≤ a2) && decide (a2 < (List.length y8 : Int))) (
          ((y8)[(a2 : Int).toNat]?).bind fun x9 =>
          some x9)) FUEL (IntKind.i64.wrap ((List.length a0 : Int) - 1)) r2
noncomputable def e21 : PmE := entry 21 [(.sl G35), (.sl (.int .i64)), (.int .i64)] false (.int .i64) (fun x => m21 x.1 x.2.1 x.2.2.1)
theorem q21 (x : tyL [(.sl G35), (.sl (.int .i64)), (.int .i64)]) : execF E21 C21 Try.f21 (datL [(.sl G35), (.sl (.int .i64)), (.int .i64)] x) [] (retK false (.int .i64)) = m21 x.1 x.2.1 x.2.2.1 := by kernel_rfl
theorem p21 : PmOk Try.prog e21 := pm_ok (E := E21) ok21 ord lm21 Try.func21 ca21 q21

/-! 15: consol/book.Level -/
theorem ca15 : callable Try.prog 15 := ⟨Try.f15, Try.func15, by kernel_rfl, by kernel_rfl⟩
noncomputable def E15 : Env := mkEnv2 Try.prog [] [c29]
theorem ok15 : EnvOk E15 := mkEnv2_ok (by simp) (by simp only [List.mem_cons, List.not_mem_nil, or_false, forall_eq]; exact d29)
noncomputable def C15 : Cfg := noCfg
theorem lm15 : ∀ c, Try.f15.body = some c → LmOk E15 C15 Try.f15.ntmps c := fun _ _ => noCfg_lm
noncomputable def m15 (a0 : (List T35)) (a1 : Int) : Option (Int) :=
  (m29 a0).bind fun r1 =>
  bif (((!r1.2.1) || (decide (a1 < 0))) || (decide (a1 ≥ (List.length a0 : Int)))) then
    some (-1)
  else
    asrt true (decide (0 ≤ a1) && decide (a1 < (List.length r1.1 : Int))) (
      ((r1.1)[(a1 : Int).toNat]?).bind fun x2 =>
      some x2)
noncomputable def e15 : PmE := entry 15 [(.sl G35), (.int .i64)] false (.int .i64) (fun x => m15 x.1 x.2.1)
theorem q15 (x : tyL [(.sl G35), (.int .i64)]) : execF E15 C15 Try.f15 (datL [(.sl G35), (.int .i64)] x) [] (retK false (.int .i64)) = m15 x.1 x.2.1 := by kernel_rfl
theorem p15 : PmOk Try.prog e15 := pm_ok (E := E15) ok15 ord lm15 Try.func15 ca15 q15

/-! 17: consol/book.Root -/
theorem ca17 : callable Try.prog 17 := ⟨Try.f17, Try.func17, by kernel_rfl, by kernel_rfl⟩
noncomputable def E17 : Env := mkEnv2 Try.prog [e13] []
theorem ok17 : EnvOk E17 := mkEnv2_ok (by simp only [List.mem_cons, List.not_mem_nil, or_false, forall_eq]; exact p13) (by simp)
/-- a round of a loop of consol/book.Root -/
noncomputable def s17_1 {R : Type} (t0 : (List T35)) (kn : Int → Option R) (k1 : Int → Option R) (t1 : Int) : Option R :=
  (idx t0 t1).bind fun x2 =>
  bif (decide (x2.1 ≥ 0)) then
    (idx t0 t1).bind fun x3 =>
    kn x3.1
  else
    k1 t1
noncomputable def l17_1 {R : Type} (t0 : (List T35)) (k1 : Int → Option R) : Nat → Int → Option R
  | 0, _ => none
  | n + 1, t1 => s17_1 t0 (l17_1 t0 k1 n) k1 t1
noncomputable def L17_1 : LE := ⟨4, 0, ⟨[(0, (.dat (.sl G35))), (1, (.dat (.int .i64)))], []⟩, fun R n x k => l17_1 x.1.1 (fun y0 => k (.exit 0) ⟨[(1, (.dat (.int .i64) y0))], []⟩) n x.1.2.1⟩
noncomputable def C17 : Cfg := mkCfg [(4, ⟨[0, 1], []⟩)] [(4, (⟨[1], []⟩, ⟨[4], []⟩))] (([(0, L17_1)] : List (Nat × LE)).map (·.2))
theorem ek17_1 : EOk E17 C17 Try.f17.ntmps (bodyL Try.f17 0) L17_1 := eok_of (e := L17_1) (fun R x Kn k => s17_1 x.1.1 (fun v0 => Kn ((x.1.1, v0, ()), (()))) (fun y0 => k (.exit 0) ⟨[(1, (.dat (.int .i64) y0))], []⟩) x.1.2.1) (fun _ _ _ => rfl) (fun _ _ _ _ => rfl) (fun R x Kn k => by kernel_rfl)
theorem lm17 : ∀ c, Try.f17.body = some c → LmOk E17 C17 Try.f17.ntmps c := lmOk_of (ps := [(0, L17_1)]) (by kernel_rfl) (by kernel_rfl) ⟨ek17_1, trivial⟩
noncomputable def m17 (a0 : (List T35)) (a1 : Int) : Option (Int) :=
  (m13 a0).bind fun r1 =>
  bif (((!r1) || (decide (a1 < 0))) || (decide (a1 ≥ (List.length a0 : Int)))) then
    some (-1)
  else
    l17_1 a0 (fun y4 =>
        some y4) FUEL a1
noncomputable def e17 : PmE := entry 17 [(.sl G35), (.int .i64)] false (.int .i64) (fun x => m17 x.1 x.2.1)
theorem q17 (x : tyL [(.sl G35), (.int .i64)]) : execF E17 C17 Try.f17 (datL [(.sl G35), (.int .i64)] x) [] (retK false (.int .i64)) = m17 x.1 x.2.1 := by kernel_rfl
theorem p17 : PmOk Try.prog e17 := pm_ok (E := E17) ok17 ord lm17 Try.func17 ca17 q17

/-! 12: consol/consolref30.Ints -/
theorem ca12 : callable Try.prog 12 := ⟨Try.f12, Try.func12, by kernel_rfl, by kernel_rfl⟩
noncomputable def E12 : Env := mkEnv2 Try.prog [] []
theorem ok12 : EnvOk E12 := mkEnv2_ok (by simp) (by simp)
/-- a round of a loop of consol/consolref30.Ints -/
noncomputable def s12_1 {R : Type} (t0 : (List Int)) (t1 : (List Int)) (kn : Int → Option R) (k1 : Option R) (k2 : Option R) (t5 : Int) : Option R :=
  bif (decide (t5 < (List.length t0 : Int))) then
    (idx t0 t5).bind fun x1 =>
    (idx t1 t5).bind fun x2 =>
    bif (x1 != x2) then
      k2
    else
      kn (IntKind.i64.wrap (t5 + 1))
  else
    k1
noncomputable def l12_1 {R : Type} (t0 : (List Int)) (t1 : (List Int)) (k1 : Option R) (k2 : Option R) : Nat → Int → Option R
  | 0, _ => none
  | n + 1, t5 => s12_1 t0 t1 (l12_1 t0 t1 k1 k2 n) k1 k2 t5
noncomputable def L12_1 : LE := ⟨5, 0, ⟨[(0, (.dat (.sl (.int .i64)))), (1, (.dat (.sl (.int .i64)))), (5, (.dat (.int .i64)))], []⟩, fun R n x k => l12_1 x.1.1 x.1.2.1 (k (.exit 0) ⟨[], []⟩) (k .ret ⟨[(4, (.dat .bool false))], []⟩) n x.1.2.2.1⟩
noncomputable def C12 : Cfg := mkCfg [(5, ⟨[0, 1, 5], []⟩)] [(5, (⟨[], []⟩, ⟨[4], []⟩))] (([(0, L12_1)] : List (Nat × LE)).map (·.2))
theorem ek12_1 : EOk E12 C12 Try.f12.ntmps (bodyL Try.f12 0) L12_1 := eok_of (e := L12_1) (fun R x Kn k => s12_1 x.1.1 x.1.2.1 (fun v0 => Kn ((x.1.1, x.1.2.1, v0, ()), (()))) (k (.exit 0) ⟨[], []⟩) (k .ret ⟨[(4, (.dat .bool false))], []⟩) x.1.2.2.1) (fun _ _ _ => rfl) (fun _ _ _ _ => rfl) (fun R x Kn k => by kernel_rfl)
theorem lm12 : ∀ c, Try.f12.body = some c → LmOk E12 C12 Try.f12.ntmps c := lmOk_of (ps := [(0, L12_1)]) (by kernel_rfl) (by kernel_rfl) ⟨ek12_1, trivial⟩
noncomputable def m12 (a0 : (List Int)) (a1 : (List Int)) : Option (Bool) :=
  bif ((List.length a0 : Int) != (List.length a1 : Int)) then
    some false
  else
    l12_1 a0 a1 (
        some true) (
        some false) FUEL 0
noncomputable def e12 : PmE := entry 12 [(.sl (.int .i64)), (.sl (.int .i64))] false .bool (fun x => m12 x.1 x.2.1)
theorem q12 (x : tyL [(.sl (.int .i64)), (.sl (.int .i64))]) : execF E12 C12 Try.f12 (datL [(.sl (.int .i64)), (.sl (.int .i64))] x) [] (retK false .bool) = m12 x.1 x.2.1 := by kernel_rfl
theorem p12 : PmOk Try.prog e12 := pm_ok (E := E12) ok12 ord lm12 Try.func12 ca12 q12

/-! 19: consol/book.Leaf -/
theorem ca19 : callable Try.prog 19 := ⟨Try.f19, Try.func19, by kernel_rfl, by kernel_rfl⟩
noncomputable def E19 : Env := mkEnv2 Try.prog [e13, e27] []
theorem ok19 : EnvOk E19 := mkEnv2_ok (by simp only [List.mem_cons, List.not_mem_nil, or_false, forall_eq_or_imp, forall_eq]; exact ⟨p13, p27⟩) (by simp)
noncomputable def C19 : Cfg := noCfg
theorem lm19 : ∀ c, Try.f19.body = some c → LmOk E19 C19 Try.f19.ntmps c := fun _ _ => noCfg_lm
noncomputable def m19 (a0 : (List T35)) (a1 : Int) : Option (Bool) :=
  (m13 a0).bind fun r1 =>
  (bif (r1 == true) then (m27 a0 a1) else some false).bind fun r2 =>
  some (r1 && r2)
noncomputable def e19 : PmE := entry 19 [(.sl G35), (.int .i64)] false .bool (fun x => m19 x.1 x.2.1)
theorem q19 (x : tyL [(.sl G35), (.int .i64)]) : execF E19 C19 Try.f19 (datL [(.sl G35), (.int .i64)] x) [] (retK false .bool) = m19 x.1 x.2.1 := by kernel_rfl
theorem p19 : PmOk Try.prog e19 := pm_ok (E := E19) ok19 ord lm19 Try.func19 ca19 q19

/-! 8: consol/consollaw30.small -/
theorem ca8 : callable Try.prog 8 := ⟨Try.f8, Try.func8, by kernel_rfl, by kernel_rfl⟩
noncomputable def E8 : Env := mkEnv2 Try.prog [e12, e13, e15, e17, e19, e21, e25] [c10]
theorem ok8 : EnvOk E8 := mkEnv2_ok (by simp only [List.mem_cons, List.not_mem_nil, or_false, forall_eq_or_imp, forall_eq]; exact ⟨p12, p13, p15, p17, p19, p21, p25⟩) (by simp only [List.mem_cons, List.not_mem_nil, or_false, forall_eq]; exact d10)
noncomputable def C8 : Cfg := noCfg
theorem lm8 : ∀ c, Try.f8.body = some c → LmOk E8 C8 Try.f8.ntmps c := fun _ _ => noCfg_lm
noncomputable def m8  : Option (Bool) :=
  (m25).bind fun r1 =>
  (m10 r1 [0, 0, 5, 7, 2] 3 4 3).bind fun r2 =>
  (m25).bind fun r3 =>
  (m10 r3 [0, 0, 5, 7, 2] 1 4 1).bind fun r4 =>
  (m25).bind fun r5 =>
  (m10 r5 [0, 0, 5, 7, 2] 3 4 8).bind fun r6 =>
  (m25).bind fun r7 =>
  (m21 r7 [0, 0, 5, 7, 2] 0).bind fun r8 =>
  (bif ((r8 == 12) == true) then m25 else some []).bind fun r9 =>
  (bif ((r8 == 12) == true) then (m21 r9 [0, 0, 5, 7, 2] 1) else some 0).bind fun r10 =>
  (bif (((r8 == 12) && (r10 == 7)) == true) then m25 else some []).bind fun r11 =>
  (bif (((r8 == 12) && (r10 == 7)) == true) then (m21 r11 [0, 0, 5, 7, 2] 2) else some 0).bind fun r12 =>
  (bif ((((r8 == 12) && (r10 == 7)) && (r12 == 5)) == true) then m25 else some []).bind fun r13 =>
  (bif ((((r8 == 12) && (r10 == 7)) && (r12 == 5)) == true) then (m21 r13 [0, 0, 5, 7, 2] 4) else some 0).bind fun r14 =>
  (bif (((((r8 == 12) && (r10 == 7)) && (r12 == 5)) && (r14 == 2)) == true) then m25 else some []).bind fun r15 =>
  (bif (((((r8 == 12) && (r10 == 7)) && (r12 == 5)) && (r14 == 2)) == true) then (m15 r15 3) else some 0).bind fun r16 =>
  (bif ((((((r8 == 12) && (r10 == 7)) && (r12 == 5)) && (r14 == 2)) && (r16 == 2)) == true) then m25 else some []).bind fun r17 =>
  (bif ((((((r8 == 12) && (r10 == 7)) && (r12 == 5)) && (r14 == 2)) && (r16 == 2)) == true) then (m17 r17 3) else some 0).bind fun r18 =>
  bif (((((((r8 == 12) && (r10 == 7)) && (r12 == 5)) && (r14 == 2)) && (r16 == 2)) && (r18 == 0)) == true) then
    (bif (((((((r8 == 12) && (r10 == 7)) && (r12 == 5)) && (r14 == 2)) && (r16 == 2)) && (r18 == 0)) == true) then (m12 r2.1 [0, 0, 5, 4, 5]) else some false).bind fun r19 =>
    (bif (((((((((((r8 == 12) && (r10 == 7)) && (r12 == 5)) && (r14 == 2)) && (r16 == 2)) && (r18 == 0)) && r19) && (r2.2.1 == 0)) && (r4.2.1 == 4)) && (r6.2.1 == 22)) == true) then m25 else some []).bind fun r20 =>
    (bif (((((((((((r8 == 12) && (r10 == 7)) && (r12 == 5)) && (r14 == 2)) && (r16 == 2)) && (r18 == 0)) && r19) && (r2.2.1 == 0)) && (r4.2.1 == 4)) && (r6.2.1 == 22)) == true) then (m13 r20) else some false).bind fun r21 =>
    (bif ((((((((((((r8 == 12) && (r10 == 7)) && (r12 == 5)) && (r14 == 2)) && (r16 == 2)) && (r18 == 0)) && r19) && (r2.2.1 == 0)) && (r4.2.1 == 4)) && (r6.2.1 == 22)) && r21) == true) then m25 else some []).bind fun r22 =>
    (bif ((((((((((((r8 == 12) && (r10 == 7)) && (r12 == 5)) && (r14 == 2)) && (r16 == 2)) && (r18 == 0)) && r19) && (r2.2.1 == 0)) && (r4.2.1 == 4)) && (r6.2.1 == 22)) && r21) == true) then (m19 r22 2) else some false).bind fun r23 =>
    some ((((((((((((r8 == 12) && (r10 == 7)) && (r12 == 5)) && (r14 == 2)) && (r16 == 2)) && (r18 == 0)) && r19) && (r2.2.1 == 0)) && (r4.2.1 == 4)) && (r6.2.1 == 22)) && r21) && r23)
  else
    (bif (((((((r8 == 12) && (r10 == 7)) && (r12 == 5)) && (r14 == 2)) && (r16 == 2)) && (r18 == 0)) == true) then (m12 r2.1 []) else some false).bind fun r24 =>
    (bif (((((((((((r8 == 12) && (r10 == 7)) && (r12 == 5)) && (r14 == 2)) && (r16 == 2)) && (r18 == 0)) && r24) && (r2.2.1 == 0)) && (r4.2.1 == 4)) && (r6.2.1 == 22)) == true) then m25 else some []).bind fun r25 =>
    (bif (((((((((((r8 == 12) && (r10 == 7)) && (r12 == 5)) && (r14 == 2)) && (r16 == 2)) && (r18 == 0)) && r24) && (r2.2.1 == 0)) && (r4.2.1 == 4)) && (r6.2.1 == 22)) == true) then (m13 r25) else some false).bind fun r26 =>
    (bif ((((((((((((r8 == 12) && (r10 == 7)) && (r12 == 5)) && (r14 == 2)) && (r16 == 2)) && (r18 == 0)) && r24) && (r2.2.1 == 0)) && (r4.2.1 == 4)) && (r6.2.1 == 22)) && r26) == true) then m25 else some []).bind fun r27 =>
    (bif ((((((((((((r8 == 12) && (r10 == 7)) && (r12 == 5)) && (r14 == 2)) && (r16 == 2)) && (r18 == 0)) && r24) && (r2.2.1 == 0)) && (r4.2.1 == 4)) && (r6.2.1 == 22)) && r26) == true) then (m19 r27 2) else some false).bind fun r28 =>
    some ((((((((((((r8 == 12) && (r10 == 7)) && (r12 == 5)) && (r14 == 2)) && (r16 == 2)) && (r18 == 0)) && r24) && (r2.2.1 == 0)) && (r4.2.1 == 4)) && (r6.2.1 == 22)) && r26) && r28)
noncomputable def e8 : PmE := entry 8 [] false .bool (fun x => m8 )
theorem q8 (x : tyL []) : execF E8 C8 Try.f8 (datL [] x) [] (retK false .bool) = m8  := by kernel_rfl
theorem p8 : PmOk Try.prog e8 := pm_ok (E := E8) ok8 ord lm8 Try.func8 ca8 q8

/-! 9: consol/consollaw30.few -/
theorem ca9 : callable Try.prog 9 := ⟨Try.f9, Try.func9, by kernel_rfl, by kernel_rfl⟩
noncomputable def E9 : Env := mkEnv2 Try.prog [] []
theorem ok9 : EnvOk E9 := mkEnv2_ok (by simp) (by simp)
noncomputable def C9 : Cfg := noCfg
theorem lm9 : ∀ c, Try.f9.body = some c → LmOk E9 C9 Try.f9.ntmps c := fun _ _ => noCfg_lm
noncomputable def m9 (a0 : (List T35)) (a1 : (List Int)) : Option (Bool) :=
  some ((decide ((List.length a0 : Int) ≤ 30)) && (decide ((List.length a1 : Int) ≤ 40)))
noncomputable def e9 : PmE := entry 9 [(.sl G35), (.sl (.int .i64))] false .bool (fun x => m9 x.1 x.2.1)
theorem q9 (x : tyL [(.sl G35), (.sl (.int .i64))]) : execF E9 C9 Try.f9 (datL [(.sl G35), (.sl (.int .i64))] x) [] (retK false .bool) = m9 x.1 x.2.1 := by kernel_rfl
theorem p9 : PmOk Try.prog e9 := pm_ok (E := E9) ok9 ord lm9 Try.func9 ca9 q9

/-! 30: consol/consolref30.above -/
theorem ca30 : callable Try.prog 30 := ⟨Try.f30, Try.func30, by kernel_rfl, by kernel_rfl⟩
noncomputable def E30 : Env := mkEnv2 Try.prog [] []
theorem ok30 : EnvOk E30 := mkEnv2_ok (by simp) (by simp)
/-- a round of a loop of consol/consolref30.above -/
noncomputable def s30_1 {R : Type} (t0 : (List T35)) (kn : Int → Int → Option R) (k1 : Int → Option R) (t1 : Int) (t5 : Int) : Option R :=
  (idx t0 t1).bind fun x1 =>
  bif (decide (x1.1 ≥ 0)) then
    (idx t0 t1).bind fun x2 =>
    kn x2.1 (IntKind.i64.wrap (t5 + 1))
  else
    k1 t5
noncomputable def l30_1 {R : Type} (t0 : (List T35)) (k1 : Int → Option R) : Nat → Int → Int → Option R
  | 0, _, _ => none
  | n + 1, t1, t5 => s30_1 t0 (l30_1 t0 k1 n) k1 t1 t5
noncomputable def L30_1 : LE := ⟨3, 0, ⟨[(0, (.dat (.sl G35))), (1, (.dat (.int .i64))), (5, (.dat (.int .i64)))], []⟩, fun R n x k => l30_1 x.1.1 (fun y0 => k (.exit 0) ⟨[(5, (.dat (.int .i64) y0))], []⟩) n x.1.2.1 x.1.2.2.1⟩
noncomputable def C30 : Cfg := mkCfg [(3, ⟨[0, 1, 5], []⟩)] [(3, (⟨[5], []⟩, ⟨[4], []⟩))] (([(0, L30_1)] : List (Nat × LE)).map (·.2))
theorem ek30_1 : EOk E30 C30 Try.f30.ntmps (bodyL Try.f30 0) L30_1 := eok_of (e := L30_1) (fun R x Kn k => s30_1 x.1.1 (fun v0 v1 => Kn ((x.1.1, v0, v1, ()), (()))) (fun y0 => k (.exit 0) ⟨[(5, (.dat (.int .i64) y0))], []⟩) x.1.2.1 x.1.2.2.1) (fun _ _ _ => rfl) (fun _ _ _ _ => rfl) (fun R x Kn k => by kernel_rfl)
theorem lm30 : ∀ c, Try.f30.body = some c → LmOk E30 C30 Try.f30.ntmps c := lmOk_of (ps := [(0, L30_1)]) (by kernel_rfl) (by kernel_rfl) ⟨ek30_1, trivial⟩
noncomputable def m30 (a0 : (List T35)) (a1 : Int) : Option (Int) :=
  l30_1 a0 (fun y3 =>
      some y3) FUEL a1 0
noncomputable def e30 : PmE := entry 30 [(.sl G35), (.int .i64)] false (.int .i64) (fun x => m30 x.1 x.2.1)
theorem q30 (x : tyL [(.sl G35), (.int .i64)]) : execF E30 C30 Try.f30 (datL [(.sl G35), (.int .i64)] x) [] (retK false (.int .i64)) = m30 x.1 x.2.1 := by kernel_rfl
theorem p30 : PmOk Try.prog e30 := pm_ok (E := E30) ok30 ord lm30 Try.func30 ca30 q30

/-! 14: consol/consolref30.Right -/
theorem ca14 : callable Try.prog 14 := ⟨Try.f14, Try.func14, by kernel_rfl, by kernel_rfl⟩
noncomputable def E14 : Env := mkEnv2 Try.prog [e30] []
theorem ok14 : EnvOk E14 := mkEnv2_ok (by simp only [List.mem_cons, List.not_mem_nil, or_false, forall_eq]; exact p30) (by simp)
/-- a round of a loop of consol/consolref30.Right -/
noncomputable def s14_1 {R : Type} (t0 : (List T35)) (kn : Int → Option R) (k1 : Option R) (k2 : Option R) (t3 : Int) : Option R :=
  bif (decide (t3 < (List.length t0 : Int))) then
    (idx t0 t3).bind fun x1 =>
    bif ((((decide (x1.1 < (-1))) || (decide (x1.1 ≥ t3))) || (decide (x1.2.1 < (-1)))) || (decide (x1.2.1 ≥ 60))) then
      k2
    else
      kn (IntKind.i64.wrap (t3 + 1))
  else
    k1
noncomputable def l14_1 {R : Type} (t0 : (List T35)) (k1 : Option R) (k2 : Option R) : Nat → Int → Option R
  | 0, _ => none
  | n + 1, t3 => s14_1 t0 (l14_1 t0 k1 k2 n) k1 k2 t3
noncomputable def L14_1 : LE := ⟨3, 0, ⟨[(0, (.dat (.sl G35))), (3, (.dat (.int .i64)))], []⟩, fun R n x k => l14_1 x.1.1 (k (.exit 0) ⟨[(0, (.dat (.sl G35) x.1.1))], []⟩) (k .ret ⟨[(2, (.dat .bool false))], []⟩) n x.1.2.1⟩
/-- a round of a loop of consol/consolref30.Right -/
noncomputable def s14_2 {R : Type} (t0 : (List T35)) (kn : Int → Option R) (k1 : Option R) (k2 : Option R) (t5 : Int) : Option R :=
  bif (decide (t5 < (List.length t0 : Int))) then
    (m30 t0 t5).bind fun r2 =>
    bif (decide (r2 > 4)) then
      k2
    else
      kn (IntKind.i64.wrap (t5 + 1))
  else
    k1
noncomputable def l14_2 {R : Type} (t0 : (List T35)) (k1 : Option R) (k2 : Option R) : Nat → Int → Option R
  | 0, _ => none
  | n + 1, t5 => s14_2 t0 (l14_2 t0 k1 k2 n) k1 k2 t5
noncomputable def L14_2 : LE := ⟨9, 0, ⟨[(0, (.dat (.sl G35))), (5, (.dat (.int .i64)))], []⟩, fun R n x k => l14_2 x.1.1 (k (.exit 2) ⟨[(0, (.dat (.sl G35) x.1.1))], []⟩) (k .ret ⟨[(2, (.dat .bool false))], []⟩) n x.1.2.1⟩
noncomputable def C14 : Cfg := mkCfg [(3, ⟨[0, 3], []⟩), (9, ⟨[0, 5], []⟩)] [(3, (⟨[0], []⟩, ⟨[2], []⟩)), (9, (⟨[0], []⟩, ⟨[2], []⟩))] (([(0, L14_1), (1, L14_2)] : List (Nat × LE)).map (·.2))
theorem ek14_1 : EOk E14 C14 Try.f14.ntmps (bodyL Try.f14 0) L14_1 := eok_of (e := L14_1) (fun R x Kn k => s14_1 x.1.1 (fun v0 => Kn ((x.1.1, v0, ()), (()))) (k (.exit 0) ⟨[(0, (.dat (.sl G35) x.1.1))], []⟩) (k .ret ⟨[(2, (.dat .bool false))], []⟩) x.1.2.1) (fun _ _ _ => rfl) (fun _ _ _ _ => rfl) (fun R x Kn k => by kernel_rfl)
theorem ek14_2 : EOk E14 C14 Try.f14.ntmps (bodyL Try.f14 1) L14_2 := eok_of (e := L14_2) (fun R x Kn k => s14_2 x.1.1 (fun v0 => Kn ((x.1.1, v0, ()), (()))) (k (.exit 2) ⟨[(0, (.dat (.sl G35) x.1.1))], []⟩) (k .ret ⟨[(2, (.dat .bool false))], []⟩) x.1.2.1) (fun _ _ _ => rfl) (fun _ _ _ _ => rfl) (fun R x Kn k => by kernel_rfl)
theorem lm14 : ∀ c, Try.f14.body = some c → LmOk E14 C14 Try.f14.ntmps c := lmOk_of (ps := [(0, L14_1), (1, L14_2)]) (by kernel_rfl) (by kernel_rfl) ⟨ek14_1, ek14_2, trivial⟩
noncomputable def m14 (a0 : (List T35)) : Option (Bool) :=
  l14_1 a0 (
      l14_2 a0 (
          some (decide ((List.length a0 : Int) ≤ 20000))) (
          some false) FUEL 0) (
      some false) FUEL 0
noncomputable def e14 : PmE := entry 14 [(.sl G35)] false .bool (fun x => m14 x.1)
theorem q14 (x : tyL [(.sl G35)]) : execF E14 C14 Try.f14 (datL [(.sl G35)] x) [] (retK false .bool) = m14 x.1 := by kernel_rfl
theorem p14 : PmOk Try.prog e14 := pm_ok (E := E14) ok14 ord lm14 Try.func14 ca14 q14

/-! 31: consol/consolref30.is -/
theorem ca31 : callable Try.prog 31 := ⟨Try.f31, Try.func31, by kernel_rfl, by kernel_rfl⟩
noncomputable def E31 : Env := mkEnv2 Try.prog [e14] []
theorem ok31 : EnvOk E31 := mkEnv2_ok (by simp only [List.mem_cons, List.not_mem_nil, or_false, forall_eq]; exact p14) (by simp)
noncomputable def C31 : Cfg := noCfg
theorem lm31 : ∀ c, Try.f31.body = some c → LmOk E31 C31 Try.f31.ntmps c := fun _ _ => noCfg_lm
noncomputable def m31 (a0 : (List T35)) (a1 : Int) : Option (Bool) :=
  (bif (((decide (a1 ≥ 0)) && (decide (a1 < (List.length a0 : Int)))) == true) then (m14 a0) else some false).bind fun r1 =>
  some (((decide (a1 ≥ 0)) && (decide (a1 < (List.length a0 : Int)))) && r1)
noncomputable def e31 : PmE := entry 31 [(.sl G35), (.int .i64)] false .bool (fun x => m31 x.1 x.2.1)
theorem q31 (x : tyL [(.sl G35), (.int .i64)]) : execF E31 C31 Try.f31 (datL [(.sl G35), (.int .i64)] x) [] (retK false .bool) = m31 x.1 x.2.1 := by kernel_rfl
theorem p31 : PmOk Try.prog e31 := pm_ok (E := E31) ok31 ord lm31 Try.func31 ca31 q31

/-! 20: consol/consolref30.Leaf -/
theorem ca20 : callable Try.prog 20 := ⟨Try.f20, Try.func20, by kernel_rfl, by kernel_rfl⟩
noncomputable def E20 : Env := mkEnv2 Try.prog [e31] []
theorem ok20 : EnvOk E20 := mkEnv2_ok (by simp only [List.mem_cons, List.not_mem_nil, or_false, forall_eq]; exact p31) (by simp)
/-- a round of a loop of consol/consolref30.Leaf -/
noncomputable def s20_1 {R : Type} (t0 : (List T35)) (t1 : Int) (kn : Int → Option R) (k1 : Option R) (k2 : Option R) (t5 : Int) : Option R :=
  bif (decide (t5 < (List.length t0 : Int))) then
    (idx t0 t5).bind fun x2 =>
    bif (x2.1 == t1) then
      k2
    else
      kn (IntKind.i64.wrap (t5 + 1))
  else
    k1
noncomputable def l20_1 {R : Type} (t0 : (List T35)) (t1 : Int) (k1 : Option R) (k2 : Option R) : Nat → Int → Option R
  | 0, _ => none
  | n + 1, t5 => s20_1 t0 t1 (l20_1 t0 t1 k1 k2 n) k1 k2 t5
noncomputable def L20_1 : LE := ⟨5, 0, ⟨[(0, (.dat (.sl G35))), (1, (.dat (.int .i64))), (5, (.dat (.int .i64)))], []⟩, fun R n x k => l20_1 x.1.1 x.1.2.1 (k (.exit 0) ⟨[], []⟩) (k .ret ⟨[(4, (.dat .bool false))], []⟩) n x.1.2.2.1⟩
noncomputable def C20 : Cfg := mkCfg [(5, ⟨[0, 1, 5], []⟩)] [(5, (⟨[], []⟩, ⟨[4], []⟩))] (([(0, L20_1)] : List (Nat × LE)).map (·.2))
theorem ek20_1 : EOk E20 C20 Try.f20.ntmps (bodyL Try.f20 0) L20_1 := eok_of (e := L20_1) (fun R x Kn k => s20_1 x.1.1 x.1.2.1 (fun v0 => Kn ((x.1.1, x.1.2.1, v0, ()), (()))) (k (.exit 0) ⟨[], []⟩) (k .ret ⟨[(4, (.dat .bool false))], []⟩) x.1.2.2.1) (fun _ _ _ => rfl) (fun _ _ _ _ => rfl) (fun R x Kn k => by kernel_rfl)
theorem lm20 : ∀ c, Try.f20.body = some c → LmOk E20 C20 Try.f20.ntmps c := lmOk_of (ps := [(0, L20_1)]) (by kernel_rfl) (by kernel_rfl) ⟨ek20_1, trivial⟩
noncomputable def m20 (a0 : (List T35)) (a1 : Int) : Option (Bool) :=
  (m31 a0 a1).bind fun r1 =>
  bif (!r1) then
    some false
  else
    l20_1 a0 a1 (
        some true) (
        some false) FUEL 0
noncomputable def e20 : PmE := entry 20 [(.sl G35), (.int .i64)] false .bool (fun x => m20 x.1 x.2.1)
theorem q20 (x : tyL [(.sl G35), (.int .i64)]) : execF E20 C20 Try.f20 (datL [(.sl G35), (.int .i64)] x) [] (retK false .bool) = m20 x.1 x.2.1 := by kernel_rfl
theorem p20 : PmOk Try.prog e20 := pm_ok (E := E20) ok20 ord lm20 Try.func20 ca20 q20

/-! 23: consol/consolref30.Units -/
theorem ca23 : callable Try.prog 23 := ⟨Try.f23, Try.func23, by kernel_rfl, by kernel_rfl⟩
noncomputable def E23 : Env := mkEnv2 Try.prog [e14, e20] []
theorem ok23 : EnvOk E23 := mkEnv2_ok (by simp only [List.mem_cons, List.not_mem_nil, or_false, forall_eq_or_imp, forall_eq]; exact ⟨p14, p20⟩) (by simp)
/-- a round of a loop of consol/consolref30.Units -/
noncomputable def s23_1 {R : Type} (t0 : (List T35)) (t1 : (List Int)) (kn : Int → Int → Option R) (k1 : Int → Option R) (k2 : Option R) (t5 : Int) (t6 : Int) : Option R :=
  bif (decide (t6 < (List.length t1 : Int))) then
    (idx t1 t6).bind fun x2 =>
    (idxG ((decide (x2 < 0)) == false) 0 t1 t6).bind fun x3 =>
    (idxG (((decide (x2 < 0)) || (decide (x3 > 1000000000))) == false) 0 t1 t6).bind fun x4 =>
    (bif ((((decide (x2 < 0)) || (decide (x3 > 1000000000))) == false) && ((decide (x4 > 0)) == true)) then (m20 t0 t6) else some false).bind fun r5 =>
    bif (((decide (x2 < 0)) || (decide (x3 > 1000000000))) || ((decide (x4 > 0)) && (!r5))) then
      k2
    else
      (idx t1 t6).bind fun x6 =>
      kn (IntKind.i64.wrap (t5 + x6)) (IntKind.i64.wrap (t6 + 1))
  else
    k1 t5
noncomputable def l23_1 {R : Type} (t0 : (List T35)) (t1 : (List Int)) (k1 : Int → Option R) (k2 : Option R) : Nat → Int → Int → Option R
  | 0, _, _ => none
  | n + 1, t5, t6 => s23_1 t0 t1 (l23_1 t0 t1 k1 k2 n) k1 k2 t5 t6
noncomputable def L23_1 : LE := ⟨6, 0, ⟨[(0, (.dat (.sl G35))), (1, (.dat (.sl (.int .i64)))), (5, (.dat (.int .i64))), (6, (.dat (.int .i64)))], []⟩, fun R n x k => l23_1 x.1.1 x.1.2.1 (fun y0 => k (.exit 0) ⟨[(5, (.dat (.int .i64) y0))], []⟩) (k .ret ⟨[(4, (.dat .bool false))], []⟩) n x.1.2.2.1 x.1.2.2.2.1⟩
noncomputable def C23 : Cfg := mkCfg [(6, ⟨[0, 1, 5, 6], []⟩)] [(6, (⟨[5], []⟩, ⟨[4], []⟩))] (([(0, L23_1)] : List (Nat × LE)).map (·.2))
theorem ek23_1 : EOk E23 C23 Try.f23.ntmps (bodyL Try.f23 0) L23_1 := eok_of (e := L23_1) (fun R x Kn k => s23_1 x.1.1 x.1.2.1 (fun v0 v1 => Kn ((x.1.1, x.1.2.1, v0, v1, ()), (()))) (fun y0 => k (.exit 0) ⟨[(5, (.dat (.int .i64) y0))], []⟩) (k .ret ⟨[(4, (.dat .bool false))], []⟩) x.1.2.2.1 x.1.2.2.2.1) (fun _ _ _ => rfl) (fun _ _ _ _ => rfl) (fun R x Kn k => by kernel_rfl)
theorem lm23 : ∀ c, Try.f23.body = some c → LmOk E23 C23 Try.f23.ntmps c := lmOk_of (ps := [(0, L23_1)]) (by kernel_rfl) (by kernel_rfl) ⟨ek23_1, trivial⟩
noncomputable def m23 (a0 : (List T35)) (a1 : (List Int)) : Option (Bool) :=
  (m14 a0).bind fun r1 =>
  bif ((!r1) || ((List.length a1 : Int) != (List.length a0 : Int))) then
    some false
  else
    l23_1 a0 a1 (fun y7 =>
        some (decide (y7 ≤ 1000000000))) (
        some false) FUEL 0 0
noncomputable def e23 : PmE := entry 23 [(.sl G35), (.sl (.int .i64))] false .bool (fun x => m23 x.1 x.2.1)
theorem q23 (x : tyL [(.sl G35), (.sl (.int .i64))]) : execF E23 C23 Try.f23 (datL [(.sl G35), (.sl (.int .i64))] x) [] (retK false .bool) = m23 x.1 x.2.1 := by kernel_rfl
theorem p23 : PmOk Try.prog e23 := pm_ok (E := E23) ok23 ord lm23 Try.func23 ca23 q23

/-! 11: consol/consolref30.Move -/
theorem ca11 : callable Try.prog 11 := ⟨Try.f11, Try.func11, by kernel_rfl, by kernel_rfl⟩
noncomputable def E11 : Env := mkEnv2 Try.prog [e20, e23] []
theorem ok11 : EnvOk E11 := mkEnv2_ok (by simp only [List.mem_cons, List.not_mem_nil, or_false, forall_eq_or_imp, forall_eq]; exact ⟨p20, p23⟩) (by simp)
noncomputable def C11 : Cfg := noCfg
theorem lm11 : ∀ c, Try.f11.body = some c → LmOk E11 C11 Try.f11.ntmps c := fun _ _ => noCfg_lm
noncomputable def m11 (a0 : (List T35)) (a1 : (List Int)) (a2 : Int) (a3 : Int) (a4 : Int) : Option (((List Int) × (Int × Unit))) :=
  (m23 a0 a1).bind fun r1 =>
  bif ((!r1) || (decide (a4 < 1))) then
    some ([], 1, ())
  else
    (m20 a0 a2).bind fun r2 =>
    (bif ((!r2) == false) then (m20 a0 a3) else some false).bind fun r3 =>
    bif ((!r2) || (!r3)) then
      some ([], 4, ())
    else
      (idx a1 a2).bind fun x4 =>
      bif (decide (x4 < a4)) then
        some ([], 22, ())
      else
        asrt true (decide (List.length (α := Int) [] + List.length (α := Int) a1 ≤ LIM)) (
          asrt true (decide (0 ≤ a2) && decide (a2 < (List.length ([] ++ a1) : Int))) (
            ((([] ++ a1))[(a2 : Int).toNat]?).bind fun x5 =>
            asrt true (decide (0 ≤ a2) && decide (a2 < (List.length ([] ++ a1) : Int))) (
              ((([] ++ a1))[(a2 : Int).toNat]?).bind fun x6 =>
              asrt true (decide (0 ≤ a3) && decide (a3 < (List.length (List.set ([] ++ a1) (a2 : Int).toNat (IntKind.i64.wrap (x5 - a4))) : Int))) (
                (((List.set ([] ++ a1) (a2 : Int).toNat (IntKind.i64.wrap (x5 - a4))))[(a3 : Int).toNat]?).bind fun x7 =>
                asrt true (decide (0 ≤ a3) && decide (a3 < (List.length (List.set ([] ++ a1) (a2 : Int).toNat (IntKind.i64.wrap (x5 - a4))) : Int))) (
                  (((List.set ([] ++ a1) (a2 : Int).toNat (IntKind.i64.wrap (x5 - a4))))[(a3 : Int).toNat]?).bind fun x8 =>
                  some ((List.set (List.set ([] ++ a1) (a2 : Int).toNat (IntKind.i64.wrap (x5 - a4))) (a3 : Int).toNat (IntKind.i64.wrap (x7 + a4))), 0, ()))))))
theorem q11 (x : tyL [(.sl G35), (.sl (.int .i64)), (.int .i64), (.int .i64), (.int .i64)]) : execF E11 C11 Try.f11 (datL [(.sl G35), (.sl (.int .i64)), (.int .i64), (.int .i64), (.int .i64)] x) [] (retT [true, false] (.cons (.sl (.int .i64)) (.cons (.int .i64) .nil))) = m11 x.1 x.2.1 x.2.2.1 x.2.2.2.1 x.2.2.2.2.1 := by kernel_rfl
noncomputable def c11 : CmE := ownT 11 [(.sl G35), (.sl (.int .i64)), (.int .i64), (.int .i64), (.int .i64)] [true, false] (.cons (.sl (.int .i64)) (.cons (.int .i64) .nil)) (fun x => m11 x.1 x.2.1 x.2.2.1 x.2.2.2.1 x.2.2.2.2.1)
theorem d11 : CmOk Try.prog c11 := ownT_ok ca11 (frun_of (E := E11) ok11 ord lm11 Try.func11 q11)

/-! 16: consol/consolref30.Level -/
theorem ca16 : callable Try.prog 16 := ⟨Try.f16, Try.func16, by kernel_rfl, by kernel_rfl⟩
noncomputable def E16 : Env := mkEnv2 Try.prog [e30, e31] []
theorem ok16 : EnvOk E16 := mkEnv2_ok (by simp only [List.mem_cons, List.not_mem_nil, or_false, forall_eq_or_imp, forall_eq]; exact ⟨p30, p31⟩) (by simp)
noncomputable def C16 : Cfg := noCfg
theorem lm16 : ∀ c, Try.f16.body = some c → LmOk E16 C16 Try.f16.ntmps c := fun _ _ => noCfg_lm
noncomputable def m16 (a0 : (List T35)) (a1 : Int) : Option (Int) :=
  (m31 a0 a1).bind fun r1 =>
  bif (!r1) then
    some (-1)
  else
    (m30 a0 a1).bind fun r2 =>
    some r2
noncomputable def e16 : PmE := entry 16 [(.sl G35), (.int .i64)] false (.int .i64) (fun x => m16 x.1 x.2.1)
theorem q16 (x : tyL [(.sl G35), (.int .i64)]) : execF E16 C16 Try.f16 (datL [(.sl G35), (.int .i64)] x) [] (retK false (.int .i64)) = m16 x.1 x.2.1 := by kernel_rfl
theorem p16 : PmOk Try.prog e16 := pm_ok (E := E16) ok16 ord lm16 Try.func16 ca16 q16

/-! 18: consol/consolref30.Root -/
theorem ca18 : callable Try.prog 18 := ⟨Try.f18, Try.func18, by kernel_rfl, by kernel_rfl⟩
noncomputable def E18 : Env := mkEnv2 Try.prog [e31] []
theorem ok18 : EnvOk E18 := mkEnv2_ok (by simp only [List.mem_cons, List.not_mem_nil, or_false, forall_eq]; exact p31) (by simp)
/-- a round of a loop of consol/consolref30.Root -/
noncomputable def s18_1 {R : Type} (t0 : (List T35)) (kn : Int → Option R) (k1 : Int → Option R) (t1 : Int) : Option R :=
  (idx t0 t1).bind fun x2 =>
  bif (decide (x2.1 ≥ 0)) then
    (idx t0 t1).bind fun x3 =>
    kn x3.1
  else
    k1 t1
noncomputable def l18_1 {R : Type} (t0 : (List T35)) (k1 : Int → Option R) : Nat → Int → Option R
  | 0, _ => none
  | n + 1, t1 => s18_1 t0 (l18_1 t0 k1 n) k1 t1
noncomputable def L18_1 : LE := ⟨4, 0, ⟨[(0, (.dat (.sl G35))), (1, (.dat (.int .i64)))], []⟩, fun R n x k => l18_1 x.1.1 (fun y0 => k (.exit 0) ⟨[(1, (.dat (.int .i64) y0))], []⟩) n x.1.2.1⟩
noncomputable def C18 : Cfg := mkCfg [(4, ⟨[0, 1], []⟩)] [(4, (⟨[1], []⟩, ⟨[4], []⟩))] (([(0, L18_1)] : List (Nat × LE)).map (·.2))
theorem ek18_1 : EOk E18 C18 Try.f18.ntmps (bodyL Try.f18 0) L18_1 := eok_of (e := L18_1) (fun R x Kn k => s18_1 x.1.1 (fun v0 => Kn ((x.1.1, v0, ()), (()))) (fun y0 => k (.exit 0) ⟨[(1, (.dat (.int .i64) y0))], []⟩) x.1.2.1) (fun _ _ _ => rfl) (fun _ _ _ _ => rfl) (fun R x Kn k => by kernel_rfl)
theorem lm18 : ∀ c, Try.f18.body = some c → LmOk E18 C18 Try.f18.ntmps c := lmOk_of (ps := [(0, L18_1)]) (by kernel_rfl) (by kernel_rfl) ⟨ek18_1, trivial⟩
noncomputable def m18 (a0 : (List T35)) (a1 : Int) : Option (Int) :=
  (m31 a0 a1).bind fun r1 =>
  bif (!r1) then
    some (-1)
  else
    l18_1 a0 (fun y4 =>
        some y4) FUEL a1
noncomputable def e18 : PmE := entry 18 [(.sl G35), (.int .i64)] false (.int .i64) (fun x => m18 x.1 x.2.1)
theorem q18 (x : tyL [(.sl G35), (.int .i64)]) : execF E18 C18 Try.f18 (datL [(.sl G35), (.int .i64)] x) [] (retK false (.int .i64)) = m18 x.1 x.2.1 := by kernel_rfl
theorem p18 : PmOk Try.prog e18 := pm_ok (E := E18) ok18 ord lm18 Try.func18 ca18 q18

/-! 24: consol/consolref30.Below -/
theorem ca24 : callable Try.prog 24 := ⟨Try.f24, Try.func24, by kernel_rfl, by kernel_rfl⟩
noncomputable def E24 : Env := mkEnv2 Try.prog [] []
theorem ok24 : EnvOk E24 := mkEnv2_ok (by simp) (by simp)
/-- a round of a loop of consol/consolref30.Below -/
noncomputable def s24_1 {R : Type} (t0 : (List T35)) (t2 : Int) (kn : Int → Option R) (k1 : Int → Option R) (t1 : Int) : Option R :=
  (idxG ((t1 != t2) == true) (0, 0, ()) t0 t1).bind fun x1 =>
  bif ((t1 != t2) && (decide (x1.1 ≥ 0))) then
    (idx t0 t1).bind fun x2 =>
    kn x2.1
  else
    k1 t1
noncomputable def l24_1 {R : Type} (t0 : (List T35)) (t2 : Int) (k1 : Int → Option R) : Nat → Int → Option R
  | 0, _ => none
  | n + 1, t1 => s24_1 t0 t2 (l24_1 t0 t2 k1 n) k1 t1
noncomputable def L24_1 : LE := ⟨2, 0, ⟨[(0, (.dat (.sl G35))), (1, (.dat (.int .i64))), (2, (.dat (.int .i64)))], []⟩, fun R n x k => l24_1 x.1.1 x.1.2.2.1 (fun y0 => k (.exit 0) ⟨[(1, (.dat (.int .i64) y0)), (2, (.dat (.int .i64) x.1.2.2.1))], []⟩) n x.1.2.1⟩
noncomputable def C24 : Cfg := mkCfg [(2, ⟨[0, 1, 2], []⟩)] [(2, (⟨[1, 2], []⟩, ⟨[6], []⟩))] (([(0, L24_1)] : List (Nat × LE)).map (·.2))
theorem ek24_1 : EOk E24 C24 Try.f24.ntmps (bodyL Try.f24 0) L24_1 := eok_of (e := L24_1) (fun R x Kn k => s24_1 x.1.1 x.1.2.2.1 (fun v0 => Kn ((x.1.1, v0, x.1.2.2.1, ()), (()))) (fun y0 => k (.exit 0) ⟨[(1, (.dat (.int .i64) y0)), (2, (.dat (.int .i64) x.1.2.2.1))], []⟩) x.1.2.1) (fun _ _ _ => rfl) (fun _ _ _ _ => rfl) (fun R x Kn k => by kernel_rfl)
theorem lm24 : ∀ c, Try.f24.body = some c → LmOk E24 C24 Try.f24.ntmps c := lmOk_of (ps := [(0, L24_1)]) (by kernel_rfl) (by kernel_rfl) ⟨ek24_1, trivial⟩
noncomputable def m24 (a0 : (List T35)) (a1 : Int) (a2 : Int) : Option (Bool) :=
  l24_1 a0 a2 (fun y3 =>
      some (y3 == a2)) FUEL a1
noncomputable def e24 : PmE := entry 24 [(.sl G35), (.int .i64), (.int .i64)] false .bool (fun x => m24 x.1 x.2.1 x.2.2.1)
theorem q24 (x : tyL [(.sl G35), (.int .i64), (.int .i64)]) : execF E24 C24 Try.f24 (datL [(.sl G35), (.int .i64), (.int .i64)] x) [] (retK false .bool) = m24 x.1 x.2.1 x.2.2.1 := by kernel_rfl
theorem p24 : PmOk Try.prog e24 := pm_ok (E := E24) ok24 ord lm24 Try.func24 ca24 q24

/-! 22: consol/consolref30.Held -/
theorem ca22 : callable Try.prog 22 := ⟨Try.f22, Try.func22, by kernel_rfl, by kernel_rfl⟩
noncomputable def E22 : Env := mkEnv2 Try.prog [e23, e24, e31] []
theorem ok22 : EnvOk E22 := mkEnv2_ok (by simp only [List.mem_cons, List.not_mem_nil, or_false, forall_eq_or_imp, forall_eq]; exact ⟨p23, p24, p31⟩) (by simp)
/-- a round of a loop of consol/consolref30.Held -/
noncomputable def s22_1 {R : Type} (t0 : (List T35)) (t1 : (List Int)) (t2 : Int) (kn : Int → Int → Option R) (k1 : Int → Option R) (t7 : Int) (t8 : Int) : Option R :=
  bif (decide (t8 < (List.length t1 : Int))) then
    cont (fun (k5 : Int → _) =>
      (m24 t0 t8 t2).bind fun r3 =>
      bif r3 then
        (idx t1 t8).bind fun x4 =>
        k5 (IntKind.i64.wrap (t7 + x4))
      else
        k5 t7) fun y5 =>
    kn y5 (IntKind.i64.wrap (t8 + 1))
  else
    k1 t7
noncomputable def l22_1 {R : Type} (t0 : (List T35)) (t1 : (List Int)) (t2 : Int) (k1 : Int → Option R) : Nat → Int → Int → Option R
  | 0, _, _ => none
  | n + 1, t7, t8 => s22_1 t0 t1 t2 (l22_1 t0 t1 t2 k1 n) k1 t7 t8
noncomputable def L22_1 : LE := ⟨6, 0, ⟨[(0, (.dat (.sl G35))), (1, (.dat (.sl (.int .i64)))), (2, (.dat (.int .i64))), (7, (.dat (.int .i64))), (8, (.dat (.int .i64)))], []⟩, fun R n x k => l22_1 x.1.1 x.1.2.1 x.1.2.2.1 (fun y0 => k (.exit 0) ⟨[(7, (.dat (.int .i64) y0))], []⟩) n x.1.2.2.2.1 x.1.2.2.2.2.1⟩
noncomputable def C22 : Cfg := mkCfg [(6, ⟨[0, 1, 2, 7, 8], []⟩), (7, ⟨[0, 1, 2, 7, 8], []⟩)] [(6, (⟨[7], []⟩, ⟨[6], []⟩))] (([(0, L22_1)] : List (Nat × LE)).map (·.2))
theorem ek22_1 : EOk E22 C22 Try.f22.ntmps (bodyL Try.f22 0) L22_1 := eok_of (e := L22_1) (fun R x Kn k => s22_1 x.1.1 x.1.2.1 x.1.2.2.1 (fun v0 v1 => Kn ((x.1.1, x.1.2.1, x.1.2.2.1, v0, v1, ()), (()))) (fun y0 => k (.exit 0) ⟨[(7, (.dat (.int .i64) y0))], []⟩) x.1.2.2.2.1 x.1.2.2.2.2.1) (fun _ _ _ => rfl) (fun _ _ _ _ => rfl) (fun R x Kn k => by kernel_rfl)
theorem lm22 : ∀ c, Try.f22.body = some c → LmOk E22 C22 Try.f22.ntmps c := lmOk_of (ps := [(0, L22_1)]) (by kernel_rfl) (by kernel_rfl) ⟨ek22_1, trivial⟩
noncomputable def m22 (a0 : (List T35)) (a1 : (List Int)) (a2 : Int) : Option (Int) :=
  (m23 a0 a1).bind fun r1 =>
  (bif ((!r1) == false) then (m31 a0 a2) else some false).bind fun r2 =>
  bif ((!r1) || (!r2)) then
    some 0
  else
    l22_1 a0 a1 a2 (fun y6 =>
        some y6) FUEL 0 0
noncomputable def e22 : PmE := entry 22 [(.sl G35), (.sl (.int .i64)), (.int .i64)] false (.int .i64) (fun x => m22 x.1 x.2.1 x.2.2.1)
theorem q22 (x : tyL [(.sl G35), (.sl (.int .i64)), (.int .i64)]) : execF E22 C22 Try.f22 (datL [(.sl G35), (.sl (.int .i64)), (.int .i64)] x) [] (retK false (.int .i64)) = m22 x.1 x.2.1 x.2.2.1 := by kernel_rfl
theorem p22 : PmOk Try.prog e22 := pm_ok (E := E22) ok22 ord lm22 Try.func22 ca22 q22

/-! 3: consol/consollaw30.BookTells -/
theorem ca3 : callable Try.prog 3 := ⟨Try.f3, Try.func3, by kernel_rfl, by kernel_rfl⟩
noncomputable def E3 : Env := mkEnv2 Try.prog [e8, e9, e12, e13, e14, e15, e16, e17, e18, e19, e20, e21, e22] [c10, c11]
theorem ok3 : EnvOk E3 := mkEnv2_ok (by simp only [List.mem_cons, List.not_mem_nil, or_false, forall_eq_or_imp, forall_eq]; exact ⟨p8, p9, p12, p13, p14, p15, p16, p17, p18, p19, p20, p21, p22⟩) (by simp only [List.mem_cons, List.not_mem_nil, or_false, forall_eq_or_imp, forall_eq]; exact ⟨d10, d11⟩)
noncomputable def C3 : Cfg := noCfg
theorem lm3 : ∀ c, Try.f3.body = some c → LmOk E3 C3 Try.f3.ntmps c := fun _ _ => noCfg_lm
noncomputable def m3 (a0 : (List T35)) (a1 : (List Int)) (a2 : Int) (a3 : Int) (a4 : Int) : Option (Bool) :=
  (m8).bind fun r1 =>
  (m9 a0 a1).bind fun r2 =>
  bif (!r2) then
    some r1
  else
    (m10 a0 a1 a2 a3 a4).bind fun r3 =>
    (m11 a0 a1 a2 a3 a4).bind fun r4 =>
    (bif (r1 == true) then (m12 r3.1 r4.1) else some false).bind fun r5 =>
    (bif (((r1 && r5) && (r3.2.1 == r4.2.1)) == true) then (m13 a0) else some false).bind fun r6 =>
    (bif (((r1 && r5) && (r3.2.1 == r4.2.1)) == true) then (m14 a0) else some false).bind fun r7 =>
    (bif ((((r1 && r5) && (r3.2.1 == r4.2.1)) && (r6 == r7)) == true) then (m15 a0 a2) else some 0).bind fun r8 =>
    (bif ((((r1 && r5) && (r3.2.1 == r4.2.1)) && (r6 == r7)) == true) then (m16 a0 a2) else some 0).bind fun r9 =>
    (bif (((((r1 && r5) && (r3.2.1 == r4.2.1)) && (r6 == r7)) && (r8 == r9)) == true) then (m17 a0 a2) else some 0).bind fun r10 =>
    (bif (((((r1 && r5) && (r3.2.1 == r4.2.1)) && (r6 == r7)) && (r8 == r9)) == true) then (m18 a0 a2) else some 0).bind fun r11 =>
    (bif ((((((r1 && r5) && (r3.2.1 == r4.2.1)) && (r6 == r7)) && (r8 == r9)) && (r10 == r11)) == true) then (m19 a0 a3) else some false).bind fun r12 =>
    (bif ((((((r1 && r5) && (r3.2.1 == r4.2.1)) && (r6 == r7)) && (r8 == r9)) && (r10 == r11)) == true) then (m20 a0 a3) else some false).bind fun r13 =>
    (bif (((((((r1 && r5) && (r3.2.1 == r4.2.1)) && (r6 == r7)) && (r8 == r9)) && (r10 == r11)) && (r12 == r13)) == true) then (m21 a0 a1 a2) else some 0).bind fun r14 =>
    (bif (((((((r1 && r5) && (r3.2.1 == r4.2.1)) && (r6 == r7)) && (r8 == r9)) && (r10 == r11)) && (r12 == r13)) == true) then (m22 a0 a1 a2) else some 0).bind fun r15 =>
    some (((((((r1 && r5) && (r3.2.1 == r4.2.1)) && (r6 == r7)) && (r8 == r9)) && (r10 == r11)) && (r12 == r13)) && (r14 == r15))
noncomputable def e3 : PmE := entry 3 [(.sl G35), (.sl (.int .i64)), (.int .i64), (.int .i64), (.int .i64)] false .bool (fun x => m3 x.1 x.2.1 x.2.2.1 x.2.2.2.1 x.2.2.2.2.1)
theorem q3 (x : tyL [(.sl G35), (.sl (.int .i64)), (.int .i64), (.int .i64), (.int .i64)]) : execF E3 C3 Try.f3 (datL [(.sl G35), (.sl (.int .i64)), (.int .i64), (.int .i64), (.int .i64)] x) [] (retK false .bool) = m3 x.1 x.2.1 x.2.2.1 x.2.2.2.1 x.2.2.2.2.1 := by kernel_rfl
theorem p3 : PmOk Try.prog e3 := pm_ok (E := E3) ok3 ord lm3 Try.func3 ca3 q3

/-! 4: consol/consollaw30.BookSums -/
theorem ca4 : callable Try.prog 4 := ⟨Try.f4, Try.func4, by kernel_rfl, by kernel_rfl⟩
noncomputable def E4 : Env := mkEnv2 Try.prog [e8, e9, e19, e21, e23] []
theorem ok4 : EnvOk E4 := mkEnv2_ok (by simp only [List.mem_cons, List.not_mem_nil, or_false, forall_eq_or_imp, forall_eq]; exact ⟨p8, p9, p19, p21, p23⟩) (by simp)
/-- a round of a loop of consol/consollaw30.BookSums -/
noncomputable def s4_1 {R : Type} (t0 : (List T35)) (t1 : (List Int)) (t8 : Int) (kn : Int → Bool → Int → Option R) (k1 : Int → Bool → Option R) (t10 : Int) (t11 : Bool) (t12 : Int) : Option R :=
  bif (decide (t12 < (List.length t0 : Int))) then
    cont (fun (k10 : (Int × Bool) → _) =>
      (idx t0 t12).bind fun x8 =>
      bif (x8.1 == t8) then
        (m21 t0 t1 t12).bind fun r9 =>
        k10 ((IntKind.i64.wrap (t10 + r9)), false)
      else
        k10 (t10, t11)) fun y10 =>
    kn y10.1 y10.2 (IntKind.i64.wrap (t12 + 1))
  else
    k1 t10 t11
noncomputable def l4_1 {R : Type} (t0 : (List T35)) (t1 : (List Int)) (t8 : Int) (k1 : Int → Bool → Option R) : Nat → Int → Bool → Int → Option R
  | 0, _, _, _ => none
  | n + 1, t10, t11, t12 => s4_1 t0 t1 t8 (l4_1 t0 t1 t8 k1 n) k1 t10 t11 t12
noncomputable def L4_1 : LE := ⟨17, 0, ⟨[(0, (.dat (.sl G35))), (1, (.dat (.sl (.int .i64)))), (5, (.dat .bool)), (6, (.dat (.int .i64))), (7, (.dat (.int .i64))), (8, (.dat (.int .i64))), (9, (.dat (.int .i64))), (10, (.dat (.int .i64))), (11, (.dat .bool)), (12, (.dat (.int .i64)))], []⟩, fun R n x k => l4_1 x.1.1 x.1.2.1 x.1.2.2.2.2.2.1 (fun y0 y1 => k (.exit 2) ⟨[(0, (.dat (.sl G35) x.1.1)), (1, (.dat (.sl (.int .i64)) x.1.2.1)), (5, (.dat .bool x.1.2.2.1)), (6, (.dat (.int .i64) x.1.2.2.2.1)), (7, (.dat (.int .i64) x.1.2.2.2.2.1)), (8, (.dat (.int .i64) x.1.2.2.2.2.2.1)), (9, (.dat (.int .i64) x.1.2.2.2.2.2.2.1)), (10, (.dat (.int .i64) y0)), (11, (.dat .bool y1))], []⟩) n x.1.2.2.2.2.2.2.2.1 x.1.2.2.2.2.2.2.2.2.1 x.1.2.2.2.2.2.2.2.2.2.1⟩
/-- a round of a loop of consol/consollaw30.BookSums -/
noncomputable def s4_2 {R : Type} (t0 : (List T35)) (t1 : (List Int)) (kn : Int → Int → Int → Option R) (k1 : Int → Int → Option R) (k2 : Option R) (t6 : Int) (t7 : Int) (t8 : Int) : Option R :=
  bif (decide (t8 < (List.length t0 : Int))) then
    (idx t1 t8).bind fun x4 =>
    (m21 t0 t1 t8).bind fun r5 =>
    cont (fun (k7 : Int → _) =>
      (idx t0 t8).bind fun x6 =>
      bif (decide (x6.1 < 0)) then
        k7 (IntKind.i64.wrap (t7 + r5))
      else
        k7 t7) fun y7 =>
    l4_1 t0 t1 t8 (fun y11 y12 =>
        cont (fun (k14 : Int → _) =>
          bif y12 then
            (idx t1 t8).bind fun x13 =>
            k14 x13
          else
            k14 y11) fun y14 =>
        (bif ((r5 != y14) == false) then (m19 t0 t8) else some false).bind fun r15 =>
        bif ((r5 != y14) || (!(r15 == y12))) then
          k2
        else
          kn (IntKind.i64.wrap (t6 + x4)) y7 (IntKind.i64.wrap (t8 + 1))) FUEL 0 true 0
  else
    k1 t6 t7
noncomputable def l4_2 {R : Type} (t0 : (List T35)) (t1 : (List Int)) (k1 : Int → Int → Option R) (k2 : Option R) : Nat → Int → Int → Int → Option R
  | 0, _, _, _ => none
  | n + 1, t6, t7, t8 => s4_2 t0 t1 (l4_2 t0 t1 k1 k2 n) k1 k2 t6 t7 t8
noncomputable def L4_2 : LE := ⟨8, 0, ⟨[(0, (.dat (.sl G35))), (1, (.dat (.sl (.int .i64)))), (5, (.dat .bool)), (6, (.dat (.int .i64))), (7, (.dat (.int .i64))), (8, (.dat (.int .i64)))], []⟩, fun R n x k => l4_2 x.1.1 x.1.2.1 (fun y0 y1 => k (.exit 0) ⟨[(5, (.dat .bool x.1.2.2.1)), (6, (.dat (.int .i64) y0)), (7, (.dat (.int .i64) y1))], []⟩) (k .ret ⟨[(4, (.dat .bool false))], []⟩) n x.1.2.2.2.1 x.1.2.2.2.2.1 x.1.2.2.2.2.2.1⟩
noncomputable def C4 : Cfg := mkCfg [(8, ⟨[0, 1, 5, 6, 7, 8], []⟩), (9, ⟨[0, 1, 5, 6, 7, 8], []⟩), (14, ⟨[0, 1, 5, 6, 7, 8, 9], []⟩), (17, ⟨[0, 1, 5, 6, 7, 8, 9, 10, 11, 12], []⟩), (18, ⟨[0, 1, 5, 6, 7, 8, 9, 10, 11, 12], []⟩), (24, ⟨[0, 1, 5, 6, 7, 8, 9, 10, 11], []⟩)] [(8, (⟨[5, 6, 7], []⟩, ⟨[4], []⟩)), (17, (⟨[0, 1, 5, 6, 7, 8, 9, 10, 11], []⟩, ⟨[4], []⟩))] (([(1, L4_1), (0, L4_2)] : List (Nat × LE)).map (·.2))
theorem ek4_1 : EOk E4 C4 Try.f4.ntmps (bodyL Try.f4 1) L4_1 := eok_of (e := L4_1) (fun R x Kn k => s4_1 x.1.1 x.1.2.1 x.1.2.2.2.2.2.1 (fun v0 v1 v2 => Kn ((x.1.1, x.1.2.1, x.1.2.2.1, x.1.2.2.2.1, x.1.2.2.2.2.1, x.1.2.2.2.2.2.1, x.1.2.2.2.2.2.2.1, v0, v1, v2, ()), (()))) (fun y0 y1 => k (.exit 2) ⟨[(0, (.dat (.sl G35) x.1.1)), (1, (.dat (.sl (.int .i64)) x.1.2.1)), (5, (.dat .bool x.1.2.2.1)), (6, (.dat (.int .i64) x.1.2.2.2.1)), (7, (.dat (.int .i64) x.1.2.2.2.2.1)), (8, (.dat (.int .i64) x.1.2.2.2.2.2.1)), (9, (.dat (.int .i64) x.1.2.2.2.2.2.2.1)), (10, (.dat (.int .i64) y0)), (11, (.dat .bool y1))], []⟩) x.1.2.2.2.2.2.2.2.1 x.1.2.2.2.2.2.2.2.2.1 x.1.2.2.2.2.2.2.2.2.2.1) (fun _ _ _ => rfl) (fun _ _ _ _ => rfl) (fun R x Kn k => by kernel_rfl)
theorem ek4_2 : EOk E4 C4 Try.f4.ntmps (bodyL Try.f4 0) L4_2 := eok_of (e := L4_2) (fun R x Kn k => s4_2 x.1.1 x.1.2.1 (fun v0 v1 v2 => Kn ((x.1.1, x.1.2.1, x.1.2.2.1, v0, v1, v2, ()), (()))) (fun y0 y1 => k (.exit 0) ⟨[(5, (.dat .bool x.1.2.2.1)), (6, (.dat (.int .i64) y0)), (7, (.dat (.int .i64) y1))], []⟩) (k .ret ⟨[(4, (.dat .bool false))], []⟩) x.1.2.2.2.1 x.1.2.2.2.2.1 x.1.2.2.2.2.2.1) (fun _ _ _ => rfl) (fun _ _ _ _ => rfl) (fun R x Kn k => by kernel_rfl)
theorem lm4 : ∀ c, Try.f4.body = some c → LmOk E4 C4 Try.f4.ntmps c := lmOk_of (ps := [(1, L4_1), (0, L4_2)]) (by kernel_rfl) (by kernel_rfl) ⟨ek4_1, ek4_2, trivial⟩
noncomputable def m4 (a0 : (List T35)) (a1 : (List Int)) : Option (Bool) :=
  (m8).bind fun r1 =>
  (m9 a0 a1).bind fun r2 =>
  (bif ((!r2) == false) then (m23 a0 a1) else some false).bind fun r3 =>
  bif ((!r2) || (!r3)) then
    some r1
  else
    l4_2 a0 a1 (fun y16 y17 =>
        some (r1 && (y16 == y17))) (
        some false) FUEL 0 0 0
noncomputable def e4 : PmE := entry 4 [(.sl G35), (.sl (.int .i64))] false .bool (fun x => m4 x.1 x.2.1)
theorem q4 (x : tyL [(.sl G35), (.sl (.int .i64))]) : execF E4 C4 Try.f4 (datL [(.sl G35), (.sl (.int .i64))] x) [] (retK false .bool) = m4 x.1 x.2.1 := by kernel_rfl
theorem p4 : PmOk Try.prog e4 := pm_ok (E := E4) ok4 ord lm4 Try.func4 ca4 q4

/-! 5: consol/consollaw30.BookMoves -/
theorem ca5 : callable Try.prog 5 := ⟨Try.f5, Try.func5, by kernel_rfl, by kernel_rfl⟩
noncomputable def E5 : Env := mkEnv2 Try.prog [e8, e9, e19, e21, e23, e24] [c10]
theorem ok5 : EnvOk E5 := mkEnv2_ok (by simp only [List.mem_cons, List.not_mem_nil, or_false, forall_eq_or_imp, forall_eq]; exact ⟨p8, p9, p19, p21, p23, p24⟩) (by simp only [List.mem_cons, List.not_mem_nil, or_false, forall_eq]; exact d10)
/-- a round of a loop of consol/consollaw30.BookMoves -/
noncomputable def s5_1 {R : Type} (t0 : (List T35)) (t1 : (List Int)) (t2 : Int) (t3 : Int) (t4 : Int) (o0 : (List Int)) (kn : Int → Option R) (k1 : Option R) (k2 : Option R) (t14 : Int) : Option R :=
  bif (decide (t14 < (List.length t0 : Int))) then
    (m21 t0 t1 t14).bind fun r9 =>
    cont (fun (k11 : Int → _) =>
      (m24 t0 t2 t14).bind fun r10 =>
      bif r10 then
        k11 (IntKind.i64.wrap (r9 - t4))
      else
        k11 r9) fun y11 =>
    cont (fun (k13 : Int → _) =>
      (m24 t0 t3 t14).bind fun r12 =>
      bif r12 then
        k13 (IntKind.i64.wrap (y11 + t4))
      else
        k13 y11) fun y13 =>
    (m21 t0 o0 t14).bind fun r14 =>
    bif (r14 != y13) then
      k2
    else
      kn (IntKind.i64.wrap (t14 + 1))
  else
    k1
noncomputable def l5_1 {R : Type} (t0 : (List T35)) (t1 : (List Int)) (t2 : Int) (t3 : Int) (t4 : Int) (o0 : (List Int)) (k1 : Option R) (k2 : Option R) : Nat → Int → Option R
  | 0, _ => none
  | n + 1, t14 => s5_1 t0 t1 t2 t3 t4 o0 (l5_1 t0 t1 t2 t3 t4 o0 k1 k2 n) k1 k2 t14
noncomputable def L5_1 : LE := ⟨13, 0, ⟨[(0, (.dat (.sl G35))), (1, (.dat (.sl (.int .i64)))), (2, (.dat (.int .i64))), (3, (.dat (.int .i64))), (4, (.dat (.int .i64))), (11, (.dat .bool)), (12, (.own 0)), (14, (.dat (.int .i64)))], [(.arr (.int .i64))]⟩, fun R n x k => l5_1 x.1.1 x.1.2.1 x.1.2.2.1 x.1.2.2.2.1 x.1.2.2.2.2.1 x.2.1 (k (.exit 0) ⟨[(11, (.dat .bool x.1.2.2.2.2.2.1))], []⟩) (k .ret ⟨[(10, (.dat .bool false))], []⟩) n x.1.2.2.2.2.2.2.2.1⟩
noncomputable def C5 : Cfg := mkCfg [(13, ⟨[0, 1, 2, 3, 4, 11, 12, 14], []⟩), (14, ⟨[0, 1, 2, 3, 4, 11, 12, 14], []⟩), (18, ⟨[0, 1, 2, 3, 4, 11, 12, 14, 15], []⟩), (20, ⟨[0, 1, 2, 3, 4, 11, 12, 14, 15], []⟩)] [(13, (⟨[11], []⟩, ⟨[10], []⟩))] (([(0, L5_1)] : List (Nat × LE)).map (·.2))
theorem ek5_1 : EOk E5 C5 Try.f5.ntmps (bodyL Try.f5 0) L5_1 := eok_of (e := L5_1) (fun R x Kn k => s5_1 x.1.1 x.1.2.1 x.1.2.2.1 x.1.2.2.2.1 x.1.2.2.2.2.1 x.2.1 (fun v0 => Kn ((x.1.1, x.1.2.1, x.1.2.2.1, x.1.2.2.2.1, x.1.2.2.2.2.1, x.1.2.2.2.2.2.1, (), v0, ()), (x.2.1, ()))) (k (.exit 0) ⟨[(11, (.dat .bool x.1.2.2.2.2.2.1))], []⟩) (k .ret ⟨[(10, (.dat .bool false))], []⟩) x.1.2.2.2.2.2.2.2.1) (fun _ _ _ => rfl) (fun _ _ _ _ => rfl) (fun R x Kn k => by kernel_rfl)
theorem lm5 : ∀ c, Try.f5.body = some c → LmOk E5 C5 Try.f5.ntmps c := lmOk_of (ps := [(0, L5_1)]) (by kernel_rfl) (by kernel_rfl) ⟨ek5_1, trivial⟩
noncomputable def m5 (a0 : (List T35)) (a1 : (List Int)) (a2 : Int) (a3 : Int) (a4 : Int) : Option (Bool) :=
  (m8).bind fun r1 =>
  (m9 a0 a1).bind fun r2 =>
  (bif ((!r2) == false) then (m23 a0 a1) else some false).bind fun r3 =>
  bif (((!r2) || (!r3)) || (decide (a4 < 1))) then
    some r1
  else
    (m10 a0 a1 a2 a3 a4).bind fun r4 =>
    (m19 a0 a2).bind fun r5 =>
    (bif ((!r5) == false) then (m19 a0 a3) else some false).bind fun r6 =>
    bif ((!r5) || (!r6)) then
      some ((r1 && (r4.2.1 == 4)) && ((List.length r4.1 : Int) == 0))
    else
      (idx a1 a2).bind fun x7 =>
      bif (decide (x7 < a4)) then
        some ((r1 && (r4.2.1 == 22)) && ((List.length r4.1 : Int) == 0))
      else
        (bif ((r4.2.1 != 0) == false) then (m23 a0 r4.1) else some false).bind fun r8 =>
        bif ((r4.2.1 != 0) || (!r8)) then
          some false
        else
          l5_1 a0 a1 a2 a3 a4 r4.1 (
              some r1) (
              some false) FUEL 0
noncomputable def e5 : PmE := entry 5 [(.sl G35), (.sl (.int .i64)), (.int .i64), (.int .i64), (.int .i64)] false .bool (fun x => m5 x.1 x.2.1 x.2.2.1 x.2.2.2.1 x.2.2.2.2.1)
theorem q5 (x : tyL [(.sl G35), (.sl (.int .i64)), (.int .i64), (.int .i64), (.int .i64)]) : execF E5 C5 Try.f5 (datL [(.sl G35), (.sl (.int .i64)), (.int .i64), (.int .i64), (.int .i64)] x) [] (retK false .bool) = m5 x.1 x.2.1 x.2.2.1 x.2.2.2.1 x.2.2.2.2.1 := by kernel_rfl
theorem p5 : PmOk Try.prog e5 := pm_ok (E := E5) ok5 ord lm5 Try.func5 ca5 q5

/-! 6: consol/consollaw30.BookBack -/
theorem ca6 : callable Try.prog 6 := ⟨Try.f6, Try.func6, by kernel_rfl, by kernel_rfl⟩
noncomputable def E6 : Env := mkEnv2 Try.prog [e8, e9, e12, e23] [c10]
theorem ok6 : EnvOk E6 := mkEnv2_ok (by simp only [List.mem_cons, List.not_mem_nil, or_false, forall_eq_or_imp, forall_eq]; exact ⟨p8, p9, p12, p23⟩) (by simp only [List.mem_cons, List.not_mem_nil, or_false, forall_eq]; exact d10)
noncomputable def C6 : Cfg := mkCfg [(12, ⟨[0, 2, 3, 4, 5, 6, 15, 16, 17, 18, 19, 20, 21], []⟩), (16, ⟨[0, 2, 3, 4, 5, 6, 15, 16, 17, 20, 21], []⟩), (21, ⟨[15], []⟩)] [] (([] : List (Nat × LE)).map (·.2))
theorem lm6 : ∀ c, Try.f6.body = some c → LmOk E6 C6 Try.f6.ntmps c := lmOk_of (ps := []) (by kernel_rfl) (by kernel_rfl) trivial
noncomputable def m6 (a0 : (List T35)) (a1 : (List Int)) (a2 : Int) (a3 : Int) (a4 : Int) (a5 : Int) (a6 : Int) : Option (Bool) :=
  (m8).bind fun r1 =>
  (m9 a0 a1).bind fun r2 =>
  (bif ((!r2) == false) then (m23 a0 a1) else some false).bind fun r3 =>
  bif ((((((!r2) || (!r3)) || (decide (a5 < 1))) || (decide (a6 < 1))) || (decide (a5 > 1000000000))) || (decide (a6 > 1000000000))) then
    some r1
  else
    (m10 a0 a1 a2 a3 a5).bind fun r4 =>
    (m10 a0 a1 a2 a3 (IntKind.i64.wrap (a5 + a6))).bind fun r5 =>
    (m10 a0 a1 a2 a4 a6).bind fun r6 =>
    cont (fun (k9 : Unit → _) =>
      bif (r4.2.1 == 0) then
        (m10 a0 r4.1 a3 a2 a5).bind fun r7 =>
        (bif ((r7.2.1 != 0) == false) then (m12 r7.1 a1) else some false).bind fun r8 =>
        bif ((r7.2.1 != 0) || (!r8)) then
          some false
        else
          k9 ()
      else
        k9 ()) fun _ =>
    cont (fun (k12 : Unit → _) =>
      bif ((r5.2.1 == 0) && (a2 != a3)) then
        (m10 a0 r4.1 a2 a3 a6).bind fun r10 =>
        (bif (((r4.2.1 != 0) || (r10.2.1 != 0)) == false) then (m12 r10.1 r5.1) else some false).bind fun r11 =>
        bif (((r4.2.1 != 0) || (r10.2.1 != 0)) || (!r11)) then
          some false
        else
          k12 ()
      else
        k12 ()) fun _ =>
    cont (fun (k16 : Unit → _) =>
      bif ((r4.2.1 == 0) && (r6.2.1 == 0)) then
        (m10 a0 r4.1 a2 a4 a6).bind fun r13 =>
        (m10 a0 r6.1 a2 a3 a5).bind fun r14 =>
        (bif (((((r13.2.1 != r14.2.1) && (a2 != a3)) && (a2 != a4)) == false) && (((r13.2.1 == 0) && (r14.2.1 == 0)) == true)) then (m12 r13.1 r14.1) else some false).bind fun r15 =>
        bif ((((r13.2.1 != r14.2.1) && (a2 != a3)) && (a2 != a4)) || (((r13.2.1 == 0) && (r14.2.1 == 0)) && (!r15))) then
          some false
        else
          k16 ()
      else
        k16 ()) fun _ =>
    some r1
noncomputable def e6 : PmE := entry 6 [(.sl G35), (.sl (.int .i64)), (.int .i64), (.int .i64), (.int .i64), (.int .i64), (.int .i64)] false .bool (fun x => m6 x.1 x.2.1 x.2.2.1 x.2.2.2.1 x.2.2.2.2.1 x.2.2.2.2.2.1 x.2.2.2.2.2.2.1)
theorem q6 (x : tyL [(.sl G35), (.sl (.int .i64)), (.int .i64), (.int .i64), (.int .i64), (.int .i64), (.int .i64)]) : execF E6 C6 Try.f6 (datL [(.sl G35), (.sl (.int .i64)), (.int .i64), (.int .i64), (.int .i64), (.int .i64), (.int .i64)] x) [] (retK false .bool) = m6 x.1 x.2.1 x.2.2.1 x.2.2.2.1 x.2.2.2.2.1 x.2.2.2.2.2.1 x.2.2.2.2.2.2.1 := by kernel_rfl
theorem p6 : PmOk Try.prog e6 := pm_ok (E := E6) ok6 ord lm6 Try.func6 ca6 q6

/-! 7: consol/consollaw30.BookLevels -/
theorem ca7 : callable Try.prog 7 := ⟨Try.f7, Try.func7, by kernel_rfl, by kernel_rfl⟩
noncomputable def E7 : Env := mkEnv2 Try.prog [e8, e13, e15, e17, e19] []
theorem ok7 : EnvOk E7 := mkEnv2_ok (by simp only [List.mem_cons, List.not_mem_nil, or_false, forall_eq_or_imp, forall_eq]; exact ⟨p8, p13, p15, p17, p19⟩) (by simp)
/-- a round of a loop of consol/consollaw30.BookLevels -/
noncomputable def s7_1 {R : Type} (t0 : (List T35)) (kn : Bool → Int → (List Int) → (List Int) → Option R) (k1 : Bool → (List Int) → (List Int) → Option R) (t4 : Bool) (t7 : Int) (o0 : (List Int)) (o1 : (List Int)) : Option R :=
  bif (decide (t7 < (List.length t0 : Int))) then
    (idx t0 t7).bind fun x2 =>
    (idxG (((decide (x2.1 < (-1))) || (decide (x2.1 ≥ t7))) == false) (0, 0, ()) t0 t7).bind fun x3 =>
    (idxG ((((decide (x2.1 < (-1))) || (decide (x2.1 ≥ t7))) || (decide (x3.2.1 < (-1)))) == false) (0, 0, ()) t0 t7).bind fun x4 =>
    bif ((((decide (x2.1 < (-1))) || (decide (x2.1 ≥ t7))) || (decide (x3.2.1 < (-1)))) || (decide (x4.2.1 ≥ 60))) then
      k1 false o0 o1
    else
      asrt true (decide (0 ≤ t7) && decide (t7 < (List.length o1 : Int))) (
        ((o1)[(t7 : Int).toNat]?).bind fun x5 =>
        cont (fun (k10 : ((List Int) × (List Int)) → _) =>
          bif (decide (x2.1 ≥ 0)) then
            asrt true (decide (0 ≤ x2.1) && decide (x2.1 < (List.length o0 : Int))) (
              ((o0)[(x2.1 : Int).toNat]?).bind fun x6 =>
              asrt true (decide (0 ≤ t7) && decide (t7 < (List.length o0 : Int))) (
                ((o0)[(t7 : Int).toNat]?).bind fun x7 =>
                asrt true (decide (0 ≤ x2.1) && decide (x2.1 < (List.length (List.set o1 (t7 : Int).toNat t7) : Int))) (
                  (((List.set o1 (t7 : Int).toNat t7))[(x2.1 : Int).toNat]?).bind fun x8 =>
                  asrt true (decide (0 ≤ t7) && decide (t7 < (List.length (List.set o1 (t7 : Int).toNat t7) : Int))) (
                    (((List.set o1 (t7 : Int).toNat t7))[(t7 : Int).toNat]?).bind fun x9 =>
                    k10 ((List.set o0 (t7 : Int).toNat (IntKind.i64.wrap (x6 + 1))), (List.set (List.set o1 (t7 : Int).toNat t7) (t7 : Int).toNat x8))))))
          else
            k10 (o0, (List.set o1 (t7 : Int).toNat t7))) fun y10 =>
        asrt (t4 == true) (decide (0 ≤ t7) && decide (t7 < (List.length y10.1 : Int))) (
          ((bif (t4 == true) then (y10.1)[(t7 : Int).toNat]? else some 0)).bind fun x11 =>
          kn (t4 && (decide (x11 ≤ 4))) (IntKind.i64.wrap (t7 + 1)) y10.1 y10.2))
  else
    k1 t4 o0 o1
noncomputable def l7_1 {R : Type} (t0 : (List T35)) (k1 : Bool → (List Int) → (List Int) → Option R) : Nat → Bool → Int → (List Int) → (List Int) → Option R
  | 0, _, _, _, _ => none
  | n + 1, t4, t7, o0, o1 => s7_1 t0 (l7_1 t0 k1 n) k1 t4 t7 o0 o1
noncomputable def L7_1 : LE := ⟨9, 0, ⟨[(0, (.dat (.sl G35))), (3, (.dat .bool)), (4, (.dat .bool)), (5, (.own 0)), (6, (.own 1)), (7, (.dat (.int .i64)))], [(.arr (.int .i64)), (.arr (.int .i64))]⟩, fun R n x k => l7_1 x.1.1 (fun y0 y1 y2 => k (.exit 0) ⟨[(0, (.dat (.sl G35) x.1.1)), (3, (.dat .bool x.1.2.1)), (4, (.dat .bool y0)), (5, (.own 0)), (6, (.own 1))], [(.arr (.int .i64) y1), (.arr (.int .i64) y2)]⟩) n x.1.2.2.1 x.1.2.2.2.2.2.1 x.2.1 x.2.2.1⟩
/-- a round of a loop of consol/consollaw30.BookLevels -/
noncomputable def s7_2 {R : Type} (t0 : (List T35)) (t4 : Bool) (o0 : (List Int)) (o1 : (List Int)) (kn : Int → Option R) (k1 : Option R) (k2 : Option R) (t9 : Int) : Option R :=
  bif (decide (t9 < (List.length t0 : Int))) then
    (bif (t4 == true) then (m15 t0 t9) else some 0).bind fun r16 =>
    asrt (t4 == true) (decide (0 ≤ t9) && decide (t9 < (List.length o0 : Int))) (
      ((bif (t4 == true) then (o0)[(t9 : Int).toNat]? else some 0)).bind fun x17 =>
      (bif ((t4 == true) && ((r16 != x17) == false)) then (m17 t0 t9) else some 0).bind fun r18 =>
      asrt ((t4 == true) && ((r16 != x17) == false)) (decide (0 ≤ t9) && decide (t9 < (List.length o1 : Int))) (
        ((bif ((t4 == true) && ((r16 != x17) == false)) then (o1)[(t9 : Int).toNat]? else some 0)).bind fun x19 =>
        (bif (((t4 && ((r16 != x17) || (r18 != x19))) == false) && ((!t4) == true)) then (m15 t0 t9) else some 0).bind fun r20 =>
        (bif ((((t4 && ((r16 != x17) || (r18 != x19))) == false) && ((!t4) == true)) && ((r20 != (-1)) == false)) then (m17 t0 t9) else some 0).bind fun r21 =>
        (bif ((((t4 && ((r16 != x17) || (r18 != x19))) == false) && ((!t4) == true)) && (((r20 != (-1)) || (r21 != (-1))) == false)) then (m19 t0 t9) else some false).bind fun r22 =>
        bif ((t4 && ((r16 != x17) || (r18 != x19))) || ((!t4) && (((r20 != (-1)) || (r21 != (-1))) || r22))) then
          k2
        else
          kn (IntKind.i64.wrap (t9 + 1))))
  else
    k1
noncomputable def l7_2 {R : Type} (t0 : (List T35)) (t4 : Bool) (o0 : (List Int)) (o1 : (List Int)) (k1 : Option R) (k2 : Option R) : Nat → Int → Option R
  | 0, _ => none
  | n + 1, t9 => s7_2 t0 t4 o0 o1 (l7_2 t0 t4 o0 o1 k1 k2 n) k1 k2 t9
noncomputable def L7_2 : LE := ⟨22, 0, ⟨[(0, (.dat (.sl G35))), (3, (.dat .bool)), (4, (.dat .bool)), (5, (.own 0)), (6, (.own 1)), (9, (.dat (.int .i64)))], [(.arr (.int .i64)), (.arr (.int .i64))]⟩, fun R n x k => l7_2 x.1.1 x.1.2.2.1 x.2.1 x.2.2.1 (k (.exit 2) ⟨[(0, (.dat (.sl G35) x.1.1)), (3, (.dat .bool x.1.2.1))], []⟩) (k .ret ⟨[(2, (.dat .bool false))], []⟩) n x.1.2.2.2.2.2.1⟩
noncomputable def C7 : Cfg := mkCfg [(9, ⟨[0, 3, 4, 5, 6, 7], []⟩), (10, ⟨[0, 3, 4, 5, 6, 7], []⟩), (18, ⟨[0, 3, 4, 5, 6, 7], []⟩), (22, ⟨[0, 3, 4, 5, 6, 9], []⟩)] [(9, (⟨[0, 3, 4, 5, 6], []⟩, ⟨[2], []⟩)), (22, (⟨[0, 3], []⟩, ⟨[2], []⟩))] (([(0, L7_1), (1, L7_2)] : List (Nat × LE)).map (·.2))
theorem ek7_1 : EOk E7 C7 Try.f7.ntmps (bodyL Try.f7 0) L7_1 := eok_of (e := L7_1) (fun R x Kn k => s7_1 x.1.1 (fun v0 v1 v2 v3 => Kn ((x.1.1, x.1.2.1, v0, (), (), v1, ()), (v2, v3, ()))) (fun y0 y1 y2 => k (.exit 0) ⟨[(0, (.dat (.sl G35) x.1.1)), (3, (.dat .bool x.1.2.1)), (4, (.dat .bool y0)), (5, (.own 0)), (6, (.own 1))], [(.arr (.int .i64) y1), (.arr (.int .i64) y2)]⟩) x.1.2.2.1 x.1.2.2.2.2.2.1 x.2.1 x.2.2.1) (fun _ _ _ => rfl) (fun _ _ _ _ => rfl) (fun R x Kn k => by kernel_rfl)
theorem ek7_2 : EOk E7 C7 Try.f7.ntmps (bodyL Try.f7 1) L7_2 := eok_of (e := L7_2) (fun R x Kn k => s7_2 x.1.1 x.1.2.2.1 x.2.1 x.2.2.1 (fun v0 => Kn ((x.1.1, x.1.2.1, x.1.2.2.1, (), (), v0, ()), (x.2.1, x.2.2.1, ()))) (k (.exit 2) ⟨[(0, (.dat (.sl G35) x.1.1)), (3, (.dat .bool x.1.2.1))], []⟩) (k .ret ⟨[(2, (.dat .bool false))], []⟩) x.1.2.2.2.2.2.1) (fun _ _ _ => rfl) (fun _ _ _ _ => rfl) (fun R x Kn k => by kernel_rfl)
theorem lm7 : ∀ c, Try.f7.body = some c → LmOk E7 C7 Try.f7.ntmps c := lmOk_of (ps := [(0, L7_1), (1, L7_2)]) (by kernel_rfl) (by kernel_rfl) ⟨ek7_1, ek7_2, trivial⟩
noncomputable def m7 (a0 : (List T35)) : Option (Bool) :=
  (m8).bind fun r1 =>
  bif (decide ((List.length a0 : Int) > 30)) then
    some r1
  else
    asrt true (decide (0 ≤ (List.length a0 : Int)) && decide ((List.length a0 : Int) ≤ (List.length a0 : Int)) && decide ((List.length a0 : Int) ≤ (LIM : Int))) (
      asrt true (decide (0 ≤ (List.length a0 : Int)) && decide ((List.length a0 : Int) ≤ (List.length a0 : Int)) && decide ((List.length a0 : Int) ≤ (LIM : Int))) (
        l7_1 a0 (fun y12 y13 y14 =>
            (m13 a0).bind fun r15 =>
            bif (!(y12 == r15)) then
              some false
            else
              l7_2 a0 y12 y13 y14 (
                  (bif (r1 == true) then (m15 a0 (-1)) else some 0).bind fun r23 =>
                  (bif ((r1 && (r23 == (-1))) == true) then (m17 a0 (List.length a0 : Int)) else some 0).bind fun r24 =>
                  some ((r1 && (r23 == (-1))) && (r24 == (-1)))) (
                  some false) FUEL 0) FUEL true 0 (List.replicate ((List.length a0 : Int) : Int).toNat 0) (List.replicate ((List.length a0 : Int) : Int).toNat 0)))
noncomputable def e7 : PmE := entry 7 [(.sl G35)] false .bool (fun x => m7 x.1)
theorem q7 (x : tyL [(.sl G35)]) : execF E7 C7 Try.f7 (datL [(.sl G35)] x) [] (retK false .bool) = m7 x.1 := by kernel_rfl
theorem p7 : PmOk Try.prog e7 := pm_ok (E := E7) ok7 ord lm7 Try.func7 ca7 q7

end Go.Proofs.Ytndflpanccagbaa
