/- Models of the functions that the statements reach. -/
import Derived.Test.YtbleidfkmdbhgaaE36
import Derived.Test.YtbleidfkmdbhgaaChecked
import Derived.KernelRfl
namespace Go.Proofs.Ytbleidfkmdbhgaa
open Go Go.Eng
set_option linter.unusedVariables false
set_option linter.unusedSimpArgs false

/-- x, y, signed, code -/
abbrev G7 : GT := .cons (.int .i64) (.cons (.int .i64) (.cons .bool (.cons (.int .u8) (.nil))))
abbrev T7 : Type := Int × Int × Bool × Int × Unit
/-- msg, addr -/
abbrev G13 : GT := .cons .str (.cons (.int .u64) (.nil))
abbrev T13 : Type := (List UInt8) × Int × Unit
/-- Kind, Piece, Coupon, Who, Day -/
abbrev G26 : GT := .cons (.int .i64) (.cons (.int .i64) (.cons (.int .i64) (.cons (.int .i64) (.cons (.int .i64) (.nil)))))
abbrev T26 : Type := Int × Int × Int × Int × Int × Unit
/-- Issue, Units, Paid, Lost, Secured -/
abbrev G35 : GT := .cons (.int .i64) (.cons (.int .i64) (.cons (.sl .bool) (.cons (.int .i64) (.cons (.int .i64) (.nil)))))
abbrev T35 : Type := Int × Int × (List Bool) × Int × Int × Unit

theorem ord : Try.prog.follows .mixedOrders = true := by kernel_rfl

/-! 21: consol/consollaw31.sample -/
theorem ca21 : callable Try.prog 21 := ⟨Try.f21, Try.func21, by kernel_rfl, by kernel_rfl⟩
noncomputable def E21 : Env := mkEnv2 Try.prog [] []
theorem ok21 : EnvOk E21 := mkEnv2_ok (by simp) (by simp)
noncomputable def C21 : Cfg := noCfg
theorem lm21 : ∀ c, Try.f21.body = some c → LmOk E21 C21 Try.f21.ntmps c := fun _ _ => noCfg_lm
noncomputable def m21  : Option ((List T35)) :=
  asrt true (decide (0 ≤ 2) && decide (2 ≤ 2) && decide (2 ≤ (LIM : Int))) (
    asrt true (decide (0 ≤ 2) && decide (2 ≤ 2) && decide (2 ≤ (LIM : Int))) (
      some [(4, 10, (List.replicate (2 : Int).toNat false), (-1), (-1), ()), (4, 20, (List.replicate (2 : Int).toNat false), (-1), (-1), ())]))
noncomputable def e21 : PmE := entry 21 [] false (.sl G35) (fun x => m21 )
theorem q21 (x : tyL []) : execF E21 C21 Try.f21 (datL [] x) [] (retK false (.sl G35)) = m21  := by kernel_rfl
theorem p21 : PmOk Try.prog e21 := pm_ok (E := E21) ok21 ord lm21 Try.func21 ca21 q21

/-! 24: consol/bearer.within -/
theorem ca24 : callable Try.prog 24 := ⟨Try.f24, Try.func24, by kernel_rfl, by kernel_rfl⟩
noncomputable def E24 : Env := mkEnv2 Try.prog [] []
theorem ok24 : EnvOk E24 := mkEnv2_ok (by simp) (by simp)
noncomputable def C24 : Cfg := noCfg
theorem lm24 : ∀ c, Try.f24.body = some c → LmOk E24 C24 Try.f24.ntmps c := fun _ _ => noCfg_lm
noncomputable def m24 (a0 : Int) (a1 : Int) (a2 : Int) : Option (Bool) :=
  some ((decide (a0 ≥ a1)) && (decide (a0 ≤ a2)))
noncomputable def e24 : PmE := entry 24 [(.int .i64), (.int .i64), (.int .i64)] false .bool (fun x => m24 x.1 x.2.1 x.2.2.1)
theorem q24 (x : tyL [(.int .i64), (.int .i64), (.int .i64)]) : execF E24 C24 Try.f24 (datL [(.int .i64), (.int .i64), (.int .i64)] x) [] (retK false .bool) = m24 x.1 x.2.1 x.2.2.1 := by kernel_rfl
theorem p24 : PmOk Try.prog e24 := pm_ok (E := E24) ok24 ord lm24 Try.func24 ca24 q24

/-! 29: consol/bearer.isSeat -/
theorem ca29 : callable Try.prog 29 := ⟨Try.f29, Try.func29, by kernel_rfl, by kernel_rfl⟩
noncomputable def E29 : Env := mkEnv2 Try.prog [e24] []
theorem ok29 : EnvOk E29 := mkEnv2_ok (by simp only [List.mem_cons, List.not_mem_nil, or_false, forall_eq]; exact p24) (by simp)
noncomputable def C29 : Cfg := noCfg
theorem lm29 : ∀ c, Try.f29.body = some c → LmOk E29 C29 Try.f29.ntmps c := fun _ _ => noCfg_lm
noncomputable def m29 (a0 : Int) : Option (Bool) :=
  (m24 a0 0 19999).bind fun r1 =>
  some r1
noncomputable def e29 : PmE := entry 29 [(.int .i64)] false .bool (fun x => m29 x.1)
theorem q29 (x : tyL [(.int .i64)]) : execF E29 C29 Try.f29 (datL [(.int .i64)] x) [] (retK false .bool) = m29 x.1 := by kernel_rfl
theorem p29 : PmOk Try.prog e29 := pm_ok (E := E29) ok29 ord lm29 Try.func29 ca29 q29

/-! 27: consol/bearer.isDay -/
theorem ca27 : callable Try.prog 27 := ⟨Try.f27, Try.func27, by kernel_rfl, by kernel_rfl⟩
noncomputable def E27 : Env := mkEnv2 Try.prog [e24] []
theorem ok27 : EnvOk E27 := mkEnv2_ok (by simp only [List.mem_cons, List.not_mem_nil, or_false, forall_eq]; exact p24) (by simp)
noncomputable def C27 : Cfg := noCfg
theorem lm27 : ∀ c, Try.f27.body = some c → LmOk E27 C27 Try.f27.ntmps c := fun _ _ => noCfg_lm
noncomputable def m27 (a0 : Int) : Option (Bool) :=
  (m24 a0 0 200000).bind fun r1 =>
  some r1
noncomputable def e27 : PmE := entry 27 [(.int .i64)] false .bool (fun x => m27 x.1)
theorem q27 (x : tyL [(.int .i64)]) : execF E27 C27 Try.f27 (datL [(.int .i64)] x) [] (retK false .bool) = m27 x.1 := by kernel_rfl
theorem p27 : PmOk Try.prog e27 := pm_ok (E := E27) ok27 ord lm27 Try.func27 ca27 q27

/-! 23: consol/bearer.Right$1 -/
theorem ca23 : callable Try.prog 23 := ⟨Try.f23, Try.func23, by kernel_rfl, by kernel_rfl⟩
noncomputable def E23 : Env := mkEnv2 Try.prog [e24] []
theorem ok23 : EnvOk E23 := mkEnv2_ok (by simp only [List.mem_cons, List.not_mem_nil, or_false, forall_eq]; exact p24) (by simp)
noncomputable def C23 : Cfg := noCfg
theorem lm23 : ∀ c, Try.f23.body = some c → LmOk E23 C23 Try.f23.ntmps c := fun _ _ => noCfg_lm
noncomputable def m23 (a0 : T35) : Option (Bool) :=
  (m24 a0.1 0 399).bind fun r1 =>
  (bif (r1 == true) then (m24 a0.2.1 1 1000000000) else some false).bind fun r2 =>
  (m24 a0.2.2.2.1 (-1) 200000).bind fun r3 =>
  (bif (r3 == true) then (m24 a0.2.2.2.2.1 (-1) 19999) else some false).bind fun r4 =>
  some ((!((r1 && r2) && (decide ((List.length a0.2.2.1 : Int) ≤ 400)))) || (!((r3 && r4) && ((a0.2.2.2.1 != (-1)) || (a0.2.2.2.2.1 == (-1))))))
noncomputable def e23 : PmE := entry 23 [G35] false .bool (fun x => m23 x.1)
theorem q23 (x : tyL [G35]) : execF E23 C23 Try.f23 (datL [G35] x) [] (retK false .bool) = m23 x.1 := by kernel_rfl
theorem p23 : PmOk Try.prog e23 := pm_ok (E := E23) ok23 ord lm23 Try.func23 ca23 q23

/-! 14: consol/bearer.Right -/
theorem ca32 : callable Try.prog 32 := ⟨Try.f32, Try.func32, by kernel_rfl, by kernel_rfl⟩
noncomputable def E14i32 : Env := mkEnv2 Try.prog [e23] []
theorem ok14i32 : EnvOk E14i32 := mkEnv2_ok (by simp only [List.mem_cons, List.not_mem_nil, or_false, forall_eq]; exact p23) (by simp)
/-- a round of a loop of slices.IndexFunc[[]consol/api.Piece,consol/api.Piece] -/
noncomputable def s14_1 {R : Type} (t0 : (List T35)) (t7 : Int) (kn : Int → Option R) (k1 : Option R) (k2 : Int → Option R) (t8 : Int) : Option R :=
  bif (decide (t8 < t7)) then
    (idx t0 t8).bind fun x1 =>
    (m23 x1).bind fun r2 =>
    bif r2 then
      k2 t8
    else
      kn (IntKind.i64.wrap (t8 + 1))
  else
    k1
noncomputable def l14_1 {R : Type} (t0 : (List T35)) (t7 : Int) (k1 : Option R) (k2 : Int → Option R) : Nat → Int → Option R
  | 0, _ => none
  | n + 1, t8 => s14_1 t0 t7 (l14_1 t0 t7 k1 k2 n) k1 k2 t8
noncomputable def L14_1 : LE := ⟨3, 0, ⟨[(0, (.dat (.sl G35))), (1, (.fn 23 .snil)), (7, (.dat (.int .i64))), (8, (.dat (.int .i64)))], []⟩, fun R n x k => l14_1 x.1.1 x.1.2.2.1 (k (.exit 0) ⟨[], []⟩) (fun y0 => k .ret ⟨[(4, (.dat (.int .i64) y0))], []⟩) n x.1.2.2.2.1⟩
noncomputable def C14i32 : Cfg := mkCfg [(3, ⟨[0, 1, 7, 8], [], []⟩)] [(3, (⟨[], [], []⟩, ⟨[4], [], []⟩))] (([(0, L14_1)] : List (Nat × LE)).map (·.2))
theorem ek14_1 : EOk E14i32 C14i32 Try.f32.ntmps (bodyL Try.f32 0) L14_1 := eok_of (e := L14_1) (fun R x Kn k => s14_1 x.1.1 x.1.2.2.1 (fun v0 => Kn ((x.1.1, (), x.1.2.2.1, v0, ()), (()))) (k (.exit 0) ⟨[], []⟩) (fun y0 => k .ret ⟨[(4, (.dat (.int .i64) y0))], []⟩) x.1.2.2.2.1) (fun _ _ _ => rfl) (fun _ _ _ _ => rfl) (fun R x Kn k => by kernel_rfl)
theorem lm14i32 : ∀ c, Try.f32.body = some c → LmOk E14i32 C14i32 Try.f32.ntmps c := lmOk_of (ps := [(0, L14_1)]) (by kernel_rfl) (by kernel_rfl) ⟨ek14_1, trivial⟩
noncomputable def c14i32 : CmE := inl E14i32 C14i32 32 Try.f32
theorem d14i32 : CmOk Try.prog c14i32 := inl_ok (E := E14i32) ok14i32 ord lm14i32 Try.func32 ca32

theorem ca25 : callable Try.prog 25 := ⟨Try.f25, Try.func25, by kernel_rfl, by kernel_rfl⟩
noncomputable def E14i25 : Env := mkEnv2 Try.prog [] [c14i32]
theorem ok14i25 : EnvOk E14i25 := mkEnv2_ok (by simp) (by simp only [List.mem_cons, List.not_mem_nil, or_false, forall_eq]; exact d14i32)
noncomputable def C14i25 : Cfg := noCfg
theorem lm14i25 : ∀ c, Try.f25.body = some c → LmOk E14i25 C14i25 Try.f25.ntmps c := fun _ _ => noCfg_lm
noncomputable def c14i25 : CmE := inl E14i25 C14i25 25 Try.f25
theorem d14i25 : CmOk Try.prog c14i25 := inl_ok (E := E14i25) ok14i25 ord lm14i25 Try.func25 ca25

theorem ca14 : callable Try.prog 14 := ⟨Try.f14, Try.func14, by kernel_rfl, by kernel_rfl⟩
noncomputable def E14 : Env := mkEnv2 Try.prog [] [c14i25]
theorem ok14 : EnvOk E14 := mkEnv2_ok (by simp) (by simp only [List.mem_cons, List.not_mem_nil, or_false, forall_eq]; exact d14i25)
noncomputable def C14 : Cfg := noCfg
theorem lm14 : ∀ c, Try.f14.body = some c → LmOk E14 C14 Try.f14.ntmps c := fun _ _ => noCfg_lm
noncomputable def m14 (a0 : (List T35)) : Option (Bool) :=
  bif ((decide ((List.length a0 : Int) ≤ 1000)) == true) then
    l14_1 a0 (List.length a0 : Int) (
        some (bif (decide ((List.length a0 : Int) ≤ 1000)) then true else false)) (fun y3 =>
        some ((decide ((List.length a0 : Int) ≤ 1000)) && (!(decide (y3 ≥ 0))))) FUEL 0
  else
    some (bif (decide ((List.length a0 : Int) ≤ 1000)) then true else false)
noncomputable def e14 : PmE := entry 14 [(.sl G35)] false .bool (fun x => m14 x.1)
theorem q14 (x : tyL [(.sl G35)]) : execF E14 C14 Try.f14 (datL [(.sl G35)] x) [] (retK false .bool) = m14 x.1 := by kernel_rfl
theorem p14 : PmOk Try.prog e14 := pm_ok (E := E14) ok14 ord lm14 Try.func14 ca14 q14

/-! 26: consol/bearer.at -/
theorem ca26 : callable Try.prog 26 := ⟨Try.f26, Try.func26, by kernel_rfl, by kernel_rfl⟩
noncomputable def E26 : Env := mkEnv2 Try.prog [e14] []
theorem ok26 : EnvOk E26 := mkEnv2_ok (by simp only [List.mem_cons, List.not_mem_nil, or_false, forall_eq]; exact p14) (by simp)
noncomputable def C26 : Cfg := noCfg
theorem lm26 : ∀ c, Try.f26.body = some c → LmOk E26 C26 Try.f26.ntmps c := fun _ _ => noCfg_lm
noncomputable def m26 (a0 : (List T35)) (a1 : Int) (a2 : Bool) : Option (Int) :=
  (m14 a0).bind fun r1 =>
  bif ((!r1) || (!a2)) then
    some 1
  else
    bif ((decide (a1 < 0)) || (decide (a1 ≥ (List.length a0 : Int)))) then
      some 4
    else
      some 0
noncomputable def e26 : PmE := entry 26 [(.sl G35), (.int .i64), .bool] false (.int .i64) (fun x => m26 x.1 x.2.1 x.2.2.1)
theorem q26 (x : tyL [(.sl G35), (.int .i64), .bool]) : execF E26 C26 Try.f26 (datL [(.sl G35), (.int .i64), .bool] x) [] (retK false (.int .i64)) = m26 x.1 x.2.1 x.2.2.1 := by kernel_rfl
theorem p26 : PmOk Try.prog e26 := pm_ok (E := E26) ok26 ord lm26 Try.func26 ca26 q26

theorem ca33 : callable Try.prog 33 := ⟨Try.f33, Try.func33, by kernel_rfl, by kernel_rfl⟩
/-! 33: slices.Clone[[]consol/api.Piece,consol/api.Piece] -/
noncomputable def c33 : CmE := ownE 33 [(.sl G35)] G35 (fun x => cloneM x.1)
theorem d33 : CmOk Try.prog c33 := own_ok ca33 (clone_run (g := G35) ord Try.func33 Try.underlying22 rfl (by kernel_rfl) (fun _ => by kernel_rfl) (by kernel_rfl) (fun _ => by kernel_rfl))

/-! 28: consol/bearer.fresh -/
theorem ca28 : callable Try.prog 28 := ⟨Try.f28, Try.func28, by kernel_rfl, by kernel_rfl⟩
noncomputable def E28 : Env := mkEnv2 Try.prog [] [c33]
theorem ok28 : EnvOk E28 := mkEnv2_ok (by simp) (by simp only [List.mem_cons, List.not_mem_nil, or_false, forall_eq]; exact d33)
/-- a round of a loop of consol/bearer.fresh -/
noncomputable def s28_1 {R : Type} (t9 : Int) (kn : Int → (List T35) → Option R) (k1 : (List T35) → Option R) (t10 : Int) (o0 : (List T35)) : Option R :=
  bif (decide (t10 < t9)) then
    asrt true (decide (0 ≤ t10) && decide (t10 < (List.length o0 : Int))) (
      ((o0)[(t10 : Int).toNat]?).bind fun x2 =>
      asrt true (decide (0 = 0) && decide (0 = (0 : Int))) (
        asrt true (decide (List.length (α := Bool) x2.2.2.1 ≤ LIM)) (
          asrt true (decide (0 ≤ t10) && decide (t10 < (List.length o0 : Int))) (
            ((o0)[(t10 : Int).toNat]?).bind fun x3 =>
            kn (IntKind.i64.wrap (t10 + 1)) (List.set o0 (t10 : Int).toNat (x3.1, x3.2.1, x2.2.2.1, x3.2.2.2.1, x3.2.2.2.2.1, ()))))))
  else
    k1 o0
noncomputable def l28_1 {R : Type} (t9 : Int) (k1 : (List T35) → Option R) : Nat → Int → (List T35) → Option R
  | 0, _, _ => none
  | n + 1, t10, o0 => s28_1 t9 (l28_1 t9 k1 n) k1 t10 o0
noncomputable def L28_1 : LE := ⟨4, 0, ⟨[(3, (.own 0)), (8, (.own 0)), (9, (.dat (.int .i64))), (10, (.dat (.int .i64)))], [(.arr G35)]⟩, fun R n x k => l28_1 x.1.2.2.1 (fun y0 => k (.exit 0) ⟨[(3, (.own 0))], [(.arr G35 y0)]⟩) n x.1.2.2.2.1 x.2.1⟩
noncomputable def C28 : Cfg := mkCfg [(4, ⟨[3, 8, 9, 10], [], []⟩)] [(4, (⟨[3], [], []⟩, ⟨[2], [], []⟩))] (([(0, L28_1)] : List (Nat × LE)).map (·.2))
theorem ek28_1 : EOk E28 C28 Try.f28.ntmps (bodyL Try.f28 0) L28_1 := eok_of (e := L28_1) (fun R x Kn k => s28_1 x.1.2.2.1 (fun v0 v1 => Kn (((), (), x.1.2.2.1, v0, ()), (v1, ()))) (fun y0 => k (.exit 0) ⟨[(3, (.own 0))], [(.arr G35 y0)]⟩) x.1.2.2.2.1 x.2.1) (fun _ _ _ => rfl) (fun _ _ _ _ => rfl) (fun R x Kn k => by kernel_rfl)
theorem lm28 : ∀ c, Try.f28.body = some c → LmOk E28 C28 Try.f28.ntmps c := lmOk_of (ps := [(0, L28_1)]) (by kernel_rfl) (by kernel_rfl) ⟨ek28_1, trivial⟩
noncomputable def m28 (a0 : (List T35)) : Option ((List T35)) :=
  (cloneM a0).bind fun r1 =>
  l28_1 (List.length r1 : Int) (fun y4 =>
      some y4) FUEL 0 r1
theorem q28 (x : tyL [(.sl G35)]) : execF E28 C28 Try.f28 (datL [(.sl G35)] x) [] (retOwn G35) = m28 x.1 := by kernel_rfl
noncomputable def c28 : CmE := ownE 28 [(.sl G35)] G35 (fun x => m28 x.1)
theorem d28 : CmOk Try.prog c28 := own_ok ca28 (frun_of (E := E28) ok28 ord lm28 Try.func28 q28)

/-! 28: consol/bearer.fresh, told a number -/
noncomputable def rg28 (l : List gRow.ty) (i : Int) : List (Nat × SV) := [(3, (.own 0)), (8, (.own 0)), (9, (.dat (.int .i64) (List.length l : Int))), (10, (.dat (.int .i64) i))]
theorem th0_28 (l : List (T35)) : execC E28 C28 Try.f28.ntmps 0 (toldA Try.f28) ⟨[(0, .dat (.sl G35) l)], []⟩ (fun e s => match e with
  | .normal => execC E28 C28 Try.f28.ntmps 0 (toldB Try.f28) s (fun e s => match e with
    | .normal => execC E28 C28 Try.f28.ntmps 0 (toldD Try.f28) s (stepK (some ⟨[3, 8, 9, 10], [], []⟩) (some ⟨[3], [], []⟩))
    | _ => none)
  | _ => none) =
  (cloneM l).bind fun r1 =>
  some (.normal, ⟨[(3, (.own 0)), (8, (.own 0)), (9, (.dat (.int .i64) (List.length r1 : Int))), (10, (.dat (.int .i64) 0))], [(.arr G35 r1)]⟩) := by kernel_rfl
theorem th1_28 (l : List (T35)) (i : Int) (xs : List (T35)) : execC E28 C28 Try.f28.ntmps 0 (toldY Try.f28) ⟨[(3, (.own 0)), (8, (.own 0)), (9, (.dat (.int .i64) (List.length l : Int))), (10, (.dat (.int .i64) i))], [.arr G35 xs]⟩ (stepK (some ⟨[3, 8, 9, 10], [], []⟩) (some ⟨[3], [], []⟩)) =
  bif (decide (i < (List.length l : Int))) then
    asrt true (decide (0 ≤ i) && decide (i < (List.length xs : Int))) (
      ((xs)[(i : Int).toNat]?).bind fun x1 =>
      asrt true (decide (0 = 0) && decide (0 = (0 : Int))) (
        asrt true (decide (List.length (α := Bool) x1.2.2.1 ≤ LIM)) (
          asrt true (decide (0 ≤ i) && decide (i < (List.length xs : Int))) (
            ((xs)[(i : Int).toNat]?).bind fun x2 =>
            some (.normal, ⟨[(3, (.own 0)), (8, (.own 0)), (9, (.dat (.int .i64) (List.length l : Int))), (10, (.dat (.int .i64) (IntKind.i64.wrap (i + 1))))], [(.arr G35 (List.set xs (i : Int).toNat (x2.1, x2.2.1, x1.2.2.1, x2.2.2.2.1, x2.2.2.2.2.1, ())))]⟩)))))
  else
    some (.exit 0, ⟨[(3, (.own 0))], [(.arr G35 xs)]⟩) := by kernel_rfl
theorem th2_28 (l : List (T35)) (i : Int) (xs : List (T35)) (p : Nat) (x : T35) : execC E28 C28 Try.f28.ntmps 0 (toldY Try.f28) ⟨[(3, (.own 0)), (8, (.own 0)), (9, (.dat (.int .i64) (List.length l : Int))), (10, (.dat (.int .i64) i))], [.hole true G35 xs p (.dat G35 x)]⟩ (stepK (some ⟨[3, 8, 9, 10], [], []⟩) (some ⟨[3], [], []⟩)) =
  bif (decide (i < (List.length l : Int))) then
    asrt true (decide (0 ≤ i) && decide (i < (List.length xs : Int))) (
      asrt true (Nat.beq ((i : Int).toNat) p) (
        asrt true (decide (0 = 0) && decide (0 = (0 : Int))) (
          asrt true (decide (List.length (α := Bool) x.2.2.1 ≤ LIM)) (
            asrt true (decide (0 ≤ i) && decide (i < (List.length xs : Int))) (
              asrt true (Nat.beq ((i : Int).toNat) p) (
                some (.normal, ⟨[(3, (.own 0)), (8, (.own 0)), (9, (.dat (.int .i64) (List.length l : Int))), (10, (.dat (.int .i64) (IntKind.i64.wrap (i + 1))))], [(.hole true G35 xs p (.agg (.scons (.dat (.int .i64) x.1) (.scons (.dat (.int .i64) x.2.1) (.scons (.own 1) (.scons (.dat (.int .i64) x.2.2.2.1) (.scons (.dat (.int .i64) x.2.2.2.2.1) .snil))))))), (.arr .bool x.2.2.1)]⟩)))))))
  else
    some (.exit 0, ⟨[(3, (.own 0))], [(.hole true G35 xs p (.dat G35 x))]⟩) := by kernel_rfl
theorem th3_28 (l : List (T35)) (i : Int) (xs : List (T35)) (p : Nat) (y : T35) (ys : List Bool) : execC E28 C28 Try.f28.ntmps 0 (toldY Try.f28) ⟨[(3, (.own 0)), (8, (.own 0)), (9, (.dat (.int .i64) (List.length l : Int))), (10, (.dat (.int .i64) i))], [.hole false G35 xs p (mkU y 1), .arr .bool ys]⟩ (stepK (some ⟨[3, 8, 9, 10], [], []⟩) (some ⟨[3], [], []⟩)) =
  bif (decide (i < (List.length l : Int))) then
    asrt true (decide (0 ≤ i) && decide (i < (List.length xs : Int))) (
      (bif Nat.beq ((i : Int).toNat) p then none else (xs)[(i : Int).toNat]?).bind fun x1 =>
      asrt true (decide (0 = 0) && decide (0 = (0 : Int))) (
        asrt true (decide (List.length (α := Bool) x1.2.2.1 ≤ LIM)) (
          asrt true (decide (0 ≤ i) && decide (i < (List.length xs : Int))) (
            (bif Nat.beq ((i : Int).toNat) p then none else (xs)[(i : Int).toNat]?).bind fun x2 =>
            some (.normal, ⟨[(3, (.own 0)), (8, (.own 0)), (9, (.dat (.int .i64) (List.length l : Int))), (10, (.dat (.int .i64) (IntKind.i64.wrap (i + 1))))], [(.hole false G35 (List.set xs (i : Int).toNat (x2.1, x2.2.1, x1.2.2.1, x2.2.2.2.1, x2.2.2.2.2.1, ())) p (.agg (.scons (.dat (.int .i64) y.1) (.scons (.dat (.int .i64) y.2.1) (.scons (.own 1) (.scons (.dat (.int .i64) y.2.2.2.1) (.scons (.dat (.int .i64) y.2.2.2.2.1) .snil))))))), (.arr .bool ys)]⟩)))))
  else
    some (.exit 0, ⟨[(3, (.own 0))], [(.hole false G35 xs p (.agg (.scons (.dat (.int .i64) y.1) (.scons (.dat (.int .i64) y.2.1) (.scons (.own 1) (.scons (.dat (.int .i64) y.2.2.2.1) (.scons (.dat (.int .i64) y.2.2.2.2.1) .snil))))))), (.arr .bool ys)]⟩) := by kernel_rfl
theorem th5_28 (l : List gRow.ty) (p : Nat) (y : gRow.ty) (ys : List Bool) : execC E28 C28 Try.f28.ntmps 0 (.seq (toldF Try.f28) .ret) ⟨[(3, (.own 0))], [.hole true gRow l p (mkU y 1), .arr .bool ys]⟩ (finK Try.prog Try.f28 retSt) = some (.own 0, [.hole true gRow l p (mkU y 1), .arr .bool ys]) := by kernel_rfl
theorem tr28 : TRun Try.prog 28 := told_run (E := E28) ok28 ord (C := C28) (fn := Try.f28) (cA := toldA Try.f28) (cB := toldB Try.f28) (cD := toldD Try.f28) (cF := toldF Try.f28) (BODY := toldY Try.f28) (bl := 0) (some ⟨[3, 8, 9, 10], [], []⟩) (some ⟨[3], [], []⟩) Try.func28 (by kernel_rfl) (by kernel_rfl) (by kernel_rfl) (by kernel_rfl) (by kernel_rfl) (by kernel_rfl) (by kernel_rfl) rg28 [(3, (.own 0))]
  (fun l hl => (th0_28 l).trans (by simp [hl, cloneM, asrt, rg28]))
  (fun l i x hl hx hr => (th1_28 l i l).trans (by
    have h1 : i < l.length := (List.getElem?_eq_some_iff.1 hx).1
    have hw : IntKind.i64.wrap ((i : Int) + 1) = ((i + 1 : Nat) : Int) := wrap_nat (by unfold LIM at hl; omega)
    simp only [idx, rg28, hw]
    simp only [Int.toNat_natCast, hx, Option.bind_some, Int.natCast_nonneg, Int.ofNat_lt, h1, hr, decide_true, cond_true, Bool.and_self, asrtT, List.length_nil, Nat.zero_add, List.nil_append]
    exact congrArg (fun z => some (Ex.normal, St.mk _ [SO.arr gRow z])) (set_id hx)))
  (fun l i x hl hx hr => (th2_28 l i l i x).trans (by
    have h1 : i < l.length := (List.getElem?_eq_some_iff.1 hx).1
    have hw : IntKind.i64.wrap ((i : Int) + 1) = ((i + 1 : Nat) : Int) := wrap_nat (by unfold LIM at hl; omega)
    simp only [idx, rg28, hw]
    simp only [Int.toNat_natCast, hx, Option.bind_some, Int.natCast_nonneg, Int.ofNat_lt, h1, hr, decide_true, cond_true, Bool.and_self, asrtT, List.length_nil, Nat.zero_add, List.nil_append, Nat.beq_refl]
    rfl))
  (fun l i x p y ys hl hp hx hr => (th3_28 l i l p y ys).trans (by
    have h1 : i < l.length := (List.getElem?_eq_some_iff.1 hx).1
    have hw : IntKind.i64.wrap ((i : Int) + 1) = ((i + 1 : Nat) : Int) := wrap_nat (by unfold LIM at hl; omega)
    simp only [idx, rg28, hw]
    simp only [Int.toNat_natCast, hx, Option.bind_some, Int.natCast_nonneg, Int.ofNat_lt, h1, hr, decide_true, cond_true, cond_false, Bool.and_self, asrtT, List.length_nil, Nat.zero_add, List.nil_append, hp]
    exact congrArg (fun z => some (Ex.normal, St.mk _ [SO.hole false gRow z p (mkU y 1), SO.arr .bool ys])) (set_id hx)))
  (fun l p y ys hl => (th3_28 l l.length l p y ys).trans (by
    simp only [Int.lt_irrefl, decide_false, cond_false]
    rfl))
  (fun l p y ys => th5_28 l p y ys)
noncomputable def cH28 (p : Int) : CmE := tellE 28 p
theorem dH28 (p : Int) : CmOk Try.prog (cH28 p) := tell_ok ca28 tr28 p

/-! 17: consol/bearer.Present -/
theorem ca17 : callable Try.prog 17 := ⟨Try.f17, Try.func17, by kernel_rfl, by kernel_rfl⟩
noncomputable def E17 : Env := mkEnv2 Try.prog [e26, e27, e29] [] [] (fun p => [cH28 p])
theorem ok17 : EnvOk E17 := mkEnv2_ok (by simp only [List.mem_cons, List.not_mem_nil, or_false, forall_eq_or_imp, forall_eq]; exact ⟨p26, p27, p29⟩) (by simp) (by intro p; simp only [List.mem_cons, List.not_mem_nil, or_false, forall_eq]; exact dH28 p)
noncomputable def C17 : Cfg := mkCfg [] [] (([] : List (Nat × LE)).map (·.2)) [] [(15, [(15, [], (.sl G35))])] [(13, 28, 1, [])]
theorem lm17 : ∀ c, Try.f17.body = some c → LmOk E17 C17 Try.f17.ntmps c := lmOk_of (ps := []) (by kernel_rfl) (by kernel_rfl) trivial
noncomputable def m17 (a0 : (List T35)) (a1 : Int) (a2 : Int) (a3 : Int) (a4 : Int) : Option (((List T35) × (Int × (Int × Unit)))) :=
  (m29 a3).bind fun r1 =>
  (bif (r1 == true) then (m27 a4) else some false).bind fun r2 =>
  (m26 a0 a1 (r1 && r2)).bind fun r3 =>
  bif (r3 != 0) then
    some ([], 0, r3, ())
  else
    (idx a0 a1).bind fun x4 =>
    bif ((decide (a2 < 0)) || (decide (a2 ≥ (List.length x4.2.2.1 : Int)))) then
      some ([], 0, 4, ())
    else
      (idx x4.2.2.1 a2).bind fun x5 =>
      bif x5 then
        some ([], 0, 5, ())
      else
        bif ((x4.2.2.2.1 != (-1)) && (x4.2.2.2.2.1 != a3)) then
          some ([], 0, 18, ())
        else
          bif ((x4.2.2.2.1 != (-1)) && (decide (a4 < (IntKind.i64.wrap (x4.2.2.2.1 + 365))))) then
            some ([], 0, 20, ())
          else
            (tellL a1 a0).bind fun x6 =>
            asrt true (decide (0 ≤ a1) && decide (a1 < (List.length a0 : Int))) (
              asrt true (Nat.beq ((a1 : Int).toNat) ((a1 : Int).toNat)) (
                asrt true (decide (0 ≤ a2) && decide (a2 < (List.length x6.2.2.1 : Int))) (
                  ((x6.2.2.1)[(a2 : Int).toNat]?).bind fun x7 =>
                  some ((List.set a0 ((a1 : Int).toNat) (x6.1, x6.2.1, (List.set x6.2.2.1 (a2 : Int).toNat true), x6.2.2.2.1, x6.2.2.2.2.1, ())), x4.2.1, 0, ()))))
noncomputable def e17 : PmE := entry 17 [(.sl G35), (.int .i64), (.int .i64), (.int .i64), (.int .i64)] true (.cons (.sl G35) (.cons (.int .i64) (.cons (.int .i64) .nil))) (fun x => m17 x.1 x.2.1 x.2.2.1 x.2.2.2.1 x.2.2.2.2.1)
theorem q17 (x : tyL [(.sl G35), (.int .i64), (.int .i64), (.int .i64), (.int .i64)]) : execF E17 C17 Try.f17 (datL [(.sl G35), (.int .i64), (.int .i64), (.int .i64), (.int .i64)] x) [] (retK true (.cons (.sl G35) (.cons (.int .i64) (.cons (.int .i64) .nil)))) = m17 x.1 x.2.1 x.2.2.1 x.2.2.2.1 x.2.2.2.2.1 := by kernel_rfl
theorem p17 : PmOk Try.prog e17 := pm_ok (E := E17) ok17 ord lm17 Try.func17 ca17 q17

noncomputable def cK17 : CmE := konE 17 [(.sl G35), (.int .i64), (.int .i64), (.int .i64), (.int .i64)] true (.cons (.sl G35) (.cons (.int .i64) (.cons (.int .i64) .nil))) (fun x => m17 x.1 x.2.1 x.2.2.1 x.2.2.2.1 x.2.2.2.2.1)
theorem dK17 : CmOk Try.prog cK17 := kon_ok p17

/-! 16: consol/bearer.Report -/
theorem ca16 : callable Try.prog 16 := ⟨Try.f16, Try.func16, by kernel_rfl, by kernel_rfl⟩
noncomputable def E16 : Env := mkEnv2 Try.prog [e26, e27] [c28]
theorem ok16 : EnvOk E16 := mkEnv2_ok (by simp only [List.mem_cons, List.not_mem_nil, or_false, forall_eq_or_imp, forall_eq]; exact ⟨p26, p27⟩) (by simp only [List.mem_cons, List.not_mem_nil, or_false, forall_eq]; exact d28)
noncomputable def C16 : Cfg := noCfg
theorem lm16 : ∀ c, Try.f16.body = some c → LmOk E16 C16 Try.f16.ntmps c := fun _ _ => noCfg_lm
noncomputable def m16 (a0 : (List T35)) (a1 : Int) (a2 : Int) : Option (((List T35) × (Int × Unit))) :=
  (m27 a2).bind fun r1 =>
  (m26 a0 a1 r1).bind fun r2 =>
  bif (r2 != 0) then
    some ([], r2, ())
  else
    (idx a0 a1).bind fun x3 =>
    bif (x3.2.2.2.1 != (-1)) then
      some ([], 5, ())
    else
      (m28 a0).bind fun r4 =>
      asrt true (decide (0 ≤ a1) && decide (a1 < (List.length r4 : Int))) (
        ((r4)[(a1 : Int).toNat]?).bind fun x5 =>
        some ((List.set r4 (a1 : Int).toNat (x5.1, x5.2.1, x5.2.2.1, a2, x5.2.2.2.2.1, ())), 0, ()))
noncomputable def e16 : PmE := entry 16 [(.sl G35), (.int .i64), (.int .i64)] true (.cons (.sl G35) (.cons (.int .i64) .nil)) (fun x => m16 x.1 x.2.1 x.2.2.1)
theorem q16 (x : tyL [(.sl G35), (.int .i64), (.int .i64)]) : execF E16 C16 Try.f16 (datL [(.sl G35), (.int .i64), (.int .i64)] x) [] (retK true (.cons (.sl G35) (.cons (.int .i64) .nil))) = m16 x.1 x.2.1 x.2.2.1 := by kernel_rfl
theorem p16 : PmOk Try.prog e16 := pm_ok (E := E16) ok16 ord lm16 Try.func16 ca16 q16

noncomputable def cK16 : CmE := konE 16 [(.sl G35), (.int .i64), (.int .i64)] true (.cons (.sl G35) (.cons (.int .i64) .nil)) (fun x => m16 x.1 x.2.1 x.2.2.1)
theorem dK16 : CmOk Try.prog cK16 := kon_ok p16

/-! 18: consol/bearer.Secure -/
theorem ca18 : callable Try.prog 18 := ⟨Try.f18, Try.func18, by kernel_rfl, by kernel_rfl⟩
noncomputable def E18 : Env := mkEnv2 Try.prog [e26, e29] [c28]
theorem ok18 : EnvOk E18 := mkEnv2_ok (by simp only [List.mem_cons, List.not_mem_nil, or_false, forall_eq_or_imp, forall_eq]; exact ⟨p26, p29⟩) (by simp only [List.mem_cons, List.not_mem_nil, or_false, forall_eq]; exact d28)
noncomputable def C18 : Cfg := noCfg
theorem lm18 : ∀ c, Try.f18.body = some c → LmOk E18 C18 Try.f18.ntmps c := fun _ _ => noCfg_lm
noncomputable def m18 (a0 : (List T35)) (a1 : Int) (a2 : Int) : Option (((List T35) × (Int × Unit))) :=
  (m29 a2).bind fun r1 =>
  (m26 a0 a1 r1).bind fun r2 =>
  bif (r2 != 0) then
    some ([], r2, ())
  else
    (idx a0 a1).bind fun x3 =>
    bif (x3.2.2.2.1 == (-1)) then
      some ([], 7, ())
    else
      (idx a0 a1).bind fun x4 =>
      bif (x4.2.2.2.2.1 != (-1)) then
        some ([], 5, ())
      else
        (m28 a0).bind fun r5 =>
        asrt true (decide (0 ≤ a1) && decide (a1 < (List.length r5 : Int))) (
          ((r5)[(a1 : Int).toNat]?).bind fun x6 =>
          some ((List.set r5 (a1 : Int).toNat (x6.1, x6.2.1, x6.2.2.1, x6.2.2.2.1, a2, ())), 0, ()))
noncomputable def e18 : PmE := entry 18 [(.sl G35), (.int .i64), (.int .i64)] true (.cons (.sl G35) (.cons (.int .i64) .nil)) (fun x => m18 x.1 x.2.1 x.2.2.1)
theorem q18 (x : tyL [(.sl G35), (.int .i64), (.int .i64)]) : execF E18 C18 Try.f18 (datL [(.sl G35), (.int .i64), (.int .i64)] x) [] (retK true (.cons (.sl G35) (.cons (.int .i64) .nil))) = m18 x.1 x.2.1 x.2.2.1 := by kernel_rfl
theorem p18 : PmOk Try.prog e18 := pm_ok (E := E18) ok18 ord lm18 Try.func18 ca18 q18

noncomputable def cK18 : CmE := konE 18 [(.sl G35), (.int .i64), (.int .i64)] true (.cons (.sl G35) (.cons (.int .i64) .nil)) (fun x => m18 x.1 x.2.1 x.2.2.1)
theorem dK18 : CmOk Try.prog cK18 := kon_ok p18

/-! 12: consol/bearer.Open -/
theorem ca12 : callable Try.prog 12 := ⟨Try.f12, Try.func12, by kernel_rfl, by kernel_rfl⟩
noncomputable def E12 : Env := mkEnv2 Try.prog [e14] []
theorem ok12 : EnvOk E12 := mkEnv2_ok (by simp only [List.mem_cons, List.not_mem_nil, or_false, forall_eq]; exact p14) (by simp)
/-- a round of a loop of consol/bearer.Open -/
noncomputable def s12_1 {R : Type} (t1 : Int) (t2 : Int) (t13 : (List T35)) (t14 : Int) (kn : Int → Int → Option R) (k1 : Int → Option R) (t7 : Int) (t15 : Int) : Option R :=
  bif (decide (t15 < t14)) then
    cont (fun (k4 : Int → _) =>
      (idx t13 t15).bind fun x2 =>
      (idxG ((((x2.1 == t1) && (decide (t2 ≥ 0))) && (decide (t2 < (List.length x2.2.2.1 : Int)))) == true) false x2.2.2.1 t2).bind fun x3 =>
      bif ((((x2.1 == t1) && (decide (t2 ≥ 0))) && (decide (t2 < (List.length x2.2.2.1 : Int)))) && (!x3)) then
        k4 (IntKind.i64.wrap (t7 + x2.2.1))
      else
        k4 t7) fun y4 =>
    kn y4 (IntKind.i64.wrap (t15 + 1))
  else
    k1 t7
noncomputable def l12_1 {R : Type} (t1 : Int) (t2 : Int) (t13 : (List T35)) (t14 : Int) (k1 : Int → Option R) : Nat → Int → Int → Option R
  | 0, _, _ => none
  | n + 1, t7, t15 => s12_1 t1 t2 t13 t14 (l12_1 t1 t2 t13 t14 k1 n) k1 t7 t15
noncomputable def L12_1 : LE := ⟨6, 0, ⟨[(1, (.dat (.int .i64))), (2, (.dat (.int .i64))), (7, (.dat (.int .i64))), (13, (.dat (.sl G35))), (14, (.dat (.int .i64))), (15, (.dat (.int .i64)))], []⟩, fun R n x k => l12_1 x.1.1 x.1.2.1 x.1.2.2.2.1 x.1.2.2.2.2.1 (fun y0 => k (.exit 0) ⟨[(7, (.dat (.int .i64) y0))], []⟩) n x.1.2.2.1 x.1.2.2.2.2.2.1⟩
noncomputable def C12 : Cfg := mkCfg [(6, ⟨[1, 2, 7, 13, 14, 15], [], []⟩), (10, ⟨[1, 2, 7, 13, 14, 15], [], []⟩)] [(6, (⟨[7], [], []⟩, ⟨[6], [], []⟩))] (([(0, L12_1)] : List (Nat × LE)).map (·.2))
theorem ek12_1 : EOk E12 C12 Try.f12.ntmps (bodyL Try.f12 0) L12_1 := eok_of (e := L12_1) (fun R x Kn k => s12_1 x.1.1 x.1.2.1 x.1.2.2.2.1 x.1.2.2.2.2.1 (fun v0 v1 => Kn ((x.1.1, x.1.2.1, v0, x.1.2.2.2.1, x.1.2.2.2.2.1, v1, ()), (()))) (fun y0 => k (.exit 0) ⟨[(7, (.dat (.int .i64) y0))], []⟩) x.1.2.2.1 x.1.2.2.2.2.2.1) (fun _ _ _ => rfl) (fun _ _ _ _ => rfl) (fun R x Kn k => by kernel_rfl)
theorem lm12 : ∀ c, Try.f12.body = some c → LmOk E12 C12 Try.f12.ntmps c := lmOk_of (ps := [(0, L12_1)]) (by kernel_rfl) (by kernel_rfl) ⟨ek12_1, trivial⟩
noncomputable def m12 (a0 : (List T35)) (a1 : Int) (a2 : Int) : Option (Int) :=
  (m14 a0).bind fun r1 =>
  bif (!r1) then
    some 0
  else
    l12_1 a1 a2 a0 (List.length a0 : Int) (fun y5 =>
        some y5) FUEL 0 0
noncomputable def e12 : PmE := entry 12 [(.sl G35), (.int .i64), (.int .i64)] false (.int .i64) (fun x => m12 x.1 x.2.1 x.2.2.1)
theorem q12 (x : tyL [(.sl G35), (.int .i64), (.int .i64)]) : execF E12 C12 Try.f12 (datL [(.sl G35), (.int .i64), (.int .i64)] x) [] (retK false (.int .i64)) = m12 x.1 x.2.1 x.2.2.1 := by kernel_rfl
theorem p12 : PmOk Try.prog e12 := pm_ok (E := E12) ok12 ord lm12 Try.func12 ca12 q12

/-! 7: consol/consollaw31.small -/
theorem ca7 : callable Try.prog 7 := ⟨Try.f7, Try.func7, by kernel_rfl, by kernel_rfl⟩
noncomputable def E7 : Env := mkEnv2 Try.prog [e12, e14, e16, e17, e18, e21] []
theorem ok7 : EnvOk E7 := mkEnv2_ok (by simp only [List.mem_cons, List.not_mem_nil, or_false, forall_eq_or_imp, forall_eq]; exact ⟨p12, p14, p16, p17, p18, p21⟩) (by simp)
noncomputable def C7 : Cfg := noCfg
theorem lm7 : ∀ c, Try.f7.body = some c → LmOk E7 C7 Try.f7.ntmps c := fun _ _ => noCfg_lm
noncomputable def m7  : Option (Bool) :=
  (m21).bind fun r1 =>
  (m17 r1 0 1 7 40).bind fun r2 =>
  (m17 r2.1 0 1 7 41).bind fun r3 =>
  (m16 r2.1 1 50).bind fun r4 =>
  (m17 r4.1 1 0 7 60).bind fun r5 =>
  (m18 r4.1 1 7).bind fun r6 =>
  (m17 r6.1 1 0 7 400).bind fun r7 =>
  (m17 r6.1 1 0 7 415).bind fun r8 =>
  (m17 r6.1 1 0 8 415).bind fun r9 =>
  (bif (((((((((((r2.2.2.1 == 0) && (r2.2.1 == 10)) && (r3.2.2.1 == 5)) && (r4.2.1 == 0)) && (r5.2.2.1 == 18)) && (r6.2.1 == 0)) && (r7.2.2.1 == 20)) && (r8.2.2.1 == 0)) && (r8.2.1 == 20)) && (r9.2.2.1 == 18)) == true) then (m12 r1 4 0) else some 0).bind fun r10 =>
  (bif ((((((((((((r2.2.2.1 == 0) && (r2.2.1 == 10)) && (r3.2.2.1 == 5)) && (r4.2.1 == 0)) && (r5.2.2.1 == 18)) && (r6.2.1 == 0)) && (r7.2.2.1 == 20)) && (r8.2.2.1 == 0)) && (r8.2.1 == 20)) && (r9.2.2.1 == 18)) && (r10 == 30)) == true) then (m12 r1 4 1) else some 0).bind fun r11 =>
  (bif (((((((((((((r2.2.2.1 == 0) && (r2.2.1 == 10)) && (r3.2.2.1 == 5)) && (r4.2.1 == 0)) && (r5.2.2.1 == 18)) && (r6.2.1 == 0)) && (r7.2.2.1 == 20)) && (r8.2.2.1 == 0)) && (r8.2.1 == 20)) && (r9.2.2.1 == 18)) && (r10 == 30)) && (r11 == 30)) == true) then (m12 r8.1 4 0) else some 0).bind fun r12 =>
  (bif ((((((((((((((r2.2.2.1 == 0) && (r2.2.1 == 10)) && (r3.2.2.1 == 5)) && (r4.2.1 == 0)) && (r5.2.2.1 == 18)) && (r6.2.1 == 0)) && (r7.2.2.1 == 20)) && (r8.2.2.1 == 0)) && (r8.2.1 == 20)) && (r9.2.2.1 == 18)) && (r10 == 30)) && (r11 == 30)) && (r12 == 10)) == true) then (m12 r8.1 4 1) else some 0).bind fun r13 =>
  (bif (((((((((((((((r2.2.2.1 == 0) && (r2.2.1 == 10)) && (r3.2.2.1 == 5)) && (r4.2.1 == 0)) && (r5.2.2.1 == 18)) && (r6.2.1 == 0)) && (r7.2.2.1 == 20)) && (r8.2.2.1 == 0)) && (r8.2.1 == 20)) && (r9.2.2.1 == 18)) && (r10 == 30)) && (r11 == 30)) && (r12 == 10)) && (r13 == 20)) == true) then (m14 r8.1) else some false).bind fun r14 =>
  some (((((((((((((((r2.2.2.1 == 0) && (r2.2.1 == 10)) && (r3.2.2.1 == 5)) && (r4.2.1 == 0)) && (r5.2.2.1 == 18)) && (r6.2.1 == 0)) && (r7.2.2.1 == 20)) && (r8.2.2.1 == 0)) && (r8.2.1 == 20)) && (r9.2.2.1 == 18)) && (r10 == 30)) && (r11 == 30)) && (r12 == 10)) && (r13 == 20)) && r14)
noncomputable def e7 : PmE := entry 7 [] false .bool (fun x => m7 )
theorem q7 (x : tyL []) : execF E7 C7 Try.f7 (datL [] x) [] (retK false .bool) = m7  := by kernel_rfl
theorem p7 : PmOk Try.prog e7 := pm_ok (E := E7) ok7 ord lm7 Try.func7 ca7 q7

/-! 8: consol/consolref31.Few -/
theorem ca8 : callable Try.prog 8 := ⟨Try.f8, Try.func8, by kernel_rfl, by kernel_rfl⟩
noncomputable def E8 : Env := mkEnv2 Try.prog [] []
theorem ok8 : EnvOk E8 := mkEnv2_ok (by simp) (by simp)
/-- a round of a loop of consol/consolref31.Few -/
noncomputable def s8_1 {R : Type} (t0 : (List T35)) (kn : Int → Option R) (k1 : Option R) (k2 : Option R) (t3 : Int) : Option R :=
  bif ((decide (t3 < (List.length t0 : Int))) && (decide (t3 ≤ 12))) then
    (idx t0 t3).bind fun x1 =>
    bif (decide ((List.length x1.2.2.1 : Int) > 10)) then
      k2
    else
      kn (IntKind.i64.wrap (t3 + 1))
  else
    k1
noncomputable def l8_1 {R : Type} (t0 : (List T35)) (k1 : Option R) (k2 : Option R) : Nat → Int → Option R
  | 0, _ => none
  | n + 1, t3 => s8_1 t0 (l8_1 t0 k1 k2 n) k1 k2 t3
noncomputable def L8_1 : LE := ⟨3, 0, ⟨[(0, (.dat (.sl G35))), (3, (.dat (.int .i64)))], []⟩, fun R n x k => l8_1 x.1.1 (k (.exit 0) ⟨[(0, (.dat (.sl G35) x.1.1))], []⟩) (k .ret ⟨[(2, (.dat .bool false))], []⟩) n x.1.2.1⟩
noncomputable def C8 : Cfg := mkCfg [(3, ⟨[0, 3], [], []⟩)] [(3, (⟨[0], [], []⟩, ⟨[2], [], []⟩))] (([(0, L8_1)] : List (Nat × LE)).map (·.2))
theorem ek8_1 : EOk E8 C8 Try.f8.ntmps (bodyL Try.f8 0) L8_1 := eok_of (e := L8_1) (fun R x Kn k => s8_1 x.1.1 (fun v0 => Kn ((x.1.1, v0, ()), (()))) (k (.exit 0) ⟨[(0, (.dat (.sl G35) x.1.1))], []⟩) (k .ret ⟨[(2, (.dat .bool false))], []⟩) x.1.2.1) (fun _ _ _ => rfl) (fun _ _ _ _ => rfl) (fun R x Kn k => by kernel_rfl)
theorem lm8 : ∀ c, Try.f8.body = some c → LmOk E8 C8 Try.f8.ntmps c := lmOk_of (ps := [(0, L8_1)]) (by kernel_rfl) (by kernel_rfl) ⟨ek8_1, trivial⟩
noncomputable def m8 (a0 : (List T35)) : Option (Bool) :=
  l8_1 a0 (
      some (decide ((List.length a0 : Int) ≤ 12))) (
      some false) FUEL 0
noncomputable def e8 : PmE := entry 8 [(.sl G35)] false .bool (fun x => m8 x.1)
theorem q8 (x : tyL [(.sl G35)]) : execF E8 C8 Try.f8 (datL [(.sl G35)] x) [] (retK false .bool) = m8 x.1 := by kernel_rfl
theorem p8 : PmOk Try.prog e8 := pm_ok (E := E8) ok8 ord lm8 Try.func8 ca8 q8

/-! 19: consol/bearer.Find -/
theorem ca19 : callable Try.prog 19 := ⟨Try.f19, Try.func19, by kernel_rfl, by kernel_rfl⟩
noncomputable def E19 : Env := mkEnv2 Try.prog [e26] [c28]
theorem ok19 : EnvOk E19 := mkEnv2_ok (by simp only [List.mem_cons, List.not_mem_nil, or_false, forall_eq]; exact p26) (by simp only [List.mem_cons, List.not_mem_nil, or_false, forall_eq]; exact d28)
noncomputable def C19 : Cfg := noCfg
theorem lm19 : ∀ c, Try.f19.body = some c → LmOk E19 C19 Try.f19.ntmps c := fun _ _ => noCfg_lm
noncomputable def m19 (a0 : (List T35)) (a1 : Int) : Option (((List T35) × (Int × Unit))) :=
  (m26 a0 a1 true).bind fun r1 =>
  bif (r1 != 0) then
    some ([], r1, ())
  else
    (idx a0 a1).bind fun x2 =>
    bif (x2.2.2.2.1 == (-1)) then
      some ([], 7, ())
    else
      (m28 a0).bind fun r3 =>
      asrt true (decide (0 ≤ a1) && decide (a1 < (List.length r3 : Int))) (
        ((r3)[(a1 : Int).toNat]?).bind fun x4 =>
        asrt true (decide (0 ≤ a1) && decide (a1 < (List.length (List.set r3 (a1 : Int).toNat (x4.1, x4.2.1, x4.2.2.1, (-1), x4.2.2.2.2.1, ())) : Int))) (
          (((List.set r3 (a1 : Int).toNat (x4.1, x4.2.1, x4.2.2.1, (-1), x4.2.2.2.2.1, ())))[(a1 : Int).toNat]?).bind fun x5 =>
          some ((List.set (List.set r3 (a1 : Int).toNat (x4.1, x4.2.1, x4.2.2.1, (-1), x4.2.2.2.2.1, ())) (a1 : Int).toNat (x5.1, x5.2.1, x5.2.2.1, x5.2.2.2.1, (-1), ())), 0, ())))
noncomputable def e19 : PmE := entry 19 [(.sl G35), (.int .i64)] true (.cons (.sl G35) (.cons (.int .i64) .nil)) (fun x => m19 x.1 x.2.1)
theorem q19 (x : tyL [(.sl G35), (.int .i64)]) : execF E19 C19 Try.f19 (datL [(.sl G35), (.int .i64)] x) [] (retK true (.cons (.sl G35) (.cons (.int .i64) .nil))) = m19 x.1 x.2.1 := by kernel_rfl
theorem p19 : PmOk Try.prog e19 := pm_ok (E := E19) ok19 ord lm19 Try.func19 ca19 q19

noncomputable def cK19 : CmE := konE 19 [(.sl G35), (.int .i64)] true (.cons (.sl G35) (.cons (.int .i64) .nil)) (fun x => m19 x.1 x.2.1)
theorem dK19 : CmOk Try.prog cK19 := kon_ok p19

/-! 9: consol/consollaw31.do -/
theorem ca9 : callable Try.prog 9 := ⟨Try.f9, Try.func9, by kernel_rfl, by kernel_rfl⟩
noncomputable def E9 : Env := mkEnv2 Try.prog [e16, e17, e18, e19] []
theorem ok9 : EnvOk E9 := mkEnv2_ok (by simp only [List.mem_cons, List.not_mem_nil, or_false, forall_eq_or_imp, forall_eq]; exact ⟨p16, p17, p18, p19⟩) (by simp)
noncomputable def C9 : Cfg := noCfg
theorem lm9 : ∀ c, Try.f9.body = some c → LmOk E9 C9 Try.f9.ntmps c := fun _ _ => noCfg_lm
noncomputable def m9 (a0 : (List T35)) (a1 : T26) : Option (((List T35) × (Int × (Int × Unit)))) :=
  bif (a1.1 == 0) then
    (m17 a0 a1.2.1 a1.2.2.1 a1.2.2.2.1 a1.2.2.2.2.1).bind fun r1 =>
    some (r1.1, r1.2.1, r1.2.2.1, ())
  else
    bif (a1.1 == 1) then
      (m16 a0 a1.2.1 a1.2.2.2.2.1).bind fun r2 =>
      some (r2.1, 0, r2.2.1, ())
    else
      bif (a1.1 == 2) then
        (m18 a0 a1.2.1 a1.2.2.2.1).bind fun r3 =>
        some (r3.1, 0, r3.2.1, ())
      else
        (m19 a0 a1.2.1).bind fun r4 =>
        some (r4.1, 0, r4.2.1, ())
noncomputable def e9 : PmE := entry 9 [(.sl G35), G26] true (.cons (.sl G35) (.cons (.int .i64) (.cons (.int .i64) .nil))) (fun x => m9 x.1 x.2.1)
theorem q9 (x : tyL [(.sl G35), G26]) : execF E9 C9 Try.f9 (datL [(.sl G35), G26] x) [] (retK true (.cons (.sl G35) (.cons (.int .i64) (.cons (.int .i64) .nil)))) = m9 x.1 x.2.1 := by kernel_rfl
theorem p9 : PmOk Try.prog e9 := pm_ok (E := E9) ok9 ord lm9 Try.func9 ca9 q9

noncomputable def cK9 : CmE := konE 9 [(.sl G35), G26] true (.cons (.sl G35) (.cons (.int .i64) (.cons (.int .i64) .nil))) (fun x => m9 x.1 x.2.1)
theorem dK9 : CmOk Try.prog cK9 := kon_ok p9

/-! 15: consol/consolref31.Right -/
theorem ca15 : callable Try.prog 15 := ⟨Try.f15, Try.func15, by kernel_rfl, by kernel_rfl⟩
noncomputable def E15 : Env := mkEnv2 Try.prog [] []
theorem ok15 : EnvOk E15 := mkEnv2_ok (by simp) (by simp)
/-- a round of a loop of consol/consolref31.Right -/
noncomputable def s15_1 {R : Type} (t0 : (List T35)) (kn : Int → Option R) (k1 : Option R) (k2 : Option R) (t3 : Int) : Option R :=
  bif (decide (t3 < (List.length t0 : Int))) then
    (idx t0 t3).bind fun x1 =>
    bif (((((decide (x1.1 < 0)) || (decide (x1.1 ≥ 400))) || (decide (x1.2.1 < 1))) || (decide (x1.2.1 > 1000000000))) || (decide ((List.length x1.2.2.1 : Int) > 400))) then
      k2
    else
      bif (((((decide (x1.2.2.2.1 < (-1))) || (decide (x1.2.2.2.1 > 200000))) || (decide (x1.2.2.2.2.1 < (-1)))) || (decide (x1.2.2.2.2.1 ≥ 20000))) || ((x1.2.2.2.1 == (-1)) && (x1.2.2.2.2.1 != (-1)))) then
        k2
      else
        kn (IntKind.i64.wrap (t3 + 1))
  else
    k1
noncomputable def l15_1 {R : Type} (t0 : (List T35)) (k1 : Option R) (k2 : Option R) : Nat → Int → Option R
  | 0, _ => none
  | n + 1, t3 => s15_1 t0 (l15_1 t0 k1 k2 n) k1 k2 t3
noncomputable def L15_1 : LE := ⟨5, 0, ⟨[(0, (.dat (.sl G35))), (3, (.dat (.int .i64)))], []⟩, fun R n x k => l15_1 x.1.1 (k (.exit 0) ⟨[], []⟩) (k .ret ⟨[(2, (.dat .bool false))], []⟩) n x.1.2.1⟩
noncomputable def C15 : Cfg := mkCfg [(5, ⟨[0, 3], [], []⟩)] [(5, (⟨[], [], []⟩, ⟨[2], [], []⟩))] (([(0, L15_1)] : List (Nat × LE)).map (·.2))
theorem ek15_1 : EOk E15 C15 Try.f15.ntmps (bodyL Try.f15 0) L15_1 := eok_of (e := L15_1) (fun R x Kn k => s15_1 x.1.1 (fun v0 => Kn ((x.1.1, v0, ()), (()))) (k (.exit 0) ⟨[], []⟩) (k .ret ⟨[(2, (.dat .bool false))], []⟩) x.1.2.1) (fun _ _ _ => rfl) (fun _ _ _ _ => rfl) (fun R x Kn k => by kernel_rfl)
theorem lm15 : ∀ c, Try.f15.body = some c → LmOk E15 C15 Try.f15.ntmps c := lmOk_of (ps := [(0, L15_1)]) (by kernel_rfl) (by kernel_rfl) ⟨ek15_1, trivial⟩
noncomputable def m15 (a0 : (List T35)) : Option (Bool) :=
  bif (decide ((List.length a0 : Int) > 1000)) then
    some false
  else
    l15_1 a0 (
        some true) (
        some false) FUEL 0
noncomputable def e15 : PmE := entry 15 [(.sl G35)] false .bool (fun x => m15 x.1)
theorem q15 (x : tyL [(.sl G35)]) : execF E15 C15 Try.f15 (datL [(.sl G35)] x) [] (retK false .bool) = m15 x.1 := by kernel_rfl
theorem p15 : PmOk Try.prog e15 := pm_ok (E := E15) ok15 ord lm15 Try.func15 ca15 q15

/-! 30: consol/consolref31.seat -/
theorem ca30 : callable Try.prog 30 := ⟨Try.f30, Try.func30, by kernel_rfl, by kernel_rfl⟩
noncomputable def E30 : Env := mkEnv2 Try.prog [] []
theorem ok30 : EnvOk E30 := mkEnv2_ok (by simp) (by simp)
noncomputable def C30 : Cfg := noCfg
theorem lm30 : ∀ c, Try.f30.body = some c → LmOk E30 C30 Try.f30.ntmps c := fun _ _ => noCfg_lm
noncomputable def m30 (a0 : Int) : Option (Bool) :=
  some ((decide (a0 ≥ 0)) && (decide (a0 < 20000)))
noncomputable def e30 : PmE := entry 30 [(.int .i64)] false .bool (fun x => m30 x.1)
theorem q30 (x : tyL [(.int .i64)]) : execF E30 C30 Try.f30 (datL [(.int .i64)] x) [] (retK false .bool) = m30 x.1 := by kernel_rfl
theorem p30 : PmOk Try.prog e30 := pm_ok (E := E30) ok30 ord lm30 Try.func30 ca30 q30

/-! 31: consol/consolref31.day -/
theorem ca31 : callable Try.prog 31 := ⟨Try.f31, Try.func31, by kernel_rfl, by kernel_rfl⟩
noncomputable def E31 : Env := mkEnv2 Try.prog [] []
theorem ok31 : EnvOk E31 := mkEnv2_ok (by simp) (by simp)
noncomputable def C31 : Cfg := noCfg
theorem lm31 : ∀ c, Try.f31.body = some c → LmOk E31 C31 Try.f31.ntmps c := fun _ _ => noCfg_lm
noncomputable def m31 (a0 : Int) : Option (Bool) :=
  some ((decide (a0 ≥ 0)) && (decide (a0 ≤ 200000)))
noncomputable def e31 : PmE := entry 31 [(.int .i64)] false .bool (fun x => m31 x.1)
theorem q31 (x : tyL [(.int .i64)]) : execF E31 C31 Try.f31 (datL [(.int .i64)] x) [] (retK false .bool) = m31 x.1 := by kernel_rfl
theorem p31 : PmOk Try.prog e31 := pm_ok (E := E31) ok31 ord lm31 Try.func31 ca31 q31

/-! 22: consol/consolref31.wrong -/
theorem ca22 : callable Try.prog 22 := ⟨Try.f22, Try.func22, by kernel_rfl, by kernel_rfl⟩
noncomputable def E22 : Env := mkEnv2 Try.prog [e15, e30, e31] []
theorem ok22 : EnvOk E22 := mkEnv2_ok (by simp only [List.mem_cons, List.not_mem_nil, or_false, forall_eq_or_imp, forall_eq]; exact ⟨p15, p30, p31⟩) (by simp)
noncomputable def C22 : Cfg := noCfg
theorem lm22 : ∀ c, Try.f22.body = some c → LmOk E22 C22 Try.f22.ntmps c := fun _ _ => noCfg_lm
noncomputable def m22 (a0 : (List T35)) (a1 : T26) : Option (Int) :=
  (m15 a0).bind fun r1 =>
  (bif (((!r1) == false) && (((a1.1 == 0) || (a1.1 == 2)) == true)) then (m30 a1.2.2.2.1) else some false).bind fun r2 =>
  (bif ((((!r1) || (((a1.1 == 0) || (a1.1 == 2)) && (!r2))) == false) && (((a1.1 == 0) || (a1.1 == 1)) == true)) then (m31 a1.2.2.2.2.1) else some false).bind fun r3 =>
  bif (((!r1) || (((a1.1 == 0) || (a1.1 == 2)) && (!r2))) || (((a1.1 == 0) || (a1.1 == 1)) && (!r3))) then
    some 1
  else
    bif ((decide (a1.2.1 < 0)) || (decide (a1.2.1 ≥ (List.length a0 : Int)))) then
      some 4
    else
      (idx a0 a1.2.1).bind fun x4 =>
      bif (a1.1 == 0) then
        bif ((decide (a1.2.2.1 < 0)) || (decide (a1.2.2.1 ≥ (List.length x4.2.2.1 : Int)))) then
          some 4
        else
          (idx x4.2.2.1 a1.2.2.1).bind fun x5 =>
          bif x5 then
            some 5
          else
            bif ((x4.2.2.2.1 != (-1)) && (x4.2.2.2.2.1 != a1.2.2.2.1)) then
              some 18
            else
              bif ((x4.2.2.2.1 != (-1)) && (decide ((IntKind.i64.wrap (a1.2.2.2.2.1 - x4.2.2.2.1)) < 365))) then
                some 20
              else
                some 0
      else
        bif ((a1.1 == 1) && (x4.2.2.2.1 != (-1))) then
          some 5
        else
          bif ((a1.1 != 1) && (x4.2.2.2.1 == (-1))) then
            some 7
          else
            bif ((a1.1 == 2) && (x4.2.2.2.2.1 != (-1))) then
              some 5
            else
              some 0
noncomputable def e22 : PmE := entry 22 [(.sl G35), G26] false (.int .i64) (fun x => m22 x.1 x.2.1)
theorem q22 (x : tyL [(.sl G35), G26]) : execF E22 C22 Try.f22 (datL [(.sl G35), G26] x) [] (retK false (.int .i64)) = m22 x.1 x.2.1 := by kernel_rfl
theorem p22 : PmOk Try.prog e22 := pm_ok (E := E22) ok22 ord lm22 Try.func22 ca22 q22

/-! 20: consol/consolref31.Copied -/
theorem ca20 : callable Try.prog 20 := ⟨Try.f20, Try.func20, by kernel_rfl, by kernel_rfl⟩
noncomputable def E20 : Env := mkEnv2 Try.prog [] []
theorem ok20 : EnvOk E20 := mkEnv2_ok (by simp) (by simp)
/-- a round of a loop of consol/consolref31.Copied -/
noncomputable def s20_1 {R : Type} (t0 : (List T35)) (kn : Int → (List T35) → Option R) (k1 : (List T35) → Option R) (t4 : Int) (o0 : (List T35)) : Option R :=
  bif (decide (t4 < (List.length o0 : Int))) then
    (idx t0 t4).bind fun x1 =>
    asrt true (decide (List.length (α := Bool) x1.2.2.1 ≤ LIM)) (
      asrt true (decide (0 ≤ t4) && decide (t4 < (List.length o0 : Int))) (
        ((o0)[(t4 : Int).toNat]?).bind fun x2 =>
        kn (IntKind.i64.wrap (t4 + 1)) (List.set o0 (t4 : Int).toNat (x2.1, x2.2.1, x1.2.2.1, x2.2.2.2.1, x2.2.2.2.2.1, ()))))
  else
    k1 o0
noncomputable def l20_1 {R : Type} (t0 : (List T35)) (k1 : (List T35) → Option R) : Nat → Int → (List T35) → Option R
  | 0, _, _ => none
  | n + 1, t4, o0 => s20_1 t0 (l20_1 t0 k1 n) k1 t4 o0
noncomputable def L20_1 : LE := ⟨4, 0, ⟨[(0, (.dat (.sl G35))), (3, (.own 0)), (4, (.dat (.int .i64)))], [(.arr G35)]⟩, fun R n x k => l20_1 x.1.1 (fun y0 => k (.exit 0) ⟨[(3, (.own 0))], [(.arr G35 y0)]⟩) n x.1.2.2.1 x.2.1⟩
noncomputable def C20 : Cfg := mkCfg [(4, ⟨[0, 3, 4], [], []⟩)] [(4, (⟨[3], [], []⟩, ⟨[2], [], []⟩))] (([(0, L20_1)] : List (Nat × LE)).map (·.2))
theorem ek20_1 : EOk E20 C20 Try.f20.ntmps (bodyL Try.f20 0) L20_1 := eok_of (e := L20_1) (fun R x Kn k => s20_1 x.1.1 (fun v0 v1 => Kn ((x.1.1, (), v0, ()), (v1, ()))) (fun y0 => k (.exit 0) ⟨[(3, (.own 0))], [(.arr G35 y0)]⟩) x.1.2.2.1 x.2.1) (fun _ _ _ => rfl) (fun _ _ _ _ => rfl) (fun R x Kn k => by kernel_rfl)
theorem lm20 : ∀ c, Try.f20.body = some c → LmOk E20 C20 Try.f20.ntmps c := lmOk_of (ps := [(0, L20_1)]) (by kernel_rfl) (by kernel_rfl) ⟨ek20_1, trivial⟩
noncomputable def m20 (a0 : (List T35)) : Option ((List T35)) :=
  asrt true (decide (List.length (α := T35) a0 ≤ LIM)) (
    l20_1 a0 (fun y3 =>
        some y3) FUEL 0 a0)
theorem q20 (x : tyL [(.sl G35)]) : execF E20 C20 Try.f20 (datL [(.sl G35)] x) [] (retOwn G35) = m20 x.1 := by kernel_rfl
noncomputable def c20 : CmE := ownE 20 [(.sl G35)] G35 (fun x => m20 x.1)
theorem d20 : CmOk Try.prog c20 := own_ok ca20 (frun_of (E := E20) ok20 ord lm20 Try.func20 q20)

/-! 20: consol/consolref31.Copied, told a number -/
noncomputable def rg20 (l : List gRow.ty) (i : Int) : List (Nat × SV) := [(0, (.dat (.sl G35) l)), (3, (.own 0)), (4, (.dat (.int .i64) i))]
theorem th0_20 (l : List (T35)) : execC E20 C20 Try.f20.ntmps 0 (toldA Try.f20) ⟨[(0, .dat (.sl G35) l)], []⟩ (fun e s => match e with
  | .normal => execC E20 C20 Try.f20.ntmps 0 (toldB Try.f20) s (fun e s => match e with
    | .normal => execC E20 C20 Try.f20.ntmps 0 (toldD Try.f20) s (stepK (some ⟨[0, 3, 4], [], []⟩) (some ⟨[3], [], []⟩))
    | _ => none)
  | _ => none) =
  asrt true (decide (List.length (α := T35) l ≤ LIM)) (
    some (.normal, ⟨[(0, (.dat (.sl G35) l)), (3, (.own 0)), (4, (.dat (.int .i64) 0))], [(.arr G35 l)]⟩)) := by kernel_rfl
theorem th1_20 (l : List (T35)) (i : Int) (xs : List (T35)) : execC E20 C20 Try.f20.ntmps 0 (toldY Try.f20) ⟨[(0, (.dat (.sl G35) l)), (3, (.own 0)), (4, (.dat (.int .i64) i))], [.arr G35 xs]⟩ (stepK (some ⟨[0, 3, 4], [], []⟩) (some ⟨[3], [], []⟩)) =
  bif (decide (i < (List.length xs : Int))) then
    (idx l i).bind fun x1 =>
    asrt true (decide (List.length (α := Bool) x1.2.2.1 ≤ LIM)) (
      asrt true (decide (0 ≤ i) && decide (i < (List.length xs : Int))) (
        ((xs)[(i : Int).toNat]?).bind fun x2 =>
        some (.normal, ⟨[(0, (.dat (.sl G35) l)), (3, (.own 0)), (4, (.dat (.int .i64) (IntKind.i64.wrap (i + 1))))], [(.arr G35 (List.set xs (i : Int).toNat (x2.1, x2.2.1, x1.2.2.1, x2.2.2.2.1, x2.2.2.2.2.1, ())))]⟩)))
  else
    some (.exit 0, ⟨[(3, (.own 0))], [(.arr G35 xs)]⟩) := by kernel_rfl
theorem th2_20 (l : List (T35)) (i : Int) (xs : List (T35)) (p : Nat) (x : T35) : execC E20 C20 Try.f20.ntmps 0 (toldY Try.f20) ⟨[(0, (.dat (.sl G35) l)), (3, (.own 0)), (4, (.dat (.int .i64) i))], [.hole true G35 xs p (.dat G35 x)]⟩ (stepK (some ⟨[0, 3, 4], [], []⟩) (some ⟨[3], [], []⟩)) =
  bif (decide (i < (List.length xs : Int))) then
    (idx l i).bind fun x1 =>
    asrt true (decide (List.length (α := Bool) x1.2.2.1 ≤ LIM)) (
      asrt true (decide (0 ≤ i) && decide (i < (List.length xs : Int))) (
        asrt true (Nat.beq ((i : Int).toNat) p) (
          some (.normal, ⟨[(0, (.dat (.sl G35) l)), (3, (.own 0)), (4, (.dat (.int .i64) (IntKind.i64.wrap (i + 1))))], [(.hole true G35 xs p (.agg (.scons (.dat (.int .i64) x.1) (.scons (.dat (.int .i64) x.2.1) (.scons (.own 1) (.scons (.dat (.int .i64) x.2.2.2.1) (.scons (.dat (.int .i64) x.2.2.2.2.1) .snil))))))), (.arr .bool x1.2.2.1)]⟩))))
  else
    some (.exit 0, ⟨[(3, (.own 0))], [(.hole true G35 xs p (.dat G35 x))]⟩) := by kernel_rfl
theorem th3_20 (l : List (T35)) (i : Int) (xs : List (T35)) (p : Nat) (y : T35) (ys : List Bool) : execC E20 C20 Try.f20.ntmps 0 (toldY Try.f20) ⟨[(0, (.dat (.sl G35) l)), (3, (.own 0)), (4, (.dat (.int .i64) i))], [.hole false G35 xs p (mkU y 1), .arr .bool ys]⟩ (stepK (some ⟨[0, 3, 4], [], []⟩) (some ⟨[3], [], []⟩)) =
  bif (decide (i < (List.length xs : Int))) then
    (idx l i).bind fun x1 =>
    asrt true (decide (List.length (α := Bool) x1.2.2.1 ≤ LIM)) (
      asrt true (decide (0 ≤ i) && decide (i < (List.length xs : Int))) (
        (bif Nat.beq ((i : Int).toNat) p then none else (xs)[(i : Int).toNat]?).bind fun x2 =>
        some (.normal, ⟨[(0, (.dat (.sl G35) l)), (3, (.own 0)), (4, (.dat (.int .i64) (IntKind.i64.wrap (i + 1))))], [(.hole false G35 (List.set xs (i : Int).toNat (x2.1, x2.2.1, x1.2.2.1, x2.2.2.2.1, x2.2.2.2.2.1, ())) p (.agg (.scons (.dat (.int .i64) y.1) (.scons (.dat (.int .i64) y.2.1) (.scons (.own 1) (.scons (.dat (.int .i64) y.2.2.2.1) (.scons (.dat (.int .i64) y.2.2.2.2.1) .snil))))))), (.arr .bool ys)]⟩)))
  else
    some (.exit 0, ⟨[(3, (.own 0))], [(.hole false G35 xs p (.agg (.scons (.dat (.int .i64) y.1) (.scons (.dat (.int .i64) y.2.1) (.scons (.own 1) (.scons (.dat (.int .i64) y.2.2.2.1) (.scons (.dat (.int .i64) y.2.2.2.2.1) .snil))))))), (.arr .bool ys)]⟩) := by kernel_rfl
theorem th5_20 (l : List gRow.ty) (p : Nat) (y : gRow.ty) (ys : List Bool) : execC E20 C20 Try.f20.ntmps 0 (.seq (toldF Try.f20) .ret) ⟨[(3, (.own 0))], [.hole true gRow l p (mkU y 1), .arr .bool ys]⟩ (finK Try.prog Try.f20 retSt) = some (.own 0, [.hole true gRow l p (mkU y 1), .arr .bool ys]) := by kernel_rfl
theorem tr20 : TRun Try.prog 20 := told_run (E := E20) ok20 ord (C := C20) (fn := Try.f20) (cA := toldA Try.f20) (cB := toldB Try.f20) (cD := toldD Try.f20) (cF := toldF Try.f20) (BODY := toldY Try.f20) (bl := 0) (some ⟨[0, 3, 4], [], []⟩) (some ⟨[3], [], []⟩) Try.func20 (by kernel_rfl) (by kernel_rfl) (by kernel_rfl) (by kernel_rfl) (by kernel_rfl) (by kernel_rfl) (by kernel_rfl) rg20 [(3, (.own 0))]
  (fun l hl => (th0_20 l).trans (by simp [hl, cloneM, asrt, rg20]))
  (fun l i x hl hx hr => (th1_20 l i l).trans (by
    have h1 : i < l.length := (List.getElem?_eq_some_iff.1 hx).1
    have hw : IntKind.i64.wrap ((i : Int) + 1) = ((i + 1 : Nat) : Int) := wrap_nat (by unfold LIM at hl; omega)
    simp only [idx, rg20, hw]
    simp only [Int.toNat_natCast, hx, Option.bind_some, Int.natCast_nonneg, Int.ofNat_lt, h1, hr, decide_true, cond_true, Bool.and_self, asrtT, List.length_nil, Nat.zero_add, List.nil_append]
    exact congrArg (fun z => some (Ex.normal, St.mk _ [SO.arr gRow z])) (set_id hx)))
  (fun l i x hl hx hr => (th2_20 l i l i x).trans (by
    have h1 : i < l.length := (List.getElem?_eq_some_iff.1 hx).1
    have hw : IntKind.i64.wrap ((i : Int) + 1) = ((i + 1 : Nat) : Int) := wrap_nat (by unfold LIM at hl; omega)
    simp only [idx, rg20, hw]
    simp only [Int.toNat_natCast, hx, Option.bind_some, Int.natCast_nonneg, Int.ofNat_lt, h1, hr, decide_true, cond_true, Bool.and_self, asrtT, List.length_nil, Nat.zero_add, List.nil_append, Nat.beq_refl]
    rfl))
  (fun l i x p y ys hl hp hx hr => (th3_20 l i l p y ys).trans (by
    have h1 : i < l.length := (List.getElem?_eq_some_iff.1 hx).1
    have hw : IntKind.i64.wrap ((i : Int) + 1) = ((i + 1 : Nat) : Int) := wrap_nat (by unfold LIM at hl; omega)
    simp only [idx, rg20, hw]
    simp only [Int.toNat_natCast, hx, Option.bind_some, Int.natCast_nonneg, Int.ofNat_lt, h1, hr, decide_true, cond_true, cond_false, Bool.and_self, asrtT, List.length_nil, Nat.zero_add, List.nil_append, hp]
    exact congrArg (fun z => some (Ex.normal, St.mk _ [SO.hole false gRow z p (mkU y 1), SO.arr .bool ys])) (set_id hx)))
  (fun l p y ys hl => (th3_20 l l.length l p y ys).trans (by
    simp only [Int.lt_irrefl, decide_false, cond_false]
    rfl))
  (fun l p y ys => th5_20 l p y ys)
noncomputable def cH20 (p : Int) : CmE := tellE 20 p
theorem dH20 (p : Int) : CmOk Try.prog (cH20 p) := tell_ok ca20 tr20 p

/-! 10: consol/consolref31.Do -/
theorem ca10 : callable Try.prog 10 := ⟨Try.f10, Try.func10, by kernel_rfl, by kernel_rfl⟩
noncomputable def E10 : Env := mkEnv2 Try.prog [e22] [] [] (fun p => [cH20 p])
theorem ok10 : EnvOk E10 := mkEnv2_ok (by simp only [List.mem_cons, List.not_mem_nil, or_false, forall_eq]; exact p22) (by simp) (by intro p; simp only [List.mem_cons, List.not_mem_nil, or_false, forall_eq]; exact dH20 p)
noncomputable def C10 : Cfg := mkCfg [(17, ⟨[8], [], []⟩)] [] (([] : List (Nat × LE)).map (·.2)) [] [(8, [(8, [], (.sl G35))]), (16, [(8, [], (.sl G35))])] [(4, 20, 3, [1])]
theorem lm10 : ∀ c, Try.f10.body = some c → LmOk E10 C10 Try.f10.ntmps c := lmOk_of (ps := []) (by kernel_rfl) (by kernel_rfl) trivial
noncomputable def m10 (a0 : (List T35)) (a1 : T26) : Option (((List T35) × (Int × (Int × Unit)))) :=
  (m22 a0 a1).bind fun r1 =>
  bif (r1 != 0) then
    some ([], 0, r1, ())
  else
    (tellL a1.2.1 a0).bind fun x2 =>
    cont (fun (k5 : (Int × Int) → _) =>
      bif (a1.1 == 0) then
        asrt true (decide (0 ≤ a1.2.1) && decide (a1.2.1 < (List.length a0 : Int))) (
          asrt true (Nat.beq ((a1.2.1 : Int).toNat) ((a1.2.1 : Int).toNat)) (
            asrt true (decide (0 ≤ a1.2.2.1) && decide (a1.2.2.1 < (List.length x2.2.2.1 : Int))) (
              ((x2.2.2.1)[(a1.2.2.1 : Int).toNat]?).bind fun x3 =>
              (idx a0 a1.2.1).bind fun x4 =>
              some ((List.set a0 ((a1.2.1 : Int).toNat) (x2.1, x2.2.1, (List.set x2.2.2.1 (a1.2.2.1 : Int).toNat true), x2.2.2.2.1, x2.2.2.2.2.1, ())), x4.2.1, 0, ()))))
      else
        bif (a1.1 == 1) then
          asrt true (decide (0 ≤ a1.2.1) && decide (a1.2.1 < (List.length a0 : Int))) (
            asrt true (Nat.beq ((a1.2.1 : Int).toNat) ((a1.2.1 : Int).toNat)) (
              k5 (a1.2.2.2.2.1, x2.2.2.2.2.1)))
        else
          bif (a1.1 == 2) then
            asrt true (decide (0 ≤ a1.2.1) && decide (a1.2.1 < (List.length a0 : Int))) (
              asrt true (Nat.beq ((a1.2.1 : Int).toNat) ((a1.2.1 : Int).toNat)) (
                k5 (x2.2.2.2.1, a1.2.2.2.1)))
          else
            bif (a1.1 == 3) then
              asrt true (decide (0 ≤ a1.2.1) && decide (a1.2.1 < (List.length a0 : Int))) (
                asrt true (Nat.beq ((a1.2.1 : Int).toNat) ((a1.2.1 : Int).toNat)) (
                  asrt true (decide (0 ≤ a1.2.1) && decide (a1.2.1 < (List.length a0 : Int))) (
                    asrt true (Nat.beq ((a1.2.1 : Int).toNat) ((a1.2.1 : Int).toNat)) (
                      k5 ((-1), (-1))))))
            else
              k5 (x2.2.2.2.1, x2.2.2.2.2.1)) fun y5 =>
    some ((List.set a0 ((a1.2.1 : Int).toNat) (x2.1, x2.2.1, x2.2.2.1, y5.1, y5.2, ())), 0, 0, ())
noncomputable def e10 : PmE := entry 10 [(.sl G35), G26] true (.cons (.sl G35) (.cons (.int .i64) (.cons (.int .i64) .nil))) (fun x => m10 x.1 x.2.1)
theorem q10 (x : tyL [(.sl G35), G26]) : execF E10 C10 Try.f10 (datL [(.sl G35), G26] x) [] (retK true (.cons (.sl G35) (.cons (.int .i64) (.cons (.int .i64) .nil)))) = m10 x.1 x.2.1 := by kernel_rfl
theorem p10 : PmOk Try.prog e10 := pm_ok (E := E10) ok10 ord lm10 Try.func10 ca10 q10

noncomputable def cK10 : CmE := konE 10 [(.sl G35), G26] true (.cons (.sl G35) (.cons (.int .i64) (.cons (.int .i64) .nil))) (fun x => m10 x.1 x.2.1)
theorem dK10 : CmOk Try.prog cK10 := kon_ok p10

/-! 11: consol/consolref31.Same -/
theorem ca11 : callable Try.prog 11 := ⟨Try.f11, Try.func11, by kernel_rfl, by kernel_rfl⟩
noncomputable def E11 : Env := mkEnv2 Try.prog [] []
theorem ok11 : EnvOk E11 := mkEnv2_ok (by simp) (by simp)
/-- a round of a loop of consol/consolref31.Same -/
noncomputable def s11_1 {R : Type} (t0 : (List T35)) (t1 : (List T35)) (t5 : Int) (kn : Int → Option R) (k1 : Option R) (k2 : Option R) (t6 : Int) : Option R :=
  (idx t0 t5).bind fun x11 =>
  bif (decide (t6 < (List.length x11.2.2.1 : Int))) then
    (idx t0 t5).bind fun x12 =>
    (idx x12.2.2.1 t6).bind fun x13 =>
    (idx t1 t5).bind fun x14 =>
    (idx x14.2.2.1 t6).bind fun x15 =>
    bif (!(x13 == x15)) then
      k2
    else
      kn (IntKind.i64.wrap (t6 + 1))
  else
    k1
noncomputable def l11_1 {R : Type} (t0 : (List T35)) (t1 : (List T35)) (t5 : Int) (k1 : Option R) (k2 : Option R) : Nat → Int → Option R
  | 0, _ => none
  | n + 1, t6 => s11_1 t0 t1 t5 (l11_1 t0 t1 t5 k1 k2 n) k1 k2 t6
noncomputable def L11_1 : LE := ⟨10, 0, ⟨[(0, (.dat (.sl G35))), (1, (.dat (.sl G35))), (5, (.dat (.int .i64))), (6, (.dat (.int .i64)))], []⟩, fun R n x k => l11_1 x.1.1 x.1.2.1 x.1.2.2.1 (k (.exit 2) ⟨[(0, (.dat (.sl G35) x.1.1)), (1, (.dat (.sl G35) x.1.2.1)), (5, (.dat (.int .i64) x.1.2.2.1))], []⟩) (k .ret ⟨[(4, (.dat .bool false))], []⟩) n x.1.2.2.2.1⟩
/-- a round of a loop of consol/consolref31.Same -/
noncomputable def s11_2 {R : Type} (t0 : (List T35)) (t1 : (List T35)) (kn : Int → Option R) (k1 : Option R) (k2 : Option R) (t5 : Int) : Option R :=
  bif (decide (t5 < (List.length t0 : Int))) then
    (idx t0 t5).bind fun x1 =>
    (idx t1 t5).bind fun x2 =>
    (idxG ((x1.1 != x2.1) == false) (0, 0, ([] : (List Bool)), 0, 0, ()) t0 t5).bind fun x3 =>
    (idxG ((x1.1 != x2.1) == false) (0, 0, ([] : (List Bool)), 0, 0, ()) t1 t5).bind fun x4 =>
    (idxG (((x1.1 != x2.1) || (x3.2.1 != x4.2.1)) == false) (0, 0, ([] : (List Bool)), 0, 0, ()) t0 t5).bind fun x5 =>
    (idxG (((x1.1 != x2.1) || (x3.2.1 != x4.2.1)) == false) (0, 0, ([] : (List Bool)), 0, 0, ()) t1 t5).bind fun x6 =>
    (idxG ((((x1.1 != x2.1) || (x3.2.1 != x4.2.1)) || (x5.2.2.2.1 != x6.2.2.2.1)) == false) (0, 0, ([] : (List Bool)), 0, 0, ()) t0 t5).bind fun x7 =>
    (idxG ((((x1.1 != x2.1) || (x3.2.1 != x4.2.1)) || (x5.2.2.2.1 != x6.2.2.2.1)) == false) (0, 0, ([] : (List Bool)), 0, 0, ()) t1 t5).bind fun x8 =>
    (idxG (((((x1.1 != x2.1) || (x3.2.1 != x4.2.1)) || (x5.2.2.2.1 != x6.2.2.2.1)) || (x7.2.2.2.2.1 != x8.2.2.2.2.1)) == false) (0, 0, ([] : (List Bool)), 0, 0, ()) t0 t5).bind fun x9 =>
    (idxG (((((x1.1 != x2.1) || (x3.2.1 != x4.2.1)) || (x5.2.2.2.1 != x6.2.2.2.1)) || (x7.2.2.2.2.1 != x8.2.2.2.2.1)) == false) (0, 0, ([] : (List Bool)), 0, 0, ()) t1 t5).bind fun x10 =>
    bif (((((x1.1 != x2.1) || (x3.2.1 != x4.2.1)) || (x5.2.2.2.1 != x6.2.2.2.1)) || (x7.2.2.2.2.1 != x8.2.2.2.2.1)) || ((List.length x9.2.2.1 : Int) != (List.length x10.2.2.1 : Int))) then
      k2
    else
      l11_1 t0 t1 t5 (
          kn (IntKind.i64.wrap (t5 + 1))) (
          k2) FUEL 0
  else
    k1
noncomputable def l11_2 {R : Type} (t0 : (List T35)) (t1 : (List T35)) (k1 : Option R) (k2 : Option R) : Nat → Int → Option R
  | 0, _ => none
  | n + 1, t5 => s11_2 t0 t1 (l11_2 t0 t1 k1 k2 n) k1 k2 t5
noncomputable def L11_2 : LE := ⟨5, 0, ⟨[(0, (.dat (.sl G35))), (1, (.dat (.sl G35))), (5, (.dat (.int .i64)))], []⟩, fun R n x k => l11_2 x.1.1 x.1.2.1 (k (.exit 0) ⟨[], []⟩) (k .ret ⟨[(4, (.dat .bool false))], []⟩) n x.1.2.2.1⟩
noncomputable def C11 : Cfg := mkCfg [(5, ⟨[0, 1, 5], [], []⟩), (10, ⟨[0, 1, 5, 6], [], []⟩)] [(5, (⟨[], [], []⟩, ⟨[4], [], []⟩)), (10, (⟨[0, 1, 5], [], []⟩, ⟨[4], [], []⟩))] (([(1, L11_1), (0, L11_2)] : List (Nat × LE)).map (·.2))
theorem ek11_1 : EOk E11 C11 Try.f11.ntmps (bodyL Try.f11 1) L11_1 := eok_of (e := L11_1) (fun R x Kn k => s11_1 x.1.1 x.1.2.1 x.1.2.2.1 (fun v0 => Kn ((x.1.1, x.1.2.1, x.1.2.2.1, v0, ()), (()))) (k (.exit 2) ⟨[(0, (.dat (.sl G35) x.1.1)), (1, (.dat (.sl G35) x.1.2.1)), (5, (.dat (.int .i64) x.1.2.2.1))], []⟩) (k .ret ⟨[(4, (.dat .bool false))], []⟩) x.1.2.2.2.1) (fun _ _ _ => rfl) (fun _ _ _ _ => rfl) (fun R x Kn k => by kernel_rfl)
theorem ek11_2 : EOk E11 C11 Try.f11.ntmps (bodyL Try.f11 0) L11_2 := eok_of (e := L11_2) (fun R x Kn k => s11_2 x.1.1 x.1.2.1 (fun v0 => Kn ((x.1.1, x.1.2.1, v0, ()), (()))) (k (.exit 0) ⟨[], []⟩) (k .ret ⟨[(4, (.dat .bool false))], []⟩) x.1.2.2.1) (fun _ _ _ => rfl) (fun _ _ _ _ => rfl) (fun R x Kn k => by kernel_rfl)
theorem lm11 : ∀ c, Try.f11.body = some c → LmOk E11 C11 Try.f11.ntmps c := lmOk_of (ps := [(1, L11_1), (0, L11_2)]) (by kernel_rfl) (by kernel_rfl) ⟨ek11_1, ek11_2, trivial⟩
noncomputable def m11 (a0 : (List T35)) (a1 : (List T35)) : Option (Bool) :=
  bif ((List.length a0 : Int) != (List.length a1 : Int)) then
    some false
  else
    l11_2 a0 a1 (
        some true) (
        some false) FUEL 0
noncomputable def e11 : PmE := entry 11 [(.sl G35), (.sl G35)] false .bool (fun x => m11 x.1 x.2.1)
theorem q11 (x : tyL [(.sl G35), (.sl G35)]) : execF E11 C11 Try.f11 (datL [(.sl G35), (.sl G35)] x) [] (retK false .bool) = m11 x.1 x.2.1 := by kernel_rfl
theorem p11 : PmOk Try.prog e11 := pm_ok (E := E11) ok11 ord lm11 Try.func11 ca11 q11

/-! 13: consol/consolref31.Open -/
theorem ca13 : callable Try.prog 13 := ⟨Try.f13, Try.func13, by kernel_rfl, by kernel_rfl⟩
noncomputable def E13 : Env := mkEnv2 Try.prog [e15] []
theorem ok13 : EnvOk E13 := mkEnv2_ok (by simp only [List.mem_cons, List.not_mem_nil, or_false, forall_eq]; exact p15) (by simp)
/-- a round of a loop of consol/consolref31.Open -/
noncomputable def s13_1 {R : Type} (t0 : (List T35)) (t1 : Int) (t2 : Int) (kn : Int → Int → Option R) (k1 : Int → Option R) (t7 : Int) (t8 : Int) : Option R :=
  (bif ((decide (t8 < (List.length t0 : Int))) == true) then (m15 t0) else some false).bind fun r1 =>
  bif ((decide (t8 < (List.length t0 : Int))) && r1) then
    cont (fun (k4 : Int → _) =>
      (idx t0 t8).bind fun x2 =>
      bif (((x2.1 != t1) || (decide (t2 < 0))) || (decide (t2 ≥ (List.length x2.2.2.1 : Int)))) then
        k4 t7
      else
        (idx x2.2.2.1 t2).bind fun x3 =>
        bif (!x3) then
          k4 (IntKind.i64.wrap (t7 + x2.2.1))
        else
          k4 t7) fun y4 =>
    kn y4 (IntKind.i64.wrap (t8 + 1))
  else
    k1 t7
noncomputable def l13_1 {R : Type} (t0 : (List T35)) (t1 : Int) (t2 : Int) (k1 : Int → Option R) : Nat → Int → Int → Option R
  | 0, _, _ => none
  | n + 1, t7, t8 => s13_1 t0 t1 t2 (l13_1 t0 t1 t2 k1 n) k1 t7 t8
noncomputable def L13_1 : LE := ⟨4, 0, ⟨[(0, (.dat (.sl G35))), (1, (.dat (.int .i64))), (2, (.dat (.int .i64))), (7, (.dat (.int .i64))), (8, (.dat (.int .i64)))], []⟩, fun R n x k => l13_1 x.1.1 x.1.2.1 x.1.2.2.1 (fun y0 => k (.exit 0) ⟨[(7, (.dat (.int .i64) y0))], []⟩) n x.1.2.2.2.1 x.1.2.2.2.2.1⟩
noncomputable def C13 : Cfg := mkCfg [(4, ⟨[0, 1, 2, 7, 8], [], []⟩), (5, ⟨[0, 1, 2, 7, 8], [], []⟩)] [(4, (⟨[7], [], []⟩, ⟨[6], [], []⟩))] (([(0, L13_1)] : List (Nat × LE)).map (·.2))
theorem ek13_1 : EOk E13 C13 Try.f13.ntmps (bodyL Try.f13 0) L13_1 := eok_of (e := L13_1) (fun R x Kn k => s13_1 x.1.1 x.1.2.1 x.1.2.2.1 (fun v0 v1 => Kn ((x.1.1, x.1.2.1, x.1.2.2.1, v0, v1, ()), (()))) (fun y0 => k (.exit 0) ⟨[(7, (.dat (.int .i64) y0))], []⟩) x.1.2.2.2.1 x.1.2.2.2.2.1) (fun _ _ _ => rfl) (fun _ _ _ _ => rfl) (fun R x Kn k => by kernel_rfl)
theorem lm13 : ∀ c, Try.f13.body = some c → LmOk E13 C13 Try.f13.ntmps c := lmOk_of (ps := [(0, L13_1)]) (by kernel_rfl) (by kernel_rfl) ⟨ek13_1, trivial⟩
noncomputable def m13 (a0 : (List T35)) (a1 : Int) (a2 : Int) : Option (Int) :=
  l13_1 a0 a1 a2 (fun y5 =>
      some y5) FUEL 0 0
noncomputable def e13 : PmE := entry 13 [(.sl G35), (.int .i64), (.int .i64)] false (.int .i64) (fun x => m13 x.1 x.2.1 x.2.2.1)
theorem q13 (x : tyL [(.sl G35), (.int .i64), (.int .i64)]) : execF E13 C13 Try.f13 (datL [(.sl G35), (.int .i64), (.int .i64)] x) [] (retK false (.int .i64)) = m13 x.1 x.2.1 x.2.2.1 := by kernel_rfl
theorem p13 : PmOk Try.prog e13 := pm_ok (E := E13) ok13 ord lm13 Try.func13 ca13 q13

/-! 3: consol/consollaw31.BearerTells -/
theorem ca3 : callable Try.prog 3 := ⟨Try.f3, Try.func3, by kernel_rfl, by kernel_rfl⟩
noncomputable def E3 : Env := mkEnv2 Try.prog [e7, e8, e9, e10, e11, e12, e13, e14, e15] []
theorem ok3 : EnvOk E3 := mkEnv2_ok (by simp only [List.mem_cons, List.not_mem_nil, or_false, forall_eq_or_imp, forall_eq]; exact ⟨p7, p8, p9, p10, p11, p12, p13, p14, p15⟩) (by simp)
/-- a round of a loop of consol/consollaw31.BearerTells -/
noncomputable def s3_1 {R : Type} (t1 : (List T26)) (t2 : Int) (t3 : Int) (kn : (List T35) → Int → Option R) (k1 : Option R) (k2 : Option R) (t10 : (List T35)) (t11 : Int) : Option R :=
  bif (decide (t11 < (List.length t1 : Int))) then
    (idx t1 t11).bind fun x3 =>
    (m9 t10 ((IntKind.i64.wrap ((BitVec.ofInt IntKind.i64.bits x3.1 &&& BitVec.ofInt IntKind.i64.bits 3).toNat)), x3.2.1, x3.2.2.1, x3.2.2.2.1, x3.2.2.2.2.1, ())).bind fun r4 =>
    (m10 t10 ((IntKind.i64.wrap ((BitVec.ofInt IntKind.i64.bits x3.1 &&& BitVec.ofInt IntKind.i64.bits 3).toNat)), x3.2.1, x3.2.2.1, x3.2.2.2.1, x3.2.2.2.2.1, ())).bind fun r5 =>
    (bif (((r4.2.2.1 != r5.2.2.1) || (r4.2.1 != r5.2.1)) == false) then (m11 r4.1 r5.1) else some false).bind fun r6 =>
    bif (((r4.2.2.1 != r5.2.2.1) || (r4.2.1 != r5.2.1)) || (!r6)) then
      k2
    else
      cont (fun (k7 : (List T35) → _) =>
        bif (r4.2.2.1 == 0) then
          k7 r4.1
        else
          k7 t10) fun y7 =>
      (m12 y7 t2 t3).bind fun r8 =>
      (m13 y7 t2 t3).bind fun r9 =>
      (bif ((r8 != r9) == false) then (m14 y7) else some false).bind fun r10 =>
      (bif ((r8 != r9) == false) then (m15 y7) else some false).bind fun r11 =>
      bif ((r8 != r9) || (!(r10 == r11))) then
        k2
      else
        kn y7 (IntKind.i64.wrap (t11 + 1))
  else
    k1
noncomputable def l3_1 {R : Type} (t1 : (List T26)) (t2 : Int) (t3 : Int) (k1 : Option R) (k2 : Option R) : Nat → (List T35) → Int → Option R
  | 0, _, _ => none
  | n + 1, t10, t11 => s3_1 t1 t2 t3 (l3_1 t1 t2 t3 k1 k2 n) k1 k2 t10 t11
noncomputable def L3_1 : LE := ⟨7, 0, ⟨[(0, (.dat (.sl G35))), (1, (.dat (.sl G26))), (2, (.dat (.int .i64))), (3, (.dat (.int .i64))), (9, (.dat .bool)), (10, (.dat (.sl G35))), (11, (.dat (.int .i64)))], []⟩, fun R n x k => l3_1 x.1.2.1 x.1.2.2.1 x.1.2.2.2.1 (k (.exit 0) ⟨[(0, (.dat (.sl G35) x.1.1)), (2, (.dat (.int .i64) x.1.2.2.1)), (3, (.dat (.int .i64) x.1.2.2.2.1)), (9, (.dat .bool x.1.2.2.2.2.1))], []⟩) (k .ret ⟨[(8, (.dat .bool false))], []⟩) n x.1.2.2.2.2.2.1 x.1.2.2.2.2.2.2.1⟩
noncomputable def C3 : Cfg := mkCfg [(7, ⟨[0, 1, 2, 3, 9, 10, 11], [], []⟩), (8, ⟨[0, 1, 2, 3, 9, 10, 11], [], []⟩), (17, ⟨[0, 1, 2, 3, 9, 10, 11], [], []⟩)] [(7, (⟨[0, 2, 3, 9], [], []⟩, ⟨[8], [], []⟩))] (([(0, L3_1)] : List (Nat × LE)).map (·.2))
theorem ek3_1 : EOk E3 C3 Try.f3.ntmps (bodyL Try.f3 0) L3_1 := eok_of (e := L3_1) (fun R x Kn k => s3_1 x.1.2.1 x.1.2.2.1 x.1.2.2.2.1 (fun v0 v1 => Kn ((x.1.1, x.1.2.1, x.1.2.2.1, x.1.2.2.2.1, x.1.2.2.2.2.1, v0, v1, ()), (()))) (k (.exit 0) ⟨[(0, (.dat (.sl G35) x.1.1)), (2, (.dat (.int .i64) x.1.2.2.1)), (3, (.dat (.int .i64) x.1.2.2.2.1)), (9, (.dat .bool x.1.2.2.2.2.1))], []⟩) (k .ret ⟨[(8, (.dat .bool false))], []⟩) x.1.2.2.2.2.2.1 x.1.2.2.2.2.2.2.1) (fun _ _ _ => rfl) (fun _ _ _ _ => rfl) (fun R x Kn k => by kernel_rfl)
theorem lm3 : ∀ c, Try.f3.body = some c → LmOk E3 C3 Try.f3.ntmps c := lmOk_of (ps := [(0, L3_1)]) (by kernel_rfl) (by kernel_rfl) ⟨ek3_1, trivial⟩
noncomputable def m3 (a0 : (List T35)) (a1 : (List T26)) (a2 : Int) (a3 : Int) : Option (Bool) :=
  (m7).bind fun r1 =>
  (m8 a0).bind fun r2 =>
  bif ((!r2) || (decide ((List.length a1 : Int) > 30))) then
    some r1
  else
    l3_1 a1 a2 a3 (
        (bif (r1 == true) then (m12 a0 a2 a3) else some 0).bind fun r12 =>
        (bif (r1 == true) then (m13 a0 a2 a3) else some 0).bind fun r13 =>
        (bif ((r1 && (r12 == r13)) == true) then (m14 a0) else some false).bind fun r14 =>
        (bif ((r1 && (r12 == r13)) == true) then (m15 a0) else some false).bind fun r15 =>
        some ((r1 && (r12 == r13)) && (r14 == r15))) (
        some false) FUEL a0 0
noncomputable def e3 : PmE := entry 3 [(.sl G35), (.sl G26), (.int .i64), (.int .i64)] false .bool (fun x => m3 x.1 x.2.1 x.2.2.1 x.2.2.2.1)
noncomputable def V3 (mo7 : Option (Bool)) : Env := mkEnv2 Try.prog [(entry 7 [] false .bool (fun _ => mo7)), e8, e9, e10, e11, e12, e13, e14, e15] []
theorem qv3 (mo7 : Option (Bool)) (x : tyL [(.sl G35), (.sl G26), (.int .i64), (.int .i64)]) : execF (V3 mo7) C3 Try.f3 (datL [(.sl G35), (.sl G26), (.int .i64), (.int .i64)] x) [] (retK false .bool) = (fun (a0 : (List T35)) (a1 : (List T26)) (a2 : Int) (a3 : Int) =>
  (mo7).bind fun r1 =>
  (m8 a0).bind fun r2 =>
  bif ((!r2) || (decide ((List.length a1 : Int) > 30))) then
    some r1
  else
    l3_1 a1 a2 a3 (
        (bif (r1 == true) then (m12 a0 a2 a3) else some 0).bind fun r12 =>
        (bif (r1 == true) then (m13 a0 a2 a3) else some 0).bind fun r13 =>
        (bif ((r1 && (r12 == r13)) == true) then (m14 a0) else some false).bind fun r14 =>
        (bif ((r1 && (r12 == r13)) == true) then (m15 a0) else some false).bind fun r15 =>
        some ((r1 && (r12 == r13)) && (r14 == r15))) (
        some false) FUEL a0 0) x.1 x.2.1 x.2.2.1 x.2.2.2.1 := by kernel_rfl
theorem q3 (x : tyL [(.sl G35), (.sl G26), (.int .i64), (.int .i64)]) : execF E3 C3 Try.f3 (datL [(.sl G35), (.sl G26), (.int .i64), (.int .i64)] x) [] (retK false .bool) = m3 x.1 x.2.1 x.2.2.1 x.2.2.2.1 := qv3 m7 x
theorem p3 : PmOk Try.prog e3 := pm_ok (E := E3) ok3 ord lm3 Try.func3 ca3 q3

/-! 4: consol/consollaw31.BearerOnce -/
theorem ca4 : callable Try.prog 4 := ⟨Try.f4, Try.func4, by kernel_rfl, by kernel_rfl⟩
noncomputable def E4 : Env := mkEnv2 Try.prog [e7, e8, e9, e12, e14] []
theorem ok4 : EnvOk E4 := mkEnv2_ok (by simp only [List.mem_cons, List.not_mem_nil, or_false, forall_eq_or_imp, forall_eq]; exact ⟨p7, p8, p9, p12, p14⟩) (by simp)
/-- a round of a loop of consol/consollaw31.BearerOnce -/
noncomputable def s4_1 {R : Type} (o0 : (List T26)) (o1 : T26) (kn : Int → Option R) (k1 : Option R) (k2 : Option R) (t13 : Int) : Option R :=
  bif (decide (t13 < (List.length o0 : Int))) then
    asrt true (decide (0 ≤ t13) && decide (t13 < (List.length o0 : Int))) (
      ((o0)[(t13 : Int).toNat]?).bind fun x10 =>
      asrt ((x10.2.1 == o1.2.1) == true) (decide (0 ≤ t13) && decide (t13 < (List.length o0 : Int))) (
        ((bif ((x10.2.1 == o1.2.1) == true) then (o0)[(t13 : Int).toNat]? else some (0, 0, 0, 0, 0, ()))).bind fun x11 =>
        bif ((x10.2.1 == o1.2.1) && (x11.2.2.1 == o1.2.2.1)) then
          k2
        else
          kn (IntKind.i64.wrap (t13 + 1))))
  else
    k1
noncomputable def l4_1 {R : Type} (o0 : (List T26)) (o1 : T26) (k1 : Option R) (k2 : Option R) : Nat → Int → Option R
  | 0, _ => none
  | n + 1, t13 => s4_1 o0 o1 (l4_1 o0 o1 k1 k2 n) k1 k2 t13
noncomputable def L4_1 : LE := ⟨27, 0, ⟨[(0, (.dat (.sl G35))), (1, (.dat (.sl G26))), (5, (.dat .bool)), (7, (.own 0)), (8, (.dat (.int .i64))), (9, (.box 1 [] 0)), (10, (.dat (.sl G35))), (13, (.dat (.int .i64)))], [(.arr G26), (.box (.dat G26))]⟩, fun R n x k => l4_1 x.2.1 x.2.2.1 (k (.exit 2) ⟨[(0, (.dat (.sl G35) x.1.1)), (1, (.dat (.sl G26) x.1.2.1)), (5, (.dat .bool x.1.2.2.1)), (7, (.own 0)), (8, (.dat (.int .i64) x.1.2.2.2.2.1)), (9, (.box 1 [] 0)), (10, (.dat (.sl G35) x.1.2.2.2.2.2.2.1))], [(.arr G26 x.2.1), (.box (.dat G26 x.2.2.1))]⟩) (k .ret ⟨[(4, (.dat .bool false))], []⟩) n x.1.2.2.2.2.2.2.2.1⟩
/-- a round of a loop of consol/consollaw31.BearerOnce -/
noncomputable def s4_2 {R : Type} (t0 : (List T35)) (t1 : (List T26)) (kn : (List T35) → Int → (List T26) → Option R) (k1 : (List T35) → (List T26) → Option R) (k2 : Option R) (t6 : (List T35)) (t8 : Int) (o0 : (List T26)) : Option R :=
  bif (decide (t8 < (List.length t1 : Int))) then
    cont (fun (k12 : ((List T35) × (List T26)) → _) =>
      (idx t1 t8).bind fun x4 =>
      (m9 t6 ((IntKind.i64.wrap ((BitVec.ofInt IntKind.i64.bits x4.1 &&& BitVec.ofInt IntKind.i64.bits 3).toNat)), x4.2.1, x4.2.2.1, x4.2.2.2.1, x4.2.2.2.2.1, ())).bind fun r5 =>
      bif (r5.2.2.1 != 0) then
        bif ((r5.2.1 != 0) || ((List.length r5.1 : Int) != 0)) then
          k2
        else
          k12 (t6, o0)
      else
        (bif (((List.length r5.1 : Int) != (List.length t0 : Int)) == false) then (m14 r5.1) else some false).bind fun r6 =>
        bif (((List.length r5.1 : Int) != (List.length t0 : Int)) || (!r6)) then
          k2
        else
          bif ((IntKind.i64.wrap ((BitVec.ofInt IntKind.i64.bits x4.1 &&& BitVec.ofInt IntKind.i64.bits 3).toNat)) != 0) then
            bif (r5.2.1 != 0) then
              k2
            else
              k12 (r5.1, o0)
          else
            (idx t0 x4.2.1).bind fun x7 =>
            bif (r5.2.1 != x7.2.1) then
              k2
            else
              (idx t0 x4.2.1).bind fun x8 =>
              (idx x8.2.2.1 x4.2.2.1).bind fun x9 =>
              bif x9 then
                k2
              else
                l4_1 o0 ((IntKind.i64.wrap ((BitVec.ofInt IntKind.i64.bits x4.1 &&& BitVec.ofInt IntKind.i64.bits 3).toNat)), x4.2.1, x4.2.2.1, x4.2.2.2.1, x4.2.2.2.2.1, ()) (
                    asrt true (decide (List.length (α := T26) o0 + List.length (α := T26) [((IntKind.i64.wrap ((BitVec.ofInt IntKind.i64.bits x4.1 &&& BitVec.ofInt IntKind.i64.bits 3).toNat)), x4.2.1, x4.2.2.1, x4.2.2.2.1, x4.2.2.2.2.1, ())] ≤ LIM)) (
                      k12 (r5.1, (o0 ++ [((IntKind.i64.wrap ((BitVec.ofInt IntKind.i64.bits x4.1 &&& BitVec.ofInt IntKind.i64.bits 3).toNat)), x4.2.1, x4.2.2.1, x4.2.2.2.1, x4.2.2.2.2.1, ())])))) (
                    k2) FUEL 0) fun y12 =>
    kn y12.1 (IntKind.i64.wrap (t8 + 1)) y12.2
  else
    k1 t6 o0
noncomputable def l4_2 {R : Type} (t0 : (List T35)) (t1 : (List T26)) (k1 : (List T35) → (List T26) → Option R) (k2 : Option R) : Nat → (List T35) → Int → (List T26) → Option R
  | 0, _, _, _ => none
  | n + 1, t6, t8, o0 => s4_2 t0 t1 (l4_2 t0 t1 k1 k2 n) k1 k2 t6 t8 o0
noncomputable def L4_2 : LE := ⟨8, 0, ⟨[(0, (.dat (.sl G35))), (1, (.dat (.sl G26))), (5, (.dat .bool)), (6, (.dat (.sl G35))), (7, (.own 0)), (8, (.dat (.int .i64)))], [(.arr G26)]⟩, fun R n x k => l4_2 x.1.1 x.1.2.1 (fun y0 y1 => k (.exit 0) ⟨[(0, (.dat (.sl G35) x.1.1)), (5, (.dat .bool x.1.2.2.1)), (6, (.dat (.sl G35) y0)), (7, (.own 0))], [(.arr G26 y1)]⟩) (k .ret ⟨[(4, (.dat .bool false))], []⟩) n x.1.2.2.2.1 x.1.2.2.2.2.2.1 x.2.1⟩
/-- a round of a loop of consol/consollaw31.BearerOnce -/
noncomputable def s4_3 {R : Type} (t0 : (List T35)) (t14 : Int) (t15 : Int) (o0 : (List T26)) (kn : Int → Int → Option R) (k1 : Int → Option R) (t16 : Int) (t17 : Int) : Option R :=
  bif (decide (t17 < (List.length o0 : Int))) then
    cont (fun (k22 : Int → _) =>
      asrt true (decide (0 ≤ t17) && decide (t17 < (List.length o0 : Int))) (
        ((o0)[(t17 : Int).toNat]?).bind fun x16 =>
        (idx t0 x16.2.1).bind fun x17 =>
        (idx t0 t14).bind fun x18 =>
        asrt ((x17.1 == x18.1) == true) (decide (0 ≤ t17) && decide (t17 < (List.length o0 : Int))) (
          ((bif ((x17.1 == x18.1) == true) then (o0)[(t17 : Int).toNat]? else some (0, 0, 0, 0, 0, ()))).bind fun x19 =>
          bif ((x17.1 == x18.1) && (x19.2.2.1 == t15)) then
            asrt true (decide (0 ≤ t17) && decide (t17 < (List.length o0 : Int))) (
              ((o0)[(t17 : Int).toNat]?).bind fun x20 =>
              (idx t0 x20.2.1).bind fun x21 =>
              k22 (IntKind.i64.wrap (t16 + x21.2.1)))
          else
            k22 t16))) fun y22 =>
    kn y22 (IntKind.i64.wrap (t17 + 1))
  else
    k1 t16
noncomputable def l4_3 {R : Type} (t0 : (List T35)) (t14 : Int) (t15 : Int) (o0 : (List T26)) (k1 : Int → Option R) : Nat → Int → Int → Option R
  | 0, _, _ => none
  | n + 1, t16, t17 => s4_3 t0 t14 t15 o0 (l4_3 t0 t14 t15 o0 k1 n) k1 t16 t17
noncomputable def L4_3 : LE := ⟨41, 0, ⟨[(0, (.dat (.sl G35))), (5, (.dat .bool)), (6, (.dat (.sl G35))), (7, (.own 0)), (14, (.dat (.int .i64))), (15, (.dat (.int .i64))), (16, (.dat (.int .i64))), (17, (.dat (.int .i64)))], [(.arr G26)]⟩, fun R n x k => l4_3 x.1.1 x.1.2.2.2.2.1 x.1.2.2.2.2.2.1 x.2.1 (fun y0 => k (.exit 8) ⟨[(0, (.dat (.sl G35) x.1.1)), (5, (.dat .bool x.1.2.1)), (6, (.dat (.sl G35) x.1.2.2.1)), (7, (.own 0)), (14, (.dat (.int .i64) x.1.2.2.2.2.1)), (15, (.dat (.int .i64) x.1.2.2.2.2.2.1)), (16, (.dat (.int .i64) y0))], [(.arr G26 x.2.1)]⟩) n x.1.2.2.2.2.2.2.1 x.1.2.2.2.2.2.2.2.1⟩
/-- a round of a loop of consol/consollaw31.BearerOnce -/
noncomputable def s4_4 {R : Type} (t0 : (List T35)) (t6 : (List T35)) (t14 : Int) (o0 : (List T26)) (kn : Int → Option R) (k1 : Option R) (k2 : Option R) (t15 : Int) : Option R :=
  (idx t0 t14).bind fun x15 =>
  bif (decide (t15 < (List.length x15.2.2.1 : Int))) then
    l4_3 t0 t14 t15 o0 (fun y23 =>
        (idx t0 t14).bind fun x24 =>
        (m12 t6 x24.1 t15).bind fun r25 =>
        (idx t0 t14).bind fun x26 =>
        (m12 t0 x26.1 t15).bind fun r27 =>
        bif ((IntKind.i64.wrap (y23 + r25)) != r27) then
          k2
        else
          kn (IntKind.i64.wrap (t15 + 1))) FUEL 0 0
  else
    k1
noncomputable def l4_4 {R : Type} (t0 : (List T35)) (t6 : (List T35)) (t14 : Int) (o0 : (List T26)) (k1 : Option R) (k2 : Option R) : Nat → Int → Option R
  | 0, _ => none
  | n + 1, t15 => s4_4 t0 t6 t14 o0 (l4_4 t0 t6 t14 o0 k1 k2 n) k1 k2 t15
noncomputable def L4_4 : LE := ⟨37, 0, ⟨[(0, (.dat (.sl G35))), (5, (.dat .bool)), (6, (.dat (.sl G35))), (7, (.own 0)), (14, (.dat (.int .i64))), (15, (.dat (.int .i64)))], [(.arr G26)]⟩, fun R n x k => l4_4 x.1.1 x.1.2.2.1 x.1.2.2.2.2.1 x.2.1 (k (.exit 6) ⟨[(0, (.dat (.sl G35) x.1.1)), (5, (.dat .bool x.1.2.1)), (6, (.dat (.sl G35) x.1.2.2.1)), (7, (.own 0)), (14, (.dat (.int .i64) x.1.2.2.2.2.1))], [(.arr G26 x.2.1)]⟩) (k .ret ⟨[(4, (.dat .bool false))], []⟩) n x.1.2.2.2.2.2.1⟩
/-- a round of a loop of consol/consollaw31.BearerOnce -/
noncomputable def s4_5 {R : Type} (t0 : (List T35)) (t6 : (List T35)) (o0 : (List T26)) (kn : Int → Option R) (k1 : Option R) (k2 : Option R) (t14 : Int) : Option R :=
  bif (decide (t14 < (List.length t0 : Int))) then
    l4_4 t0 t6 t14 o0 (
        kn (IntKind.i64.wrap (t14 + 1))) (
        k2) FUEL 0
  else
    k1
noncomputable def l4_5 {R : Type} (t0 : (List T35)) (t6 : (List T35)) (o0 : (List T26)) (k1 : Option R) (k2 : Option R) : Nat → Int → Option R
  | 0, _ => none
  | n + 1, t14 => s4_5 t0 t6 o0 (l4_5 t0 t6 o0 k1 k2 n) k1 k2 t14
noncomputable def L4_5 : LE := ⟨34, 0, ⟨[(0, (.dat (.sl G35))), (5, (.dat .bool)), (6, (.dat (.sl G35))), (7, (.own 0)), (14, (.dat (.int .i64)))], [(.arr G26)]⟩, fun R n x k => l4_5 x.1.1 x.1.2.2.1 x.2.1 (k (.exit 4) ⟨[(5, (.dat .bool x.1.2.1))], []⟩) (k .ret ⟨[(4, (.dat .bool false))], []⟩) n x.1.2.2.2.2.1⟩
noncomputable def C4 : Cfg := mkCfg [(8, ⟨[0, 1, 5, 6, 7, 8], [(7, [], G26)], []⟩), (9, ⟨[0, 1, 5, 6, 7, 8], [(7, [], G26)], []⟩), (27, ⟨[0, 1, 5, 7, 8, 9, 10, 13], [], []⟩), (34, ⟨[0, 5, 6, 7, 14], [], []⟩), (37, ⟨[0, 5, 6, 7, 14, 15], [], []⟩), (41, ⟨[0, 5, 6, 7, 14, 15, 16, 17], [], []⟩), (42, ⟨[0, 5, 6, 7, 14, 15, 16, 17], [], []⟩)] [(8, (⟨[0, 5, 6, 7], [], []⟩, ⟨[4], [], []⟩)), (27, (⟨[0, 1, 5, 7, 8, 9, 10], [], []⟩, ⟨[4], [], []⟩)), (34, (⟨[5], [], []⟩, ⟨[4], [], []⟩)), (37, (⟨[0, 5, 6, 7, 14], [], []⟩, ⟨[4], [], []⟩)), (41, (⟨[0, 5, 6, 7, 14, 15, 16], [], []⟩, ⟨[4], [], []⟩))] (([(1, L4_1), (0, L4_2), (4, L4_3), (3, L4_4), (2, L4_5)] : List (Nat × LE)).map (·.2))
theorem ek4_1 : EOk E4 C4 Try.f4.ntmps (bodyL Try.f4 1) L4_1 := eok_of (e := L4_1) (fun R x Kn k => s4_1 x.2.1 x.2.2.1 (fun v0 => Kn ((x.1.1, x.1.2.1, x.1.2.2.1, (), x.1.2.2.2.2.1, (), x.1.2.2.2.2.2.2.1, v0, ()), (x.2.1, x.2.2.1, ()))) (k (.exit 2) ⟨[(0, (.dat (.sl G35) x.1.1)), (1, (.dat (.sl G26) x.1.2.1)), (5, (.dat .bool x.1.2.2.1)), (7, (.own 0)), (8, (.dat (.int .i64) x.1.2.2.2.2.1)), (9, (.box 1 [] 0)), (10, (.dat (.sl G35) x.1.2.2.2.2.2.2.1))], [(.arr G26 x.2.1), (.box (.dat G26 x.2.2.1))]⟩) (k .ret ⟨[(4, (.dat .bool false))], []⟩) x.1.2.2.2.2.2.2.2.1) (fun _ _ _ => rfl) (fun _ _ _ _ => rfl) (fun R x Kn k => by kernel_rfl)
theorem ek4_2 : EOk E4 C4 Try.f4.ntmps (bodyL Try.f4 0) L4_2 := eok_of (e := L4_2) (fun R x Kn k => s4_2 x.1.1 x.1.2.1 (fun v0 v1 v2 => Kn ((x.1.1, x.1.2.1, x.1.2.2.1, v0, (), v1, ()), (v2, ()))) (fun y0 y1 => k (.exit 0) ⟨[(0, (.dat (.sl G35) x.1.1)), (5, (.dat .bool x.1.2.2.1)), (6, (.dat (.sl G35) y0)), (7, (.own 0))], [(.arr G26 y1)]⟩) (k .ret ⟨[(4, (.dat .bool false))], []⟩) x.1.2.2.2.1 x.1.2.2.2.2.2.1 x.2.1) (fun _ _ _ => rfl) (fun _ _ _ _ => rfl) (fun R x Kn k => by kernel_rfl)
theorem ek4_3 : EOk E4 C4 Try.f4.ntmps (bodyL Try.f4 4) L4_3 := eok_of (e := L4_3) (fun R x Kn k => s4_3 x.1.1 x.1.2.2.2.2.1 x.1.2.2.2.2.2.1 x.2.1 (fun v0 v1 => Kn ((x.1.1, x.1.2.1, x.1.2.2.1, (), x.1.2.2.2.2.1, x.1.2.2.2.2.2.1, v0, v1, ()), (x.2.1, ()))) (fun y0 => k (.exit 8) ⟨[(0, (.dat (.sl G35) x.1.1)), (5, (.dat .bool x.1.2.1)), (6, (.dat (.sl G35) x.1.2.2.1)), (7, (.own 0)), (14, (.dat (.int .i64) x.1.2.2.2.2.1)), (15, (.dat (.int .i64) x.1.2.2.2.2.2.1)), (16, (.dat (.int .i64) y0))], [(.arr G26 x.2.1)]⟩) x.1.2.2.2.2.2.2.1 x.1.2.2.2.2.2.2.2.1) (fun _ _ _ => rfl) (fun _ _ _ _ => rfl) (fun R x Kn k => by kernel_rfl)
theorem ek4_4 : EOk E4 C4 Try.f4.ntmps (bodyL Try.f4 3) L4_4 := eok_of (e := L4_4) (fun R x Kn k => s4_4 x.1.1 x.1.2.2.1 x.1.2.2.2.2.1 x.2.1 (fun v0 => Kn ((x.1.1, x.1.2.1, x.1.2.2.1, (), x.1.2.2.2.2.1, v0, ()), (x.2.1, ()))) (k (.exit 6) ⟨[(0, (.dat (.sl G35) x.1.1)), (5, (.dat .bool x.1.2.1)), (6, (.dat (.sl G35) x.1.2.2.1)), (7, (.own 0)), (14, (.dat (.int .i64) x.1.2.2.2.2.1))], [(.arr G26 x.2.1)]⟩) (k .ret ⟨[(4, (.dat .bool false))], []⟩) x.1.2.2.2.2.2.1) (fun _ _ _ => rfl) (fun _ _ _ _ => rfl) (fun R x Kn k => by kernel_rfl)
theorem ek4_5 : EOk E4 C4 Try.f4.ntmps (bodyL Try.f4 2) L4_5 := eok_of (e := L4_5) (fun R x Kn k => s4_5 x.1.1 x.1.2.2.1 x.2.1 (fun v0 => Kn ((x.1.1, x.1.2.1, x.1.2.2.1, (), v0, ()), (x.2.1, ()))) (k (.exit 4) ⟨[(5, (.dat .bool x.1.2.1))], []⟩) (k .ret ⟨[(4, (.dat .bool false))], []⟩) x.1.2.2.2.2.1) (fun _ _ _ => rfl) (fun _ _ _ _ => rfl) (fun R x Kn k => by kernel_rfl)
theorem lm4 : ∀ c, Try.f4.body = some c → LmOk E4 C4 Try.f4.ntmps c := lmOk_of (ps := [(1, L4_1), (0, L4_2), (4, L4_3), (3, L4_4), (2, L4_5)]) (by kernel_rfl) (by kernel_rfl) ⟨ek4_1, ek4_2, ek4_3, ek4_4, ek4_5, trivial⟩
noncomputable def m4 (a0 : (List T35)) (a1 : (List T26)) : Option (Bool) :=
  (m7).bind fun r1 =>
  (m8 a0).bind fun r2 =>
  (bif (((!r2) || (decide ((List.length a1 : Int) > 60))) == false) then (m14 a0) else some false).bind fun r3 =>
  bif (((!r2) || (decide ((List.length a1 : Int) > 60))) || (!r3)) then
    some r1
  else
    l4_2 a0 a1 (fun y13 y14 =>
        l4_5 a0 y13 y14 (
            some r1) (
            some false) FUEL 0) (
        some false) FUEL a0 0 []
noncomputable def e4 : PmE := entry 4 [(.sl G35), (.sl G26)] false .bool (fun x => m4 x.1 x.2.1)
noncomputable def V4 (mo7 : Option (Bool)) : Env := mkEnv2 Try.prog [(entry 7 [] false .bool (fun _ => mo7)), e8, e9, e12, e14] []
theorem qv4 (mo7 : Option (Bool)) (x : tyL [(.sl G35), (.sl G26)]) : execF (V4 mo7) C4 Try.f4 (datL [(.sl G35), (.sl G26)] x) [] (retK false .bool) = (fun (a0 : (List T35)) (a1 : (List T26)) =>
  (mo7).bind fun r1 =>
  (m8 a0).bind fun r2 =>
  (bif (((!r2) || (decide ((List.length a1 : Int) > 60))) == false) then (m14 a0) else some false).bind fun r3 =>
  bif (((!r2) || (decide ((List.length a1 : Int) > 60))) || (!r3)) then
    some r1
  else
    l4_2 a0 a1 (fun y13 y14 =>
        l4_5 a0 y13 y14 (
            some r1) (
            some false) FUEL 0) (
        some false) FUEL a0 0 []) x.1 x.2.1 := by kernel_rfl
theorem q4 (x : tyL [(.sl G35), (.sl G26)]) : execF E4 C4 Try.f4 (datL [(.sl G35), (.sl G26)] x) [] (retK false .bool) = m4 x.1 x.2.1 := qv4 m7 x
theorem p4 : PmOk Try.prog e4 := pm_ok (E := E4) ok4 ord lm4 Try.func4 ca4 q4

/-! 5: consol/consollaw31.BearerLost -/
theorem ca5 : callable Try.prog 5 := ⟨Try.f5, Try.func5, by kernel_rfl, by kernel_rfl⟩
noncomputable def E5 : Env := mkEnv2 Try.prog [e7, e8, e14, e16, e17, e18, e19] []
theorem ok5 : EnvOk E5 := mkEnv2_ok (by simp only [List.mem_cons, List.not_mem_nil, or_false, forall_eq_or_imp, forall_eq]; exact ⟨p7, p8, p14, p16, p17, p18, p19⟩) (by simp)
noncomputable def C5 : Cfg := noCfg
theorem lm5 : ∀ c, Try.f5.body = some c → LmOk E5 C5 Try.f5.ntmps c := fun _ _ => noCfg_lm
noncomputable def m5 (a0 : (List T35)) (a1 : Int) (a2 : Int) (a3 : Int) (a4 : Int) (a5 : Int) (a6 : Int) : Option (Bool) :=
  (m7).bind fun r1 =>
  (m8 a0).bind fun r2 =>
  (bif ((!r2) == false) then (m14 a0) else some false).bind fun r3 =>
  bif (((!r2) || (!r3)) || ((List.length a0 : Int) == 0)) then
    some r1
  else
    asrt true ((List.length a0 : Int) != 0) (
      (idx a0 (Int.tmod (IntKind.i64.wrap a1) (List.length a0 : Int))).bind fun x4 =>
      (idxG ((x4.2.2.2.1 != (-1)) == false) (0, 0, ([] : (List Bool)), 0, 0, ()) a0 (Int.tmod (IntKind.i64.wrap a1) (List.length a0 : Int))).bind fun x5 =>
      bif ((x4.2.2.2.1 != (-1)) || ((List.length x5.2.2.1 : Int) == 0)) then
        some r1
      else
        (idx a0 (Int.tmod (IntKind.i64.wrap a1) (List.length a0 : Int))).bind fun x6 =>
        asrt true ((List.length x6.2.2.1 : Int) != 0) (
          (idx a0 (Int.tmod (IntKind.i64.wrap a1) (List.length a0 : Int))).bind fun x7 =>
          (idx x7.2.2.1 (Int.tmod (IntKind.i64.wrap a2) (List.length x6.2.2.1 : Int))).bind fun x8 =>
          bif x8 then
            some r1
          else
            (m16 a0 (Int.tmod (IntKind.i64.wrap a1) (List.length a0 : Int)) (IntKind.i64.wrap a5)).bind fun r9 =>
            (m17 r9.1 (Int.tmod (IntKind.i64.wrap a1) (List.length a0 : Int)) (Int.tmod (IntKind.i64.wrap a2) (List.length x6.2.2.1 : Int)) (Int.tmod (IntKind.i64.wrap a3) 20000) (IntKind.i64.wrap ((IntKind.i64.wrap a5) + (IntKind.i64.wrap a6)))).bind fun r10 =>
            (m18 r9.1 (Int.tmod (IntKind.i64.wrap a1) (List.length a0 : Int)) (Int.tmod (IntKind.i64.wrap a3) 20000)).bind fun r11 =>
            (m17 r11.1 (Int.tmod (IntKind.i64.wrap a1) (List.length a0 : Int)) (Int.tmod (IntKind.i64.wrap a2) (List.length x6.2.2.1 : Int)) (Int.tmod (IntKind.i64.wrap a3) 20000) (IntKind.i64.wrap ((IntKind.i64.wrap a5) + (IntKind.i64.wrap a6)))).bind fun r12 =>
            (m17 r11.1 (Int.tmod (IntKind.i64.wrap a1) (List.length a0 : Int)) (Int.tmod (IntKind.i64.wrap a2) (List.length x6.2.2.1 : Int)) (Int.tmod (IntKind.i64.wrap a4) 20000) (IntKind.i64.wrap ((IntKind.i64.wrap a5) + (IntKind.i64.wrap a6)))).bind fun r13 =>
            (m19 r11.1 (Int.tmod (IntKind.i64.wrap a1) (List.length a0 : Int))).bind fun r14 =>
            (m17 r14.1 (Int.tmod (IntKind.i64.wrap a1) (List.length a0 : Int)) (Int.tmod (IntKind.i64.wrap a2) (List.length x6.2.2.1 : Int)) (Int.tmod (IntKind.i64.wrap a4) 20000) (IntKind.i64.wrap a5)).bind fun r15 =>
            (idxG ((((((r9.2.1 != 0) || (r10.2.2.1 != 18)) || (r11.2.1 != 0)) || (r14.2.1 != 0)) || (r15.2.2.1 != 0)) == false) (0, 0, ([] : (List Bool)), 0, 0, ()) a0 (Int.tmod (IntKind.i64.wrap a1) (List.length a0 : Int))).bind fun x16 =>
            bif ((((((r9.2.1 != 0) || (r10.2.2.1 != 18)) || (r11.2.1 != 0)) || (r14.2.1 != 0)) || (r15.2.2.1 != 0)) || (r15.2.1 != x16.2.1)) then
              some false
            else
              bif (decide ((IntKind.i64.wrap a6) < 365)) then
                some (((r1 && (r12.2.2.1 == 20)) && (r12.2.1 == 0)) && ((r13.2.2.1 == 18) || (((Int.tmod (IntKind.i64.wrap a3) 20000) == (Int.tmod (IntKind.i64.wrap a4) 20000)) && (r13.2.2.1 == 20))))
              else
                (idxG ((r1 && (r12.2.2.1 == 0)) == true) (0, 0, ([] : (List Bool)), 0, 0, ()) a0 (Int.tmod (IntKind.i64.wrap a1) (List.length a0 : Int))).bind fun x17 =>
                some (((r1 && (r12.2.2.1 == 0)) && (r12.2.1 == x17.2.1)) && ((r13.2.2.1 == 18) == ((Int.tmod (IntKind.i64.wrap a3) 20000) != (Int.tmod (IntKind.i64.wrap a4) 20000))))))
noncomputable def e5 : PmE := entry 5 [(.sl G35), (.int .u8), (.int .u8), (.int .u16), (.int .u16), (.int .u16), (.int .u16)] false .bool (fun x => m5 x.1 x.2.1 x.2.2.1 x.2.2.2.1 x.2.2.2.2.1 x.2.2.2.2.2.1 x.2.2.2.2.2.2.1)
noncomputable def V5 (mo7 : Option (Bool)) : Env := mkEnv2 Try.prog [(entry 7 [] false .bool (fun _ => mo7)), e8, e14, e16, e17, e18, e19] []
theorem qv5 (mo7 : Option (Bool)) (x : tyL [(.sl G35), (.int .u8), (.int .u8), (.int .u16), (.int .u16), (.int .u16), (.int .u16)]) : execF (V5 mo7) C5 Try.f5 (datL [(.sl G35), (.int .u8), (.int .u8), (.int .u16), (.int .u16), (.int .u16), (.int .u16)] x) [] (retK false .bool) = (fun (a0 : (List T35)) (a1 : Int) (a2 : Int) (a3 : Int) (a4 : Int) (a5 : Int) (a6 : Int) =>
  (mo7).bind fun r1 =>
  (m8 a0).bind fun r2 =>
  (bif ((!r2) == false) then (m14 a0) else some false).bind fun r3 =>
  bif (((!r2) || (!r3)) || ((List.length a0 : Int) == 0)) then
    some r1
  else
    asrt true ((List.length a0 : Int) != 0) (
      (idx a0 (Int.tmod (IntKind.i64.wrap a1) (List.length a0 : Int))).bind fun x4 =>
      (idxG ((x4.2.2.2.1 != (-1)) == false) (0, 0, ([] : (List Bool)), 0, 0, ()) a0 (Int.tmod (IntKind.i64.wrap a1) (List.length a0 : Int))).bind fun x5 =>
      bif ((x4.2.2.2.1 != (-1)) || ((List.length x5.2.2.1 : Int) == 0)) then
        some r1
      else
        (idx a0 (Int.tmod (IntKind.i64.wrap a1) (List.length a0 : Int))).bind fun x6 =>
        asrt true ((List.length x6.2.2.1 : Int) != 0) (
          (idx a0 (Int.tmod (IntKind.i64.wrap a1) (List.length a0 : Int))).bind fun x7 =>
          (idx x7.2.2.1 (Int.tmod (IntKind.i64.wrap a2) (List.length x6.2.2.1 : Int))).bind fun x8 =>
          bif x8 then
            some r1
          else
            (m16 a0 (Int.tmod (IntKind.i64.wrap a1) (List.length a0 : Int)) (IntKind.i64.wrap a5)).bind fun r9 =>
            (m17 r9.1 (Int.tmod (IntKind.i64.wrap a1) (List.length a0 : Int)) (Int.tmod (IntKind.i64.wrap a2) (List.length x6.2.2.1 : Int)) (Int.tmod (IntKind.i64.wrap a3) 20000) (IntKind.i64.wrap ((IntKind.i64.wrap a5) + (IntKind.i64.wrap a6)))).bind fun r10 =>
            (m18 r9.1 (Int.tmod (IntKind.i64.wrap a1) (List.length a0 : Int)) (Int.tmod (IntKind.i64.wrap a3) 20000)).bind fun r11 =>
            (m17 r11.1 (Int.tmod (IntKind.i64.wrap a1) (List.length a0 : Int)) (Int.tmod (IntKind.i64.wrap a2) (List.length x6.2.2.1 : Int)) (Int.tmod (IntKind.i64.wrap a3) 20000) (IntKind.i64.wrap ((IntKind.i64.wrap a5) + (IntKind.i64.wrap a6)))).bind fun r12 =>
            (m17 r11.1 (Int.tmod (IntKind.i64.wrap a1) (List.length a0 : Int)) (Int.tmod (IntKind.i64.wrap a2) (List.length x6.2.2.1 : Int)) (Int.tmod (IntKind.i64.wrap a4) 20000) (IntKind.i64.wrap ((IntKind.i64.wrap a5) + (IntKind.i64.wrap a6)))).bind fun r13 =>
            (m19 r11.1 (Int.tmod (IntKind.i64.wrap a1) (List.length a0 : Int))).bind fun r14 =>
            (m17 r14.1 (Int.tmod (IntKind.i64.wrap a1) (List.length a0 : Int)) (Int.tmod (IntKind.i64.wrap a2) (List.length x6.2.2.1 : Int)) (Int.tmod (IntKind.i64.wrap a4) 20000) (IntKind.i64.wrap a5)).bind fun r15 =>
            (idxG ((((((r9.2.1 != 0) || (r10.2.2.1 != 18)) || (r11.2.1 != 0)) || (r14.2.1 != 0)) || (r15.2.2.1 != 0)) == false) (0, 0, ([] : (List Bool)), 0, 0, ()) a0 (Int.tmod (IntKind.i64.wrap a1) (List.length a0 : Int))).bind fun x16 =>
            bif ((((((r9.2.1 != 0) || (r10.2.2.1 != 18)) || (r11.2.1 != 0)) || (r14.2.1 != 0)) || (r15.2.2.1 != 0)) || (r15.2.1 != x16.2.1)) then
              some false
            else
              bif (decide ((IntKind.i64.wrap a6) < 365)) then
                some (((r1 && (r12.2.2.1 == 20)) && (r12.2.1 == 0)) && ((r13.2.2.1 == 18) || (((Int.tmod (IntKind.i64.wrap a3) 20000) == (Int.tmod (IntKind.i64.wrap a4) 20000)) && (r13.2.2.1 == 20))))
              else
                (idxG ((r1 && (r12.2.2.1 == 0)) == true) (0, 0, ([] : (List Bool)), 0, 0, ()) a0 (Int.tmod (IntKind.i64.wrap a1) (List.length a0 : Int))).bind fun x17 =>
                some (((r1 && (r12.2.2.1 == 0)) && (r12.2.1 == x17.2.1)) && ((r13.2.2.1 == 18) == ((Int.tmod (IntKind.i64.wrap a3) 20000) != (Int.tmod (IntKind.i64.wrap a4) 20000))))))) x.1 x.2.1 x.2.2.1 x.2.2.2.1 x.2.2.2.2.1 x.2.2.2.2.2.1 x.2.2.2.2.2.2.1 := by kernel_rfl
theorem q5 (x : tyL [(.sl G35), (.int .u8), (.int .u8), (.int .u16), (.int .u16), (.int .u16), (.int .u16)]) : execF E5 C5 Try.f5 (datL [(.sl G35), (.int .u8), (.int .u8), (.int .u16), (.int .u16), (.int .u16), (.int .u16)] x) [] (retK false .bool) = m5 x.1 x.2.1 x.2.2.1 x.2.2.2.1 x.2.2.2.2.1 x.2.2.2.2.2.1 x.2.2.2.2.2.2.1 := qv5 m7 x
theorem p5 : PmOk Try.prog e5 := pm_ok (E := E5) ok5 ord lm5 Try.func5 ca5 q5

/-! 6: consol/consollaw31.BearerApart -/
theorem ca6 : callable Try.prog 6 := ⟨Try.f6, Try.func6, by kernel_rfl, by kernel_rfl⟩
noncomputable def E6 : Env := mkEnv2 Try.prog [e7, e8, e9, e11, e14] [] [87, 91, 130, 135, 144, 148] (fun p => [cH20 p])
theorem ok6 : EnvOk E6 := mkEnv2_ok (by simp only [List.mem_cons, List.not_mem_nil, or_false, forall_eq_or_imp, forall_eq]; exact ⟨p7, p8, p9, p11, p14⟩) (by simp) (by intro p; simp only [List.mem_cons, List.not_mem_nil, or_false, forall_eq]; exact dH20 p)
noncomputable def C6 : Cfg := mkCfg [(14, ⟨[0, 4, 7, 8, 9, 10, 11, 12], [], []⟩), (22, ⟨[0, 4, 7, 9, 10, 11], [], []⟩)] [] (([] : List (Nat × LE)).map (·.2)) [] [(14, [(13, [], (.sl G35))]), (30, [(17, [], (.sl G35))]), (31, [(17, [], (.sl G35))])] [(25, 20, 4, [1])]
theorem lm6 : ∀ c, Try.f6.body = some c → LmOk E6 C6 Try.f6.ntmps c := lmOk_of (ps := []) (by kernel_rfl) (by kernel_rfl) trivial
noncomputable def m6 (a0 : (List T35)) (a1 : T26) (a2 : Int) : Option (Bool) :=
  (m7).bind fun r1 =>
  (m8 a0).bind fun r2 =>
  (bif ((!r2) == false) then (m14 a0) else some false).bind fun r3 =>
  bif (((!r2) || (!r3)) || ((List.length a0 : Int) == 0)) then
    some r1
  else
    asrt true ((List.length a0 : Int) != 0) (
      (m9 a0 ((IntKind.i64.wrap ((BitVec.ofInt IntKind.i64.bits a1.1 &&& BitVec.ofInt IntKind.i64.bits 3).toNat)), a1.2.1, a1.2.2.1, a1.2.2.2.1, a1.2.2.2.2.1, ())).bind fun r4 =>
      bif ((decide (a1.2.1 < 0)) || (decide (a1.2.1 ≥ (List.length a0 : Int)))) then
        some (((r1 && (r4.2.2.1 != 0)) && ((List.length r4.1 : Int) == 0)) && (r4.2.1 == 0))
      else
        cont (fun (k12 : Unit → _) =>
          bif ((Int.tmod (IntKind.i64.wrap a2) (List.length a0 : Int)) != a1.2.1) then
            cont (fun (k5 : T26 → _) =>
              bif (decide ((Int.tmod (IntKind.i64.wrap a2) (List.length a0 : Int)) < a1.2.1)) then
                k5 ((IntKind.i64.wrap ((BitVec.ofInt IntKind.i64.bits a1.1 &&& BitVec.ofInt IntKind.i64.bits 3).toNat)), (IntKind.i64.wrap (a1.2.1 - 1)), a1.2.2.1, a1.2.2.2.1, a1.2.2.2.2.1, ())
              else
                k5 ((IntKind.i64.wrap ((BitVec.ofInt IntKind.i64.bits a1.1 &&& BitVec.ofInt IntKind.i64.bits 3).toNat)), a1.2.1, a1.2.2.1, a1.2.2.2.1, a1.2.2.2.2.1, ())) fun y5 =>
            asrt true (bounds true (List.length a0) 0 (Int.tmod (IntKind.i64.wrap a2) (List.length a0 : Int))) (
              asrt true (decide (List.length (α := T35) (subl a0 0 (Int.tmod (IntKind.i64.wrap a2) (List.length a0 : Int))) ≤ LIM)) (
                asrt true (bounds true (List.length a0) (IntKind.i64.wrap ((Int.tmod (IntKind.i64.wrap a2) (List.length a0 : Int)) + 1)) (List.length a0 : Int)) (
                  asrt true (decide (List.length (α := T35) (subl a0 0 (Int.tmod (IntKind.i64.wrap a2) (List.length a0 : Int))) + List.length (α := T35) (subl a0 (IntKind.i64.wrap ((Int.tmod (IntKind.i64.wrap a2) (List.length a0 : Int)) + 1)) (List.length a0 : Int)) ≤ LIM)) (
                    (m9 ((subl a0 0 (Int.tmod (IntKind.i64.wrap a2) (List.length a0 : Int))) ++ (subl a0 (IntKind.i64.wrap ((Int.tmod (IntKind.i64.wrap a2) (List.length a0 : Int)) + 1)) (List.length a0 : Int))) y5).bind fun r6 =>
                    bif ((r4.2.2.1 != r6.2.2.1) || (r4.2.1 != r6.2.1)) then
                      some false
                    else
                      bif ((r4.2.2.1 == 0) && (((List.length r4.1 : Int) != (List.length a0 : Int)) || ((List.length r6.1 : Int) != (List.length ((subl a0 0 (Int.tmod (IntKind.i64.wrap a2) (List.length a0 : Int))) ++ (subl a0 (IntKind.i64.wrap ((Int.tmod (IntKind.i64.wrap a2) (List.length a0 : Int)) + 1)) (List.length a0 : Int))) : Int)))) then
                        some false
                      else
                        asrt ((r4.2.2.1 == 0) == true) (bounds true (List.length r4.1) (Int.tmod (IntKind.i64.wrap a2) (List.length a0 : Int)) (IntKind.i64.wrap ((Int.tmod (IntKind.i64.wrap a2) (List.length a0 : Int)) + 1))) (
                          asrt ((r4.2.2.1 == 0) == true) (bounds true (List.length a0) (Int.tmod (IntKind.i64.wrap a2) (List.length a0 : Int)) (IntKind.i64.wrap ((Int.tmod (IntKind.i64.wrap a2) (List.length a0 : Int)) + 1))) (
                            (bif ((r4.2.2.1 == 0) == true) then (m11 (subl r4.1 (Int.tmod (IntKind.i64.wrap a2) (List.length a0 : Int)) (IntKind.i64.wrap ((Int.tmod (IntKind.i64.wrap a2) (List.length a0 : Int)) + 1))) (subl a0 (Int.tmod (IntKind.i64.wrap a2) (List.length a0 : Int)) (IntKind.i64.wrap ((Int.tmod (IntKind.i64.wrap a2) (List.length a0 : Int)) + 1)))) else some false).bind fun r7 =>
                            asrt (((r4.2.2.1 == 0) == true) && ((!r7) == false)) (bounds true (List.length r4.1) 0 (Int.tmod (IntKind.i64.wrap a2) (List.length a0 : Int))) (
                              bif (((r4.2.2.1 == 0) == true) && ((!r7) == false)) then
                                asrt true (decide (List.length (α := T35) (subl r4.1 0 (Int.tmod (IntKind.i64.wrap a2) (List.length a0 : Int))) ≤ LIM)) (
                                  asrt (((r4.2.2.1 == 0) == true) && ((!r7) == false)) (bounds true (List.length r4.1) (IntKind.i64.wrap ((Int.tmod (IntKind.i64.wrap a2) (List.length a0 : Int)) + 1)) (List.length r4.1 : Int)) (
                                    bif (((r4.2.2.1 == 0) == true) && ((!r7) == false)) then
                                      asrt true (decide (List.length (α := T35) (subl r4.1 0 (Int.tmod (IntKind.i64.wrap a2) (List.length a0 : Int))) + List.length (α := T35) (subl r4.1 (IntKind.i64.wrap ((Int.tmod (IntKind.i64.wrap a2) (List.length a0 : Int)) + 1)) (List.length r4.1 : Int)) ≤ LIM)) (
                                        (bif (((r4.2.2.1 == 0) == true) && ((!r7) == false)) then (m11 ((subl r4.1 0 (Int.tmod (IntKind.i64.wrap a2) (List.length a0 : Int))) ++ (subl r4.1 (IntKind.i64.wrap ((Int.tmod (IntKind.i64.wrap a2) (List.length a0 : Int)) + 1)) (List.length r4.1 : Int))) r6.1) else some false).bind fun r8 =>
                                        bif ((r4.2.2.1 == 0) && ((!r7) || (!r8))) then
                                          some false
                                        else
                                          k12 ())
                                    else
                                      (bif (((r4.2.2.1 == 0) == true) && ((!r7) == false)) then (m11 [] r6.1) else some false).bind fun r9 =>
                                      bif ((r4.2.2.1 == 0) && ((!r7) || (!r9))) then
                                        some false
                                      else
                                        k12 ()))
                              else
                                asrt (((r4.2.2.1 == 0) == true) && ((!r7) == false)) (bounds true (List.length r4.1) (IntKind.i64.wrap ((Int.tmod (IntKind.i64.wrap a2) (List.length a0 : Int)) + 1)) (List.length r4.1 : Int)) (
                                  bif (((r4.2.2.1 == 0) == true) && ((!r7) == false)) then
                                    asrt true (decide (List.length (α := T35) (subl r4.1 (IntKind.i64.wrap ((Int.tmod (IntKind.i64.wrap a2) (List.length a0 : Int)) + 1)) (List.length r4.1 : Int)) ≤ LIM)) (
                                      (bif (((r4.2.2.1 == 0) == true) && ((!r7) == false)) then (m11 (subl r4.1 (IntKind.i64.wrap ((Int.tmod (IntKind.i64.wrap a2) (List.length a0 : Int)) + 1)) (List.length r4.1 : Int)) r6.1) else some false).bind fun r10 =>
                                      bif ((r4.2.2.1 == 0) && ((!r7) || (!r10))) then
                                        some false
                                      else
                                        k12 ())
                                  else
                                    (bif (((r4.2.2.1 == 0) == true) && ((!r7) == false)) then (m11 [] r6.1) else some false).bind fun r11 =>
                                    bif ((r4.2.2.1 == 0) && ((!r7) || (!r11))) then
                                      some false
                                    else
                                      k12 ()))))))))
          else
            k12 ()) fun _ =>
        bif (r4.2.2.1 != 0) then
          some ((r1 && ((List.length r4.1 : Int) == 0)) && (r4.2.1 == 0))
        else
          bif ((List.length r4.1 : Int) != (List.length a0 : Int)) then
            some false
          else
            (tellL a1.2.1 a0).bind fun x13 =>
            (idx r4.1 a1.2.1).bind fun x14 =>
            asrt true (decide (0 ≤ a1.2.1) && decide (a1.2.1 < (List.length a0 : Int))) (
              asrt true (Nat.beq ((a1.2.1 : Int).toNat) ((a1.2.1 : Int).toNat)) (
                (idx r4.1 a1.2.1).bind fun x15 =>
                asrt true (decide (0 ≤ a1.2.1) && decide (a1.2.1 < (List.length a0 : Int))) (
                  asrt true (Nat.beq ((a1.2.1 : Int).toNat) ((a1.2.1 : Int).toNat)) (
                    bif ((IntKind.i64.wrap ((BitVec.ofInt IntKind.i64.bits a1.1 &&& BitVec.ofInt IntKind.i64.bits 3).toNat)) == 0) then
                      asrt true (decide (0 ≤ a1.2.1) && decide (a1.2.1 < (List.length a0 : Int))) (
                        asrt true (Nat.beq ((a1.2.1 : Int).toNat) ((a1.2.1 : Int).toNat)) (
                          asrt true (decide (0 ≤ a1.2.2.1) && decide (a1.2.2.1 < (List.length x13.2.2.1 : Int))) (
                            ((x13.2.2.1)[(a1.2.2.1 : Int).toNat]?).bind fun x16 =>
                            (bif (r1 == true) then (m11 r4.1 (List.set a0 ((a1.2.1 : Int).toNat) (x13.1, x13.2.1, (List.set x13.2.2.1 (a1.2.2.1 : Int).toNat true), x14.2.2.2.1, x15.2.2.2.2.1, ()))) else some false).bind fun r17 =>
                            (idxG ((r1 && r17) == true) (0, 0, ([] : (List Bool)), 0, 0, ()) r4.1 a1.2.1).bind fun x18 =>
                            (idxG ((r1 && r17) == true) (0, 0, ([] : (List Bool)), 0, 0, ()) a0 a1.2.1).bind fun x19 =>
                            (idxG (((r1 && r17) && (x18.2.2.2.1 == x19.2.2.2.1)) == true) (0, 0, ([] : (List Bool)), 0, 0, ()) r4.1 a1.2.1).bind fun x20 =>
                            (idxG (((r1 && r17) && (x18.2.2.2.1 == x19.2.2.2.1)) == true) (0, 0, ([] : (List Bool)), 0, 0, ()) a0 a1.2.1).bind fun x21 =>
                            some (((r1 && r17) && (x18.2.2.2.1 == x19.2.2.2.1)) && (x20.2.2.2.2.1 == x21.2.2.2.2.1)))))
                    else
                      (bif (r1 == true) then (m11 r4.1 (List.set a0 ((a1.2.1 : Int).toNat) (x13.1, x13.2.1, x13.2.2.1, x14.2.2.2.1, x15.2.2.2.2.1, ()))) else some false).bind fun r22 =>
                      some (r1 && r22))))))
noncomputable def e6 : PmE := entry 6 [(.sl G35), G26, (.int .u8)] false .bool (fun x => m6 x.1 x.2.1 x.2.2.1)
noncomputable def V6 (mo7 : Option (Bool)) : Env := mkEnv2 Try.prog [(entry 7 [] false .bool (fun _ => mo7)), e8, e9, e11, e14] [] [87, 91, 130, 135, 144, 148] (fun p => [cH20 p])
theorem qv6 (mo7 : Option (Bool)) (x : tyL [(.sl G35), G26, (.int .u8)]) : execF (V6 mo7) C6 Try.f6 (datL [(.sl G35), G26, (.int .u8)] x) [] (retK false .bool) = (fun (a0 : (List T35)) (a1 : T26) (a2 : Int) =>
  (mo7).bind fun r1 =>
  (m8 a0).bind fun r2 =>
  (bif ((!r2) == false) then (m14 a0) else some false).bind fun r3 =>
  bif (((!r2) || (!r3)) || ((List.length a0 : Int) == 0)) then
    some r1
  else
    asrt true ((List.length a0 : Int) != 0) (
      (m9 a0 ((IntKind.i64.wrap ((BitVec.ofInt IntKind.i64.bits a1.1 &&& BitVec.ofInt IntKind.i64.bits 3).toNat)), a1.2.1, a1.2.2.1, a1.2.2.2.1, a1.2.2.2.2.1, ())).bind fun r4 =>
      bif ((decide (a1.2.1 < 0)) || (decide (a1.2.1 ≥ (List.length a0 : Int)))) then
        some (((r1 && (r4.2.2.1 != 0)) && ((List.length r4.1 : Int) == 0)) && (r4.2.1 == 0))
      else
        cont (fun (k12 : Unit → _) =>
          bif ((Int.tmod (IntKind.i64.wrap a2) (List.length a0 : Int)) != a1.2.1) then
            cont (fun (k5 : T26 → _) =>
              bif (decide ((Int.tmod (IntKind.i64.wrap a2) (List.length a0 : Int)) < a1.2.1)) then
                k5 ((IntKind.i64.wrap ((BitVec.ofInt IntKind.i64.bits a1.1 &&& BitVec.ofInt IntKind.i64.bits 3).toNat)), (IntKind.i64.wrap (a1.2.1 - 1)), a1.2.2.1, a1.2.2.2.1, a1.2.2.2.2.1, ())
              else
                k5 ((IntKind.i64.wrap ((BitVec.ofInt IntKind.i64.bits a1.1 &&& BitVec.ofInt IntKind.i64.bits 3).toNat)), a1.2.1, a1.2.2.1, a1.2.2.2.1, a1.2.2.2.2.1, ())) fun y5 =>
            asrt true (bounds true (List.length a0) 0 (Int.tmod (IntKind.i64.wrap a2) (List.length a0 : Int))) (
              asrt true (decide (List.length (α := T35) (subl a0 0 (Int.tmod (IntKind.i64.wrap a2) (List.length a0 : Int))) ≤ LIM)) (
                asrt true (bounds true (List.length a0) (IntKind.i64.wrap ((Int.tmod (IntKind.i64.wrap a2) (List.length a0 : Int)) + 1)) (List.length a0 : Int)) (
                  asrt true (decide (List.length (α := T35) (subl a0 0 (Int.tmod (IntKind.i64.wrap a2) (List.length a0 : Int))) + List.length (α := T35) (subl a0 (IntKind.i64.wrap ((Int.tmod (IntKind.i64.wrap a2) (List.length a0 : Int)) + 1)) (List.length a0 : Int)) ≤ LIM)) (
                    (m9 ((subl a0 0 (Int.tmod (IntKind.i64.wrap a2) (List.length a0 : Int))) ++ (subl a0 (IntKind.i64.wrap ((Int.tmod (IntKind.i64.wrap a2) (List.length a0 : Int)) + 1)) (List.length a0 : Int))) y5).bind fun r6 =>
                    bif ((r4.2.2.1 != r6.2.2.1) || (r4.2.1 != r6.2.1)) then
                      some false
                    else
                      bif ((r4.2.2.1 == 0) && (((List.length r4.1 : Int) != (List.length a0 : Int)) || ((List.length r6.1 : Int) != (List.length ((subl a0 0 (Int.tmod (IntKind.i64.wrap a2) (List.length a0 : Int))) ++ (subl a0 (IntKind.i64.wrap ((Int.tmod (IntKind.i64.wrap a2) (List.length a0 : Int)) + 1)) (List.length a0 : Int))) : Int)))) then
                        some false
                      else
                        asrt ((r4.2.2.1 == 0) == true) (bounds true (List.length r4.1) (Int.tmod (IntKind.i64.wrap a2) (List.length a0 : Int)) (IntKind.i64.wrap ((Int.tmod (IntKind.i64.wrap a2) (List.length a0 : Int)) + 1))) (
                          asrt ((r4.2.2.1 == 0) == true) (bounds true (List.length a0) (Int.tmod (IntKind.i64.wrap a2) (List.length a0 : Int)) (IntKind.i64.wrap ((Int.tmod (IntKind.i64.wrap a2) (List.length a0 : Int)) + 1))) (
                            (bif ((r4.2.2.1 == 0) == true) then (m11 (subl r4.1 (Int.tmod (IntKind.i64.wrap a2) (List.length a0 : Int)) (IntKind.i64.wrap ((Int.tmod (IntKind.i64.wrap a2) (List.length a0 : Int)) + 1))) (subl a0 (Int.tmod (IntKind.i64.wrap a2) (List.length a0 : Int)) (IntKind.i64.wrap ((Int.tmod (IntKind.i64.wrap a2) (List.length a0 : Int)) + 1)))) else some false).bind fun r7 =>
                            asrt (((r4.2.2.1 == 0) == true) && ((!r7) == false)) (bounds true (List.length r4.1) 0 (Int.tmod (IntKind.i64.wrap a2) (List.length a0 : Int))) (
                              bif (((r4.2.2.1 == 0) == true) && ((!r7) == false)) then
                                asrt true (decide (List.length (α := T35) (subl r4.1 0 (Int.tmod (IntKind.i64.wrap a2) (List.length a0 : Int))) ≤ LIM)) (
                                  asrt (((r4.2.2.1 == 0) == true) && ((!r7) == false)) (bounds true (List.length r4.1) (IntKind.i64.wrap ((Int.tmod (IntKind.i64.wrap a2) (List.length a0 : Int)) + 1)) (List.length r4.1 : Int)) (
                                    bif (((r4.2.2.1 == 0) == true) && ((!r7) == false)) then
                                      asrt true (decide (List.length (α := T35) (subl r4.1 0 (Int.tmod (IntKind.i64.wrap a2) (List.length a0 : Int))) + List.length (α := T35) (subl r4.1 (IntKind.i64.wrap ((Int.tmod (IntKind.i64.wrap a2) (List.length a0 : Int)) + 1)) (List.length r4.1 : Int)) ≤ LIM)) (
                                        (bif (((r4.2.2.1 == 0) == true) && ((!r7) == false)) then (m11 ((subl r4.1 0 (Int.tmod (IntKind.i64.wrap a2) (List.length a0 : Int))) ++ (subl r4.1 (IntKind.i64.wrap ((Int.tmod (IntKind.i64.wrap a2) (List.length a0 : Int)) + 1)) (List.length r4.1 : Int))) r6.1) else some false).bind fun r8 =>
                                        bif ((r4.2.2.1 == 0) && ((!r7) || (!r8))) then
                                          some false
                                        else
                                          k12 ())
                                    else
                                      (bif (((r4.2.2.1 == 0) == true) && ((!r7) == false)) then (m11 [] r6.1) else some false).bind fun r9 =>
                                      bif ((r4.2.2.1 == 0) && ((!r7) || (!r9))) then
                                        some false
                                      else
                                        k12 ()))
                              else
                                asrt (((r4.2.2.1 == 0) == true) && ((!r7) == false)) (bounds true (List.length r4.1) (IntKind.i64.wrap ((Int.tmod (IntKind.i64.wrap a2) (List.length a0 : Int)) + 1)) (List.length r4.1 : Int)) (
                                  bif (((r4.2.2.1 == 0) == true) && ((!r7) == false)) then
                                    asrt true (decide (List.length (α := T35) (subl r4.1 (IntKind.i64.wrap ((Int.tmod (IntKind.i64.wrap a2) (List.length a0 : Int)) + 1)) (List.length r4.1 : Int)) ≤ LIM)) (
                                      (bif (((r4.2.2.1 == 0) == true) && ((!r7) == false)) then (m11 (subl r4.1 (IntKind.i64.wrap ((Int.tmod (IntKind.i64.wrap a2) (List.length a0 : Int)) + 1)) (List.length r4.1 : Int)) r6.1) else some false).bind fun r10 =>
                                      bif ((r4.2.2.1 == 0) && ((!r7) || (!r10))) then
                                        some false
                                      else
                                        k12 ())
                                  else
                                    (bif (((r4.2.2.1 == 0) == true) && ((!r7) == false)) then (m11 [] r6.1) else some false).bind fun r11 =>
                                    bif ((r4.2.2.1 == 0) && ((!r7) || (!r11))) then
                                      some false
                                    else
                                      k12 ()))))))))
          else
            k12 ()) fun _ =>
        bif (r4.2.2.1 != 0) then
          some ((r1 && ((List.length r4.1 : Int) == 0)) && (r4.2.1 == 0))
        else
          bif ((List.length r4.1 : Int) != (List.length a0 : Int)) then
            some false
          else
            (tellL a1.2.1 a0).bind fun x13 =>
            (idx r4.1 a1.2.1).bind fun x14 =>
            asrt true (decide (0 ≤ a1.2.1) && decide (a1.2.1 < (List.length a0 : Int))) (
              asrt true (Nat.beq ((a1.2.1 : Int).toNat) ((a1.2.1 : Int).toNat)) (
                (idx r4.1 a1.2.1).bind fun x15 =>
                asrt true (decide (0 ≤ a1.2.1) && decide (a1.2.1 < (List.length a0 : Int))) (
                  asrt true (Nat.beq ((a1.2.1 : Int).toNat) ((a1.2.1 : Int).toNat)) (
                    bif ((IntKind.i64.wrap ((BitVec.ofInt IntKind.i64.bits a1.1 &&& BitVec.ofInt IntKind.i64.bits 3).toNat)) == 0) then
                      asrt true (decide (0 ≤ a1.2.1) && decide (a1.2.1 < (List.length a0 : Int))) (
                        asrt true (Nat.beq ((a1.2.1 : Int).toNat) ((a1.2.1 : Int).toNat)) (
                          asrt true (decide (0 ≤ a1.2.2.1) && decide (a1.2.2.1 < (List.length x13.2.2.1 : Int))) (
                            ((x13.2.2.1)[(a1.2.2.1 : Int).toNat]?).bind fun x16 =>
                            (bif (r1 == true) then (m11 r4.1 (List.set a0 ((a1.2.1 : Int).toNat) (x13.1, x13.2.1, (List.set x13.2.2.1 (a1.2.2.1 : Int).toNat true), x14.2.2.2.1, x15.2.2.2.2.1, ()))) else some false).bind fun r17 =>
                            (idxG ((r1 && r17) == true) (0, 0, ([] : (List Bool)), 0, 0, ()) r4.1 a1.2.1).bind fun x18 =>
                            (idxG ((r1 && r17) == true) (0, 0, ([] : (List Bool)), 0, 0, ()) a0 a1.2.1).bind fun x19 =>
                            (idxG (((r1 && r17) && (x18.2.2.2.1 == x19.2.2.2.1)) == true) (0, 0, ([] : (List Bool)), 0, 0, ()) r4.1 a1.2.1).bind fun x20 =>
                            (idxG (((r1 && r17) && (x18.2.2.2.1 == x19.2.2.2.1)) == true) (0, 0, ([] : (List Bool)), 0, 0, ()) a0 a1.2.1).bind fun x21 =>
                            some (((r1 && r17) && (x18.2.2.2.1 == x19.2.2.2.1)) && (x20.2.2.2.2.1 == x21.2.2.2.2.1)))))
                    else
                      (bif (r1 == true) then (m11 r4.1 (List.set a0 ((a1.2.1 : Int).toNat) (x13.1, x13.2.1, x13.2.2.1, x14.2.2.2.1, x15.2.2.2.2.1, ()))) else some false).bind fun r22 =>
                      some (r1 && r22))))))) x.1 x.2.1 x.2.2.1 := by kernel_rfl
theorem q6 (x : tyL [(.sl G35), G26, (.int .u8)]) : execF E6 C6 Try.f6 (datL [(.sl G35), G26, (.int .u8)] x) [] (retK false .bool) = m6 x.1 x.2.1 x.2.2.1 := qv6 m7 x
theorem p6 : PmOk Try.prog e6 := pm_ok (E := E6) ok6 ord lm6 Try.func6 ca6 q6

end Go.Proofs.Ytbleidfkmdbhgaa
