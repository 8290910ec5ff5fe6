/- Models of the functions that the statements reach. -/
import Derived.Test.YtajnmcabnkidjaaE32
import Derived.Test.YtajnmcabnkidjaaChecked
import Derived.KernelRfl
namespace Go.Proofs.Ytajnmcabnkidjaa
open Go Go.Eng
set_option linter.unusedVariables false

/-- x, y, signed, code -/
abbrev G7 : GT := .cons (.int .i64) (.cons (.int .i64) (.cons .bool (.cons (.int .u8) (.nil))))
abbrev T7 : Type := Int × Int × Bool × Int × Unit
/-- msg, addr -/
abbrev G13 : GT := .cons .str (.cons (.int .u64) (.nil))
abbrev T13 : Type := (List UInt8) × Int × Unit
/-- Collateral, Reserve, Trapped, Equity, Tranches, Tests, Steps -/
abbrev G25 : GT := .cons (.int .i64) (.cons (.int .i64) (.cons (.int .i64) (.cons (.int .i64) (.cons (.sl (.cons (.int .i64) (.cons (.int .i64) .nil))) (.cons (.sl (.cons (.int .i64) (.cons (.int .i64) .nil))) (.cons (.sl (.cons (.int .i64) (.cons (.int .i64) (.cons (.int .i64) .nil)))) (.nil)))))))
abbrev T25 : Type := Int × Int × Int × Int × (List (Int × (Int × Unit))) × (List (Int × (Int × Unit))) × (List (Int × (Int × (Int × Unit)))) × Unit
/-- Balance, Due -/
abbrev G38 : GT := .cons (.int .i64) (.cons (.int .i64) (.nil))
abbrev T38 : Type := Int × Int × Unit
/-- Kind, N, Amount -/
abbrev G41 : GT := .cons (.int .i64) (.cons (.int .i64) (.cons (.int .i64) (.nil)))
abbrev T41 : Type := Int × Int × Int × Unit

theorem ord : Try.prog.follows .mixedOrders = true := by kernel_rfl

/-! 18: consol/consollaw23.sample -/
theorem ca18 : callable Try.prog 18 := ⟨Try.f18, Try.func18, by kernel_rfl, by kernel_rfl⟩
noncomputable def E18 : Env := mkEnv2 Try.prog [] []
theorem ok18 : EnvOk E18 := mkEnv2_ok (by simp) (by simp)
noncomputable def C18 : Cfg := noCfg
theorem lm18 : ∀ c, Try.f18.body = some c → LmOk E18 C18 Try.f18.ntmps c := fun _ _ => noCfg_lm
noncomputable def m18  : Option (T25) :=
  some (1000, 10, 0, 0, [(600, 30, ()), (300, 20, ())], [(2, 880, ())], [(0, 0, 0, ()), (0, 1, 0, ()), (2, 0, 15, ()), (3, 0, 0, ()), (4, 0, 0, ())], ())
noncomputable def e18 : PmE := entry 18 [] false G25 (fun x => m18 )
theorem q18 (x : tyL []) : execF E18 C18 Try.f18 (datL [] x) [] (retK false G25) = m18  := by kernel_rfl
theorem p18 : PmOk Try.prog e18 := pm_ok (E := E18) ok18 ord lm18 Try.func18 ca18 q18

/-! 19: consol/fall.money -/
theorem ca19 : callable Try.prog 19 := ⟨Try.f19, Try.func19, by kernel_rfl, by kernel_rfl⟩
noncomputable def E19 : Env := mkEnv2 Try.prog [] []
theorem ok19 : EnvOk E19 := mkEnv2_ok (by simp) (by simp)
noncomputable def C19 : Cfg := noCfg
theorem lm19 : ∀ c, Try.f19.body = some c → LmOk E19 C19 Try.f19.ntmps c := fun _ _ => noCfg_lm
noncomputable def m19 (a0 : Int) : Option (Bool) :=
  some ((decide (a0 ≥ 0)) && (decide (a0 ≤ 1000000000000000)))
noncomputable def e19 : PmE := entry 19 [(.int .i64)] false .bool (fun x => m19 x.1)
theorem q19 (x : tyL [(.int .i64)]) : execF E19 C19 Try.f19 (datL [(.int .i64)] x) [] (retK false .bool) = m19 x.1 := by kernel_rfl
theorem p19 : PmOk Try.prog e19 := pm_ok (E := E19) ok19 ord lm19 Try.func19 ca19 q19

/-! 31: consol/fall.rightStep -/
theorem ca31 : callable Try.prog 31 := ⟨Try.f31, Try.func31, by kernel_rfl, by kernel_rfl⟩
noncomputable def E31 : Env := mkEnv2 Try.prog [e19] []
theorem ok31 : EnvOk E31 := mkEnv2_ok (by simp only [List.mem_cons, List.not_mem_nil, or_false, forall_eq]; exact p19) (by simp)
noncomputable def C31 : Cfg := mkCfg [(5, ⟨[2, 3, 6, 7], []⟩), (12, ⟨[], []⟩)] [] (([] : List (Nat × LE)).map (·.2))
theorem lm31 : ∀ c, Try.f31.body = some c → LmOk E31 C31 Try.f31.ntmps c := lmOk_of (ps := []) (by kernel_rfl) (by kernel_rfl) trivial
noncomputable def m31 (a0 : T25) (a1 : T41) : Option (Bool) :=
  cont (fun (k1 : Bool → _) =>
    bif (a1.1 == 0) then
      k1 (a1.1 == 0)
    else
      k1 (a1.1 == 1)) fun y1 =>
  bif y1 then
    some (((decide (a1.2.1 ≥ 0)) && (decide (a1.2.1 < (List.length a0.2.2.2.2.1 : Int)))) && (a1.2.2.1 == 0))
  else
    bif (a1.1 == 2) then
      (bif ((a1.2.1 == 0) == true) then (m19 a1.2.2.1) else some false).bind fun r2 =>
      some ((a1.2.1 == 0) && r2)
    else
      bif (a1.1 == 3) then
        some (((decide (a1.2.1 ≥ 0)) && (decide (a1.2.1 < (List.length a0.2.2.2.2.2.1 : Int)))) && (a1.2.2.1 == 0))
      else
        bif (a1.1 == 4) then
          some ((a1.2.1 == 0) && (a1.2.2.1 == 0))
        else
          some false
noncomputable def e31 : PmE := entry 31 [G25, G41] false .bool (fun x => m31 x.1 x.2.1)
theorem q31 (x : tyL [G25, G41]) : execF E31 C31 Try.f31 (datL [G25, G41] x) [] (retK false .bool) = m31 x.1 x.2.1 := by kernel_rfl
theorem p31 : PmOk Try.prog e31 := pm_ok (E := E31) ok31 ord lm31 Try.func31 ca31 q31

/-! 12: consol/fall.Right -/
theorem ca30 : callable Try.prog 30 := ⟨Try.f30, Try.func30, by kernel_rfl, by kernel_rfl⟩
noncomputable def E12i30 : Env := mkEnv2 Try.prog [e31] []
theorem ok12i30 : EnvOk E12i30 := mkEnv2_ok (by simp only [List.mem_cons, List.not_mem_nil, or_false, forall_eq]; exact p31) (by simp)
noncomputable def C12i30 : Cfg := noCfg
theorem lm12i30 : ∀ c, Try.f30.body = some c → LmOk E12i30 C12i30 Try.f30.ntmps c := fun _ _ => noCfg_lm
noncomputable def c12i30 : CmE := inl E12i30 C12i30 30 Try.f30
theorem d12i30 : CmOk Try.prog c12i30 := inl_ok (E := E12i30) ok12i30 ord lm12i30 Try.func30 ca30

theorem ca33 : callable Try.prog 33 := ⟨Try.f33, Try.func33, by kernel_rfl, by kernel_rfl⟩
noncomputable def E12i33 : Env := mkEnv2 Try.prog [] [c12i30]
theorem ok12i33 : EnvOk E12i33 := mkEnv2_ok (by simp) (by simp only [List.mem_cons, List.not_mem_nil, or_false, forall_eq]; exact d12i30)
/-- a round of a loop of slices.IndexFunc[[]consol/api.Step,consol/api.Step] -/
noncomputable def s12_3 {R : Type} (t0 : (List T41)) (t7 : Int) (o0 : T25) (kn : Int → Option R) (k1 : Option R) (k2 : Int → Option R) (t8 : Int) : Option R :=
  bif (decide (t8 < t7)) then
    (idx t0 t8).bind fun x9 =>
    (m31 o0 x9).bind fun r10 =>
    bif (!r10) then
      k2 t8
    else
      kn (IntKind.i64.wrap (t8 + 1))
  else
    k1
noncomputable def l12_3 {R : Type} (t0 : (List T41)) (t7 : Int) (o0 : T25) (k1 : Option R) (k2 : Int → Option R) : Nat → Int → Option R
  | 0, _ => none
  | n + 1, t8 => s12_3 t0 t7 o0 (l12_3 t0 t7 o0 k1 k2 n) k1 k2 t8
noncomputable def L12_3 : LE := ⟨3, 1, ⟨[(0, (.dat (.sl G41))), (1, (.fn 30 (.scons (.box 0 [] 0) .snil))), (7, (.dat (.int .i64))), (8, (.dat (.int .i64)))], [(.box (.dat G25))]⟩, fun R n x k => l12_3 x.1.1 x.1.2.2.1 x.2.1 (k (.exit 0) ⟨[], [(.box (.dat G25 x.2.1))]⟩) (fun y0 => k .ret ⟨[(4, (.dat (.int .i64) y0))], [(.box (.dat G25 x.2.1))]⟩) n x.1.2.2.2.1⟩
noncomputable def C12i33 : Cfg := mkCfg [(3, ⟨[0, 1, 7, 8], []⟩)] [(3, (⟨[], []⟩, ⟨[4], []⟩))] (([(0, L12_3)] : List (Nat × LE)).map (·.2))
theorem ek12_3 : EOk E12i33 C12i33 Try.f33.ntmps (bodyL Try.f33 0) L12_3 := eok_of (e := L12_3) (fun R x Kn k => s12_3 x.1.1 x.1.2.2.1 x.2.1 (fun v0 => Kn ((x.1.1, ((), ()), x.1.2.2.1, v0, ()), (x.2.1, ()))) (k (.exit 0) ⟨[], [(.box (.dat G25 x.2.1))]⟩) (fun y0 => k .ret ⟨[(4, (.dat (.int .i64) y0))], [(.box (.dat G25 x.2.1))]⟩) x.1.2.2.2.1) (fun _ _ _ => rfl) (fun _ _ _ _ => rfl) (fun R x Kn k => by kernel_rfl)
theorem lm12i33 : ∀ c, Try.f33.body = some c → LmOk E12i33 C12i33 Try.f33.ntmps c := lmOk_of (ps := [(0, L12_3)]) (by kernel_rfl) (by kernel_rfl) ⟨ek12_3, trivial⟩
noncomputable def c12i33 : CmE := inl E12i33 C12i33 33 Try.f33
theorem d12i33 : CmOk Try.prog c12i33 := inl_ok (E := E12i33) ok12i33 ord lm12i33 Try.func33 ca33

theorem ca29 : callable Try.prog 29 := ⟨Try.f29, Try.func29, by kernel_rfl, by kernel_rfl⟩
noncomputable def E12i29 : Env := mkEnv2 Try.prog [] [c12i33]
theorem ok12i29 : EnvOk E12i29 := mkEnv2_ok (by simp) (by simp only [List.mem_cons, List.not_mem_nil, or_false, forall_eq]; exact d12i33)
noncomputable def C12i29 : Cfg := noCfg
theorem lm12i29 : ∀ c, Try.f29.body = some c → LmOk E12i29 C12i29 Try.f29.ntmps c := fun _ _ => noCfg_lm
noncomputable def c12i29 : CmE := inl E12i29 C12i29 29 Try.f29
theorem d12i29 : CmOk Try.prog c12i29 := inl_ok (E := E12i29) ok12i29 ord lm12i29 Try.func29 ca29

theorem ca12 : callable Try.prog 12 := ⟨Try.f12, Try.func12, by kernel_rfl, by kernel_rfl⟩
noncomputable def E12 : Env := mkEnv2 Try.prog [e19] [c12i29]
theorem ok12 : EnvOk E12 := mkEnv2_ok (by simp only [List.mem_cons, List.not_mem_nil, or_false, forall_eq]; exact p19) (by simp only [List.mem_cons, List.not_mem_nil, or_false, forall_eq]; exact d12i29)
/-- a round of a loop of consol/fall.Right -/
noncomputable def s12_1 {R : Type} (t48 : (List T38)) (t49 : Int) (kn : Int → Option R) (k1 : Option R) (k2 : Option R) (t50 : Int) : Option R :=
  bif (decide (t50 < t49)) then
    (idx t48 t50).bind fun x5 =>
    (m19 x5.1).bind fun r6 =>
    (bif ((!r6) == false) then (m19 x5.2.1) else some false).bind fun r7 =>
    bif ((!r6) || (!r7)) then
      k2
    else
      kn (IntKind.i64.wrap (t50 + 1))
  else
    k1
noncomputable def l12_1 {R : Type} (t48 : (List T38)) (t49 : Int) (k1 : Option R) (k2 : Option R) : Nat → Int → Option R
  | 0, _ => none
  | n + 1, t50 => s12_1 t48 t49 (l12_1 t48 t49 k1 k2 n) k1 k2 t50
noncomputable def L12_1 : LE := ⟨5, 0, ⟨[(1, (.box 0 [] 0)), (48, (.dat (.sl G38))), (49, (.dat (.int .i64))), (50, (.dat (.int .i64)))], [(.box (.dat G25))]⟩, fun R n x k => l12_1 x.1.2.1 x.1.2.2.1 (k (.exit 0) ⟨[(1, (.box 0 [] 0))], [(.box (.dat G25 x.2.1))]⟩) (k .ret ⟨[(2, (.dat .bool false))], []⟩) n x.1.2.2.2.1⟩
/-- a round of a loop of consol/fall.Right -/
noncomputable def s12_2 {R : Type} (t66 : (List T38)) (t67 : Int) (o0 : T25) (kn : Int → Option R) (k1 : Option R) (k2 : Option R) (t68 : Int) : Option R :=
  bif (decide (t68 < t67)) then
    (idx t66 t68).bind fun x8 =>
    bif ((((decide (x8.1 < 1)) || (decide (x8.1 > (List.length o0.2.2.2.2.1 : Int)))) || (decide (x8.2.1 < 0))) || (decide (x8.2.1 > 2000))) then
      k2
    else
      kn (IntKind.i64.wrap (t68 + 1))
  else
    k1
noncomputable def l12_2 {R : Type} (t66 : (List T38)) (t67 : Int) (o0 : T25) (k1 : Option R) (k2 : Option R) : Nat → Int → Option R
  | 0, _ => none
  | n + 1, t68 => s12_2 t66 t67 o0 (l12_2 t66 t67 o0 k1 k2 n) k1 k2 t68
noncomputable def L12_2 : LE := ⟨11, 0, ⟨[(1, (.box 0 [] 0)), (66, (.dat (.sl G38))), (67, (.dat (.int .i64))), (68, (.dat (.int .i64)))], [(.box (.dat G25))]⟩, fun R n x k => l12_2 x.1.2.1 x.1.2.2.1 x.2.1 (k (.exit 2) ⟨[(1, (.box 0 [] 0))], [(.box (.dat G25 x.2.1))]⟩) (k .ret ⟨[(2, (.dat .bool false))], []⟩) n x.1.2.2.2.1⟩
noncomputable def C12 : Cfg := mkCfg [(5, ⟨[1, 48, 49, 50], []⟩), (11, ⟨[1, 66, 67, 68], []⟩)] [(5, (⟨[1], []⟩, ⟨[2], []⟩)), (11, (⟨[1], []⟩, ⟨[2], []⟩))] (([(0, L12_1), (1, L12_2)] : List (Nat × LE)).map (·.2))
theorem ek12_1 : EOk E12 C12 Try.f12.ntmps (bodyL Try.f12 0) L12_1 := eok_of (e := L12_1) (fun R x Kn k => s12_1 x.1.2.1 x.1.2.2.1 (fun v0 => Kn (((), x.1.2.1, x.1.2.2.1, v0, ()), (x.2.1, ()))) (k (.exit 0) ⟨[(1, (.box 0 [] 0))], [(.box (.dat G25 x.2.1))]⟩) (k .ret ⟨[(2, (.dat .bool false))], []⟩) x.1.2.2.2.1) (fun _ _ _ => rfl) (fun _ _ _ _ => rfl) (fun R x Kn k => by kernel_rfl)
theorem ek12_2 : EOk E12 C12 Try.f12.ntmps (bodyL Try.f12 1) L12_2 := eok_of (e := L12_2) (fun R x Kn k => s12_2 x.1.2.1 x.1.2.2.1 x.2.1 (fun v0 => Kn (((), x.1.2.1, x.1.2.2.1, v0, ()), (x.2.1, ()))) (k (.exit 2) ⟨[(1, (.box 0 [] 0))], [(.box (.dat G25 x.2.1))]⟩) (k .ret ⟨[(2, (.dat .bool false))], []⟩) x.1.2.2.2.1) (fun _ _ _ => rfl) (fun _ _ _ _ => rfl) (fun R x Kn k => by kernel_rfl)
theorem lm12 : ∀ c, Try.f12.body = some c → LmOk E12 C12 Try.f12.ntmps c := lmOk_of (ps := [(0, L12_1), (1, L12_2)]) (by kernel_rfl) (by kernel_rfl) ⟨ek12_1, ek12_2, trivial⟩
noncomputable def m12 (a0 : T25) : Option (Bool) :=
  (m19 a0.1).bind fun r1 =>
  (bif ((!r1) == false) then (m19 a0.2.1) else some false).bind fun r2 =>
  (bif (((!r1) || (!r2)) == false) then (m19 a0.2.2.1) else some false).bind fun r3 =>
  (bif ((((!r1) || (!r2)) || (!r3)) == false) then (m19 a0.2.2.2.1) else some false).bind fun r4 =>
  bif (((((((!r1) || (!r2)) || (!r3)) || (!r4)) || (decide ((List.length a0.2.2.2.2.1 : Int) > 40))) || (decide ((List.length a0.2.2.2.2.2.1 : Int) > 40))) || (decide ((List.length a0.2.2.2.2.2.2.1 : Int) > 40))) then
    some false
  else
    l12_1 a0.2.2.2.2.1 (List.length a0.2.2.2.2.1 : Int) (
        l12_2 a0.2.2.2.2.2.1 (List.length a0.2.2.2.2.2.1 : Int) a0 (
            l12_3 a0.2.2.2.2.2.2.1 (List.length a0.2.2.2.2.2.2.1 : Int) a0 (
                some true) (fun y11 =>
                some (!(decide (y11 ≥ 0)))) FUEL 0) (
            some false) FUEL 0) (
        some false) FUEL 0
noncomputable def e12 : PmE := entry 12 [G25] false .bool (fun x => m12 x.1)
theorem q12 (x : tyL [G25]) : execF E12 C12 Try.f12 (datL [G25] x) [] (retK false .bool) = m12 x.1 := by kernel_rfl
theorem p12 : PmOk Try.prog e12 := pm_ok (E := E12) ok12 ord lm12 Try.func12 ca12 q12

theorem ca25 : callable Try.prog 25 := ⟨Try.f25, Try.func25, by kernel_rfl, by kernel_rfl⟩
/-! 25: slices.Clone[[]consol/api.Tranche,consol/api.Tranche] -/
noncomputable def c25 : CmE := ownE 25 [(.sl G38)] G38 (fun x => cloneM x.1)
theorem d25 : CmOk Try.prog c25 := own_ok ca25 (clone_run (g := G38) ord Try.func25 Try.underlying22 rfl (by kernel_rfl) (fun _ => by kernel_rfl) (by kernel_rfl) (fun _ => by kernel_rfl))

theorem ca26 : callable Try.prog 26 := ⟨Try.f26, Try.func26, by kernel_rfl, by kernel_rfl⟩
/-! 26: slices.Clone[[]consol/api.Test,consol/api.Test] -/
noncomputable def c26 : CmE := ownE 26 [(.sl G38)] G38 (fun x => cloneM x.1)
theorem d26 : CmOk Try.prog c26 := own_ok ca26 (clone_run (g := G38) ord Try.func26 Try.underlying23 rfl (by kernel_rfl) (fun _ => by kernel_rfl) (by kernel_rfl) (fun _ => by kernel_rfl))

theorem ca27 : callable Try.prog 27 := ⟨Try.f27, Try.func27, by kernel_rfl, by kernel_rfl⟩
/-! 27: slices.Clone[[]consol/api.Step,consol/api.Step] -/
noncomputable def c27 : CmE := ownE 27 [(.sl G41)] G41 (fun x => cloneM x.1)
theorem d27 : CmOk Try.prog c27 := own_ok ca27 (clone_run (g := G41) ord Try.func27 Try.underlying24 rfl (by kernel_rfl) (fun _ => by kernel_rfl) (by kernel_rfl) (fun _ => by kernel_rfl))

/-! 8: consol/fall.Run -/
theorem ca20 : callable Try.prog 20 := ⟨Try.f20, Try.func20, by kernel_rfl, by kernel_rfl⟩
noncomputable def E8i20 : Env := mkEnv2 Try.prog [] []
theorem ok8i20 : EnvOk E8i20 := mkEnv2_ok (by simp) (by simp)
noncomputable def C8i20 : Cfg := noCfg
theorem lm8i20 : ∀ c, Try.f20.body = some c → LmOk E8i20 C8i20 Try.f20.ntmps c := fun _ _ => noCfg_lm
noncomputable def c8i20 : CmE := inl E8i20 C8i20 20 Try.f20
theorem d8i20 : CmOk Try.prog c8i20 := inl_ok (E := E8i20) ok8i20 ord lm8i20 Try.func20 ca20

theorem ca21 : callable Try.prog 21 := ⟨Try.f21, Try.func21, by kernel_rfl, by kernel_rfl⟩
noncomputable def E8i21 : Env := mkEnv2 Try.prog [] []
theorem ok8i21 : EnvOk E8i21 := mkEnv2_ok (by simp) (by simp)
noncomputable def C8i21 : Cfg := noCfg
theorem lm8i21 : ∀ c, Try.f21.body = some c → LmOk E8i21 C8i21 Try.f21.ntmps c := fun _ _ => noCfg_lm
noncomputable def c8i21 : CmE := inl E8i21 C8i21 21 Try.f21
theorem d8i21 : CmOk Try.prog c8i21 := inl_ok (E := E8i21) ok8i21 ord lm8i21 Try.func21 ca21

theorem ca22 : callable Try.prog 22 := ⟨Try.f22, Try.func22, by kernel_rfl, by kernel_rfl⟩
noncomputable def E8i22 : Env := mkEnv2 Try.prog [] []
theorem ok8i22 : EnvOk E8i22 := mkEnv2_ok (by simp) (by simp)
noncomputable def C8i22 : Cfg := noCfg
theorem lm8i22 : ∀ c, Try.f22.body = some c → LmOk E8i22 C8i22 Try.f22.ntmps c := fun _ _ => noCfg_lm
noncomputable def c8i22 : CmE := inl E8i22 C8i22 22 Try.f22
theorem d8i22 : CmOk Try.prog c8i22 := inl_ok (E := E8i22) ok8i22 ord lm8i22 Try.func22 ca22

theorem ca32 : callable Try.prog 32 := ⟨Try.f32, Try.func32, by kernel_rfl, by kernel_rfl⟩
noncomputable def E8i32 : Env := mkEnv2 Try.prog [] [] [11]
theorem ok8i32 : EnvOk E8i32 := mkEnv2_ok (by simp) (by simp)
/-- a round of a loop of consol/fall.passed -/
noncomputable def s8_1 {R : Type} (t14 : Nat) (t14_2 : Nat) (t15 : Int) (o5 : (List T38)) (kn : Int → Int → Option R) (k1 : Int → Option R) (t5 : Int) (t16 : Int) : Option R :=
  bif (decide (t16 < t15)) then
    asrt true (decide (0 ≤ t16) && decide (t16 < ((t14_2 : Nat) : Int))) (
      ((o5)[(t14 + (t16 : Int).toNat)]?).bind fun x9 =>
      kn (IntKind.i64.wrap (t5 + x9.1)) (IntKind.i64.wrap (t16 + 1)))
  else
    k1 t5
noncomputable def l8_1 {R : Type} (t14 : Nat) (t14_2 : Nat) (t15 : Int) (o5 : (List T38)) (k1 : Int → Option R) : Nat → Int → Int → Option R
  | 0, _, _ => none
  | n + 1, t5, t16 => s8_1 t14 t14_2 t15 o5 (l8_1 t14 t14_2 t15 o5 k1 n) k1 t5 t16
noncomputable def L8_1 : LE := ⟨4, 9, ⟨[(0, (.box 0 [] 0)), (3, (.box 9 [] 0)), (5, (.dat (.int .i64))), (14, (.vw 5 G38)), (15, (.dat (.int .i64))), (16, (.dat (.int .i64)))], [(.box (.agg (.scons (.dat (.int .i64)) (.scons (.dat (.int .i64)) (.scons (.dat (.int .i64)) (.scons (.dat (.int .i64)) (.scons (.own 5) (.scons (.own 6) (.scons (.own 4) .snil))))))))), .dead, .dead, .dead, (.arr G41), (.arr G38), (.arr G38), .dead, .dead, (.box (.dat G38))]⟩, fun R n x k => l8_1 x.1.2.2.2.1.1 x.1.2.2.2.1.2 x.1.2.2.2.2.1 x.2.2.2.2.2.2.1 (fun y0 => k (.exit 0) ⟨[(0, (.box 0 [] 0)), (3, (.box 9 [] 0)), (5, (.dat (.int .i64) y0))], [(.box (.agg (.scons (.dat (.int .i64) x.2.1.1) (.scons (.dat (.int .i64) x.2.1.2.1) (.scons (.dat (.int .i64) x.2.1.2.2.1) (.scons (.dat (.int .i64) x.2.1.2.2.2.1) (.scons (.own 5) (.scons (.own 6) (.scons (.own 4) .snil))))))))), .dead, .dead, .dead, (.arr G41 x.2.2.2.2.2.1), (.arr G38 x.2.2.2.2.2.2.1), (.arr G38 x.2.2.2.2.2.2.2.1), .dead, .dead, (.box (.dat G38 x.2.2.2.2.2.2.2.2.2.2.1))]⟩) n x.1.2.2.1 x.1.2.2.2.2.2.1⟩
noncomputable def C8i32 : Cfg := mkCfg [(4, ⟨[0, 3, 5, 14, 15, 16], []⟩)] [(4, (⟨[0, 3, 5], []⟩, ⟨[4], []⟩))] (([(0, L8_1)] : List (Nat × LE)).map (·.2))
theorem ek8_1 : EOk E8i32 C8i32 Try.f32.ntmps (bodyL Try.f32 0) L8_1 := eok_of (e := L8_1) (fun R x Kn k => s8_1 x.1.2.2.2.1.1 x.1.2.2.2.1.2 x.1.2.2.2.2.1 x.2.2.2.2.2.2.1 (fun v0 v1 => Kn (((), (), v0, (x.1.2.2.2.1.1, x.1.2.2.2.1.2), x.1.2.2.2.2.1, v1, ()), ((x.2.1.1, x.2.1.2.1, x.2.1.2.2.1, x.2.1.2.2.2.1, (), (), (), ()), (), (), (), x.2.2.2.2.2.1, x.2.2.2.2.2.2.1, x.2.2.2.2.2.2.2.1, (), (), x.2.2.2.2.2.2.2.2.2.2.1, ()))) (fun y0 => k (.exit 0) ⟨[(0, (.box 0 [] 0)), (3, (.box 9 [] 0)), (5, (.dat (.int .i64) y0))], [(.box (.agg (.scons (.dat (.int .i64) x.2.1.1) (.scons (.dat (.int .i64) x.2.1.2.1) (.scons (.dat (.int .i64) x.2.1.2.2.1) (.scons (.dat (.int .i64) x.2.1.2.2.2.1) (.scons (.own 5) (.scons (.own 6) (.scons (.own 4) .snil))))))))), .dead, .dead, .dead, (.arr G41 x.2.2.2.2.2.1), (.arr G38 x.2.2.2.2.2.2.1), (.arr G38 x.2.2.2.2.2.2.2.1), .dead, .dead, (.box (.dat G38 x.2.2.2.2.2.2.2.2.2.2.1))]⟩) x.1.2.2.1 x.1.2.2.2.2.2.1) (fun _ _ _ => rfl) (fun _ _ _ _ => rfl) (fun R x Kn k => by kernel_rfl)
theorem lm8i32 : ∀ c, Try.f32.body = some c → LmOk E8i32 C8i32 Try.f32.ntmps c := lmOk_of (ps := [(0, L8_1)]) (by kernel_rfl) (by kernel_rfl) ⟨ek8_1, trivial⟩
noncomputable def c8i32 : CmE := inl E8i32 C8i32 32 Try.f32
theorem d8i32 : CmOk Try.prog c8i32 := inl_ok (E := E8i32) ok8i32 ord lm8i32 Try.func32 ca32

theorem ca23 : callable Try.prog 23 := ⟨Try.f23, Try.func23, by kernel_rfl, by kernel_rfl⟩
noncomputable def E8i23 : Env := mkEnv2 Try.prog [] [c8i32]
theorem ok8i23 : EnvOk E8i23 := mkEnv2_ok (by simp) (by simp only [List.mem_cons, List.not_mem_nil, or_false, forall_eq]; exact d8i32)
noncomputable def C8i23 : Cfg := noCfg
theorem lm8i23 : ∀ c, Try.f23.body = some c → LmOk E8i23 C8i23 Try.f23.ntmps c := fun _ _ => noCfg_lm
noncomputable def c8i23 : CmE := inl E8i23 C8i23 23 Try.f23
theorem d8i23 : CmOk Try.prog c8i23 := inl_ok (E := E8i23) ok8i23 ord lm8i23 Try.func23 ca23

theorem ca24 : callable Try.prog 24 := ⟨Try.f24, Try.func24, by kernel_rfl, by kernel_rfl⟩
noncomputable def E8i24 : Env := mkEnv2 Try.prog [] []
theorem ok8i24 : EnvOk E8i24 := mkEnv2_ok (by simp) (by simp)
noncomputable def C8i24 : Cfg := noCfg
theorem lm8i24 : ∀ c, Try.f24.body = some c → LmOk E8i24 C8i24 Try.f24.ntmps c := fun _ _ => noCfg_lm
noncomputable def c8i24 : CmE := inl E8i24 C8i24 24 Try.f24
theorem d8i24 : CmOk Try.prog c8i24 := inl_ok (E := E8i24) ok8i24 ord lm8i24 Try.func24 ca24

theorem ca8 : callable Try.prog 8 := ⟨Try.f8, Try.func8, by kernel_rfl, by kernel_rfl⟩
noncomputable def E8 : Env := mkEnv2 Try.prog [e12, e19] [c8i20, c8i21, c8i22, c8i23, c8i24, c25, c26, c27]
theorem ok8 : EnvOk E8 := mkEnv2_ok (by simp only [List.mem_cons, List.not_mem_nil, or_false, forall_eq_or_imp, forall_eq]; exact ⟨p12, p19⟩) (by simp only [List.mem_cons, List.not_mem_nil, or_false, forall_eq_or_imp, forall_eq]; exact ⟨d8i20, d8i21, d8i22, d8i23, d8i24, d25, d26, d27⟩)
/-- a round of a loop of consol/fall.Run -/
noncomputable def s8_2 {R : Type} (t47 : Int) (o0 : Int) (o4 : (List T41)) (o6 : (List T38)) (kn : Int → Int → Int → Int → Int → (List Int) → (List T38) → Option R) (k1 : Int → Int → Int → Int → (List Int) → (List T38) → Option R) (t7 : Int) (t48 : Int) (o0_2 : Int) (o0_3 : Int) (o0_4 : Int) (o3 : (List Int)) (o5 : (List T38)) : Option R :=
  bif (decide (t48 < t47)) then
    asrt true (decide (0 ≤ t48) && decide (t48 < (List.length o4 : Int))) (
      ((o4)[(t48 : Int).toNat]?).bind fun x7 =>
      bif (decide (x7.1 = 0)) then
        asrt true (decide (0 ≤ x7.2.1) && decide (x7.2.1 < (List.length o5 : Int))) (
          ((o5)[(x7.2.1 : Int).toNat]?).bind fun x14 =>
          ((o5)[(x7.2.1 : Int).toNat]?).bind fun x15 =>
          ((o5)[(x7.2.1 : Int).toNat]?).bind fun x16 =>
          asrt true (decide (List.length (α := Int) o3 + List.length (α := Int) [(bif decide ((IntKind.i64.wrap (t7 + o0_2)) < x14.2.1) then (IntKind.i64.wrap (t7 + o0_2)) else x14.2.1)] ≤ LIM)) (
            kn (IntKind.i64.wrap (t7 - (bif decide (t7 < (bif decide ((IntKind.i64.wrap (t7 + o0_2)) < x14.2.1) then (IntKind.i64.wrap (t7 + o0_2)) else x14.2.1)) then t7 else (bif decide ((IntKind.i64.wrap (t7 + o0_2)) < x14.2.1) then (IntKind.i64.wrap (t7 + o0_2)) else x14.2.1)))) (IntKind.i64.wrap (t48 + 1)) (IntKind.i64.wrap (o0_2 - (IntKind.i64.wrap ((bif decide ((IntKind.i64.wrap (t7 + o0_2)) < x14.2.1) then (IntKind.i64.wrap (t7 + o0_2)) else x14.2.1) - (bif decide (t7 < (bif decide ((IntKind.i64.wrap (t7 + o0_2)) < x14.2.1) then (IntKind.i64.wrap (t7 + o0_2)) else x14.2.1)) then t7 else (bif decide ((IntKind.i64.wrap (t7 + o0_2)) < x14.2.1) then (IntKind.i64.wrap (t7 + o0_2)) else x14.2.1)))))) o0_3 o0_4 (o3 ++ [(bif decide ((IntKind.i64.wrap (t7 + o0_2)) < x14.2.1) then (IntKind.i64.wrap (t7 + o0_2)) else x14.2.1)]) (List.set o5 (x7.2.1 : Int).toNat (x16.1, (IntKind.i64.wrap (x15.2.1 - (bif decide ((IntKind.i64.wrap (t7 + o0_2)) < x14.2.1) then (IntKind.i64.wrap (t7 + o0_2)) else x14.2.1))), ()))))
      else
        bif (decide (x7.1 = 1)) then
          asrt true (decide (0 ≤ x7.2.1) && decide (x7.2.1 < (List.length o5 : Int))) (
            ((o5)[(x7.2.1 : Int).toNat]?).bind fun x11 =>
            ((o5)[(x7.2.1 : Int).toNat]?).bind fun x12 =>
            ((o5)[(x7.2.1 : Int).toNat]?).bind fun x13 =>
            asrt true (decide (List.length (α := Int) o3 + List.length (α := Int) [(bif decide (t7 < x11.1) then t7 else x11.1)] ≤ LIM)) (
              kn (IntKind.i64.wrap (t7 - (bif decide (t7 < x11.1) then t7 else x11.1))) (IntKind.i64.wrap (t48 + 1)) o0_2 o0_3 o0_4 (o3 ++ [(bif decide (t7 < x11.1) then t7 else x11.1)]) (List.set o5 (x7.2.1 : Int).toNat ((IntKind.i64.wrap (x12.1 - (bif decide (t7 < x11.1) then t7 else x11.1))), x13.2.1, ()))))
        else
          bif (decide (x7.1 = 2)) then
            asrt true (decide (List.length (α := Int) o3 + List.length (α := Int) [(bif decide ((bif decide (0 > (IntKind.i64.wrap (x7.2.2.1 - o0_2))) then 0 else (IntKind.i64.wrap (x7.2.2.1 - o0_2))) < t7) then (bif decide (0 > (IntKind.i64.wrap (x7.2.2.1 - o0_2))) then 0 else (IntKind.i64.wrap (x7.2.2.1 - o0_2))) else t7)] ≤ LIM)) (
              kn (IntKind.i64.wrap (t7 - (bif decide ((bif decide (0 > (IntKind.i64.wrap (x7.2.2.1 - o0_2))) then 0 else (IntKind.i64.wrap (x7.2.2.1 - o0_2))) < t7) then (bif decide (0 > (IntKind.i64.wrap (x7.2.2.1 - o0_2))) then 0 else (IntKind.i64.wrap (x7.2.2.1 - o0_2))) else t7))) (IntKind.i64.wrap (t48 + 1)) (IntKind.i64.wrap (o0_2 + (bif decide ((bif decide (0 > (IntKind.i64.wrap (x7.2.2.1 - o0_2))) then 0 else (IntKind.i64.wrap (x7.2.2.1 - o0_2))) < t7) then (bif decide (0 > (IntKind.i64.wrap (x7.2.2.1 - o0_2))) then 0 else (IntKind.i64.wrap (x7.2.2.1 - o0_2))) else t7))) o0_3 o0_4 (o3 ++ [(bif decide ((bif decide (0 > (IntKind.i64.wrap (x7.2.2.1 - o0_2))) then 0 else (IntKind.i64.wrap (x7.2.2.1 - o0_2))) < t7) then (bif decide (0 > (IntKind.i64.wrap (x7.2.2.1 - o0_2))) then 0 else (IntKind.i64.wrap (x7.2.2.1 - o0_2))) else t7)]) o5)
          else
            bif (decide (x7.1 = 3)) then
              asrt true (decide (0 ≤ x7.2.1) && decide (x7.2.1 < (List.length o6 : Int))) (
                ((o6)[(x7.2.1 : Int).toNat]?).bind fun x8 =>
                asrt true (bounds true (List.length (α := T38) o5) 0 x8.1) (
                  l8_1 0 (Int.toNat x8.1) (((Int.toNat x8.1) : Nat) : Int) o5 (fun y10 =>
                      bif (decide (y10 ≤ (IntKind.i64.wrap (Int.tdiv (IntKind.i64.wrap (x8.2.1 * o0)) 1000)))) then
                        asrt true (decide (List.length (α := Int) o3 + List.length (α := Int) [0] ≤ LIM)) (
                          kn (IntKind.i64.wrap (t7 - 0)) (IntKind.i64.wrap (t48 + 1)) o0_2 o0_3 o0_4 (o3 ++ [0]) o5)
                      else
                        asrt true (decide (List.length (α := Int) o3 + List.length (α := Int) [t7] ≤ LIM)) (
                          kn (IntKind.i64.wrap (t7 - t7)) (IntKind.i64.wrap (t48 + 1)) o0_2 (IntKind.i64.wrap (o0_3 + t7)) o0_4 (o3 ++ [t7]) o5)) FUEL 0 0))
            else
              bif (decide (x7.1 = 4)) then
                asrt true (decide (List.length (α := Int) o3 + List.length (α := Int) [t7] ≤ LIM)) (
                  kn (IntKind.i64.wrap (t7 - t7)) (IntKind.i64.wrap (t48 + 1)) o0_2 o0_3 (IntKind.i64.wrap (o0_4 + t7)) (o3 ++ [t7]) o5)
              else
                none)
  else
    k1 t7 o0_2 o0_3 o0_4 o3 o5
noncomputable def l8_2 {R : Type} (t47 : Int) (o0 : Int) (o4 : (List T41)) (o6 : (List T38)) (k1 : Int → Int → Int → Int → (List Int) → (List T38) → Option R) : Nat → Int → Int → Int → Int → Int → (List Int) → (List T38) → Option R
  | 0, _, _, _, _, _, _, _ => none
  | n + 1, t7, t48, o0_2, o0_3, o0_4, o3, o5 => s8_2 t47 o0 o4 o6 (l8_2 t47 o0 o4 o6 k1 n) k1 t7 t48 o0_2 o0_3 o0_4 o3 o5
noncomputable def L8_2 : LE := ⟨12, 0, ⟨[(2, (.box 0 [] 0)), (4, (.box 1 [] 0)), (7, (.dat (.int .i64))), (8, (.box 2 [] 0)), (9, (.own 3)), (46, (.own 4)), (47, (.dat (.int .i64))), (48, (.dat (.int .i64)))], [(.box (.agg (.scons (.dat (.int .i64)) (.scons (.dat (.int .i64)) (.scons (.dat (.int .i64)) (.scons (.dat (.int .i64)) (.scons (.own 5) (.scons (.own 6) (.scons (.own 4) .snil))))))))), (.box (.agg (.scons (.dat (.int .i64)) (.scons (.dat (.int .i64)) (.scons (.dat (.int .i64)) (.scons (.dat (.int .i64)) (.scons .nils (.scons .nils (.scons .nils .snil))))))))), (.box (.agg (.scons (.fn 20 .snil) (.scons (.fn 21 .snil) (.scons (.fn 22 .snil) (.scons (.fn 23 .snil) (.scons (.fn 24 .snil) .snil))))))), (.arr (.int .i64)), (.arr G41), (.arr G38), (.arr G38)]⟩, fun R n x k => l8_2 x.1.2.2.2.2.2.2.1 x.2.1.1 x.2.2.2.2.2.1 x.2.2.2.2.2.2.2.1 (fun y0 y1 y2 y3 y4 y5 => k (.exit 0) ⟨[(2, (.box 0 [] 0)), (4, (.box 1 [] 0)), (7, (.dat (.int .i64) y0)), (9, (.own 2))], [(.box (.agg (.scons (.dat (.int .i64) x.2.1.1) (.scons (.dat (.int .i64) y1) (.scons (.dat (.int .i64) y2) (.scons (.dat (.int .i64) y3) (.scons (.own 3) (.scons (.own 4) (.scons (.own 5) .snil))))))))), (.box (.agg (.scons (.dat (.int .i64) x.2.2.1.1) (.scons (.dat (.int .i64) x.2.2.1.2.1) (.scons (.dat (.int .i64) x.2.2.1.2.2.1) (.scons (.dat (.int .i64) x.2.2.1.2.2.2.1) (.scons .nils (.scons .nils (.scons .nils .snil))))))))), (.arr (.int .i64) y4), (.arr G38 y5), (.arr G38 x.2.2.2.2.2.2.2.1), (.arr G41 x.2.2.2.2.2.1)]⟩) n x.1.2.2.1 x.1.2.2.2.2.2.2.2.1 x.2.1.2.1 x.2.1.2.2.1 x.2.1.2.2.2.1 x.2.2.2.2.1 x.2.2.2.2.2.2.1⟩
noncomputable def C8 : Cfg := mkCfg [(12, ⟨[2, 4, 7, 8, 9, 46, 47, 48], [(9, [], (.int .i64))]⟩)] [(12, (⟨[2, 4, 7, 9], []⟩, ⟨[4, 5, 6], []⟩))] (([(0, L8_2)] : List (Nat × LE)).map (·.2))
theorem ek8_2 : EOk E8 C8 Try.f8.ntmps (bodyL Try.f8 0) L8_2 := eok_of (e := L8_2) (fun R x Kn k => s8_2 x.1.2.2.2.2.2.2.1 x.2.1.1 x.2.2.2.2.2.1 x.2.2.2.2.2.2.2.1 (fun v0 v1 v2 v3 v4 v5 v6 => Kn (((), (), v0, (), (), (), x.1.2.2.2.2.2.2.1, v1, ()), ((x.2.1.1, v2, v3, v4, (), (), (), ()), (x.2.2.1.1, x.2.2.1.2.1, x.2.2.1.2.2.1, x.2.2.1.2.2.2.1, (), (), (), ()), ((), (), (), (), (), ()), v5, x.2.2.2.2.2.1, v6, x.2.2.2.2.2.2.2.1, ()))) (fun y0 y1 y2 y3 y4 y5 => k (.exit 0) ⟨[(2, (.box 0 [] 0)), (4, (.box 1 [] 0)), (7, (.dat (.int .i64) y0)), (9, (.own 2))], [(.box (.agg (.scons (.dat (.int .i64) x.2.1.1) (.scons (.dat (.int .i64) y1) (.scons (.dat (.int .i64) y2) (.scons (.dat (.int .i64) y3) (.scons (.own 3) (.scons (.own 4) (.scons (.own 5) .snil))))))))), (.box (.agg (.scons (.dat (.int .i64) x.2.2.1.1) (.scons (.dat (.int .i64) x.2.2.1.2.1) (.scons (.dat (.int .i64) x.2.2.1.2.2.1) (.scons (.dat (.int .i64) x.2.2.1.2.2.2.1) (.scons .nils (.scons .nils (.scons .nils .snil))))))))), (.arr (.int .i64) y4), (.arr G38 y5), (.arr G38 x.2.2.2.2.2.2.2.1), (.arr G41 x.2.2.2.2.2.1)]⟩) x.1.2.2.1 x.1.2.2.2.2.2.2.2.1 x.2.1.2.1 x.2.1.2.2.1 x.2.1.2.2.2.1 x.2.2.2.2.1 x.2.2.2.2.2.2.1) (fun _ _ _ => rfl) (fun _ _ _ _ => rfl) (fun R x Kn k => by kernel_rfl)
theorem lm8 : ∀ c, Try.f8.body = some c → LmOk E8 C8 Try.f8.ntmps c := lmOk_of (ps := [(0, L8_2)]) (by kernel_rfl) (by kernel_rfl) ⟨ek8_2, trivial⟩
noncomputable def m8 (a0 : T25) (a1 : Int) : Option ((T25 × ((List Int) × (Int × Unit)))) :=
  (m12 a0).bind fun r1 =>
  (bif ((!r1) == false) then (m19 a1) else some false).bind fun r2 =>
  bif ((!r1) || (!r2)) then
    some ((0, 0, 0, 0, [], [], [], ()), [], 1, ())
  else
    (m19 (IntKind.i64.wrap (a1 + a0.2.2.1))).bind fun r3 =>
    bif (!r3) then
      some ((0, 0, 0, 0, [], [], [], ()), [], 3, ())
    else
      (cloneM a0.2.2.2.2.1).bind fun r4 =>
      (cloneM a0.2.2.2.2.2.1).bind fun r5 =>
      (cloneM a0.2.2.2.2.2.2.1).bind fun r6 =>
      l8_2 (List.length r6 : Int) a0.1 r6 r5 (fun y17 y18 y19 y20 y21 y22 =>
          (m19 y20).bind fun r23 =>
          (bif ((!r23) == false) then (m19 (IntKind.i64.wrap (y19 + y17))) else some false).bind fun r24 =>
          (bif (((!r23) || (!r24)) == false) then (m19 y18) else some false).bind fun r25 =>
          bif (((!r23) || (!r24)) || (!r25)) then
            some ((0, 0, 0, 0, [], [], [], ()), [], 3, ())
          else
            some ((a0.1, y18, (IntKind.i64.wrap (y19 + y17)), y20, y22, r5, r6, ()), y21, 0, ())) FUEL (IntKind.i64.wrap (a1 + a0.2.2.1)) 0 a0.2.1 0 a0.2.2.2.1 [] r4
noncomputable def e8 : PmE := entry 8 [G25, (.int .i64)] true (.cons G25 (.cons (.sl (.int .i64)) (.cons (.int .i64) .nil))) (fun x => m8 x.1 x.2.1)
theorem q8 (x : tyL [G25, (.int .i64)]) : execF E8 C8 Try.f8 (datL [G25, (.int .i64)] x) [] (retK true (.cons G25 (.cons (.sl (.int .i64)) (.cons (.int .i64) .nil)))) = m8 x.1 x.2.1 := by kernel_rfl
theorem p8 : PmOk Try.prog e8 := pm_ok (E := E8) ok8 ord lm8 Try.func8 ca8 q8

noncomputable def cK8 : CmE := konE 8 [G25, (.int .i64)] true (.cons G25 (.cons (.sl (.int .i64)) (.cons (.int .i64) .nil))) (fun x => m8 x.1 x.2.1)
theorem dK8 : CmOk Try.prog cK8 := kon_ok p8

/-! 11: consol/consolref23.Ints -/
theorem ca11 : callable Try.prog 11 := ⟨Try.f11, Try.func11, by kernel_rfl, by kernel_rfl⟩
noncomputable def E11 : Env := mkEnv2 Try.prog [] []
theorem ok11 : EnvOk E11 := mkEnv2_ok (by simp) (by simp)
/-- a round of a loop of consol/consolref23.Ints -/
noncomputable def s11_1 {R : Type} (t0 : (List Int)) (t1 : (List Int)) (kn : Int → Option R) (k1 : Option R) (k2 : Option R) (t5 : Int) : Option R :=
  bif (decide (t5 < (List.length t0 : Int))) then
    (idx t0 t5).bind fun x1 =>
    (idx t1 t5).bind fun x2 =>
    bif (x1 != x2) then
      k2
    else
      kn (IntKind.i64.wrap (t5 + 1))
  else
    k1
noncomputable def l11_1 {R : Type} (t0 : (List Int)) (t1 : (List Int)) (k1 : Option R) (k2 : Option R) : Nat → Int → Option R
  | 0, _ => none
  | n + 1, t5 => s11_1 t0 t1 (l11_1 t0 t1 k1 k2 n) k1 k2 t5
noncomputable def L11_1 : LE := ⟨5, 0, ⟨[(0, (.dat (.sl (.int .i64)))), (1, (.dat (.sl (.int .i64)))), (5, (.dat (.int .i64)))], []⟩, fun R n x k => l11_1 x.1.1 x.1.2.1 (k (.exit 0) ⟨[], []⟩) (k .ret ⟨[(4, (.dat .bool false))], []⟩) n x.1.2.2.1⟩
noncomputable def C11 : Cfg := mkCfg [(5, ⟨[0, 1, 5], []⟩)] [(5, (⟨[], []⟩, ⟨[4], []⟩))] (([(0, L11_1)] : List (Nat × LE)).map (·.2))
theorem ek11_1 : EOk E11 C11 Try.f11.ntmps (bodyL Try.f11 0) L11_1 := eok_of (e := L11_1) (fun R x Kn k => s11_1 x.1.1 x.1.2.1 (fun v0 => Kn ((x.1.1, x.1.2.1, v0, ()), (()))) (k (.exit 0) ⟨[], []⟩) (k .ret ⟨[(4, (.dat .bool false))], []⟩) x.1.2.2.1) (fun _ _ _ => rfl) (fun _ _ _ _ => rfl) (fun R x Kn k => by kernel_rfl)
theorem lm11 : ∀ c, Try.f11.body = some c → LmOk E11 C11 Try.f11.ntmps c := lmOk_of (ps := [(0, L11_1)]) (by kernel_rfl) (by kernel_rfl) ⟨ek11_1, trivial⟩
noncomputable def m11 (a0 : (List Int)) (a1 : (List Int)) : Option (Bool) :=
  bif ((List.length a0 : Int) != (List.length a1 : Int)) then
    some false
  else
    l11_1 a0 a1 (
        some true) (
        some false) FUEL 0
noncomputable def e11 : PmE := entry 11 [(.sl (.int .i64)), (.sl (.int .i64))] false .bool (fun x => m11 x.1 x.2.1)
theorem q11 (x : tyL [(.sl (.int .i64)), (.sl (.int .i64))]) : execF E11 C11 Try.f11 (datL [(.sl (.int .i64)), (.sl (.int .i64))] x) [] (retK false .bool) = m11 x.1 x.2.1 := by kernel_rfl
theorem p11 : PmOk Try.prog e11 := pm_ok (E := E11) ok11 ord lm11 Try.func11 ca11 q11

/-! 14: consol/fall.Passed -/
noncomputable def E14i32 : Env := mkEnv2 Try.prog [] [] [11]
theorem ok14i32 : EnvOk E14i32 := mkEnv2_ok (by simp) (by simp)
/-- a round of a loop of consol/fall.passed -/
noncomputable def s14_1 {R : Type} (t14 : (List T38)) (t15 : Int) (kn : Int → Int → Option R) (k1 : Int → Option R) (t5 : Int) (t16 : Int) : Option R :=
  bif (decide (t16 < t15)) then
    (idx t14 t16).bind fun x3 =>
    kn (IntKind.i64.wrap (t5 + x3.1)) (IntKind.i64.wrap (t16 + 1))
  else
    k1 t5
noncomputable def l14_1 {R : Type} (t14 : (List T38)) (t15 : Int) (k1 : Int → Option R) : Nat → Int → Int → Option R
  | 0, _, _ => none
  | n + 1, t5, t16 => s14_1 t14 t15 (l14_1 t14 t15 k1 n) k1 t5 t16
noncomputable def L14_1 : LE := ⟨4, 1, ⟨[(0, (.box 0 [] 0)), (3, (.box 1 [] 0)), (5, (.dat (.int .i64))), (14, (.dat (.sl G38))), (15, (.dat (.int .i64))), (16, (.dat (.int .i64)))], [(.box (.dat G25)), (.box (.dat G38))]⟩, fun R n x k => l14_1 x.1.2.2.2.1 x.1.2.2.2.2.1 (fun y0 => k (.exit 0) ⟨[(0, (.box 0 [] 0)), (3, (.box 1 [] 0)), (5, (.dat (.int .i64) y0))], [(.box (.dat G25 x.2.1)), (.box (.dat G38 x.2.2.1))]⟩) n x.1.2.2.1 x.1.2.2.2.2.2.1⟩
noncomputable def C14i32 : Cfg := mkCfg [(4, ⟨[0, 3, 5, 14, 15, 16], []⟩)] [(4, (⟨[0, 3, 5], []⟩, ⟨[4], []⟩))] (([(0, L14_1)] : List (Nat × LE)).map (·.2))
theorem ek14_1 : EOk E14i32 C14i32 Try.f32.ntmps (bodyL Try.f32 0) L14_1 := eok_of (e := L14_1) (fun R x Kn k => s14_1 x.1.2.2.2.1 x.1.2.2.2.2.1 (fun v0 v1 => Kn (((), (), v0, x.1.2.2.2.1, x.1.2.2.2.2.1, v1, ()), (x.2.1, x.2.2.1, ()))) (fun y0 => k (.exit 0) ⟨[(0, (.box 0 [] 0)), (3, (.box 1 [] 0)), (5, (.dat (.int .i64) y0))], [(.box (.dat G25 x.2.1)), (.box (.dat G38 x.2.2.1))]⟩) x.1.2.2.1 x.1.2.2.2.2.2.1) (fun _ _ _ => rfl) (fun _ _ _ _ => rfl) (fun R x Kn k => by kernel_rfl)
theorem lm14i32 : ∀ c, Try.f32.body = some c → LmOk E14i32 C14i32 Try.f32.ntmps c := lmOk_of (ps := [(0, L14_1)]) (by kernel_rfl) (by kernel_rfl) ⟨ek14_1, trivial⟩
noncomputable def c14i32 : CmE := inl E14i32 C14i32 32 Try.f32
theorem d14i32 : CmOk Try.prog c14i32 := inl_ok (E := E14i32) ok14i32 ord lm14i32 Try.func32 ca32

theorem ca14 : callable Try.prog 14 := ⟨Try.f14, Try.func14, by kernel_rfl, by kernel_rfl⟩
noncomputable def E14 : Env := mkEnv2 Try.prog [e12] [c14i32]
theorem ok14 : EnvOk E14 := mkEnv2_ok (by simp only [List.mem_cons, List.not_mem_nil, or_false, forall_eq]; exact p12) (by simp only [List.mem_cons, List.not_mem_nil, or_false, forall_eq]; exact d14i32)
noncomputable def C14 : Cfg := noCfg
theorem lm14 : ∀ c, Try.f14.body = some c → LmOk E14 C14 Try.f14.ntmps c := fun _ _ => noCfg_lm
noncomputable def m14 (a0 : T25) (a1 : Int) : Option (Bool) :=
  (m12 a0).bind fun r1 =>
  (idxG (((r1 && (decide (a1 ≥ 0))) && (decide (a1 < (List.length a0.2.2.2.2.2.1 : Int)))) == true) (0, 0, ()) a0.2.2.2.2.2.1 a1).bind fun x2 =>
  bif (((r1 && (decide (a1 ≥ 0))) && (decide (a1 < (List.length a0.2.2.2.2.2.1 : Int)))) == true) then
    asrt true (bounds true (List.length a0.2.2.2.2.1) 0 x2.1) (
      l14_1 (subl a0.2.2.2.2.1 0 x2.1) (List.length (subl a0.2.2.2.2.1 0 x2.1) : Int) (fun y4 =>
          some (((r1 && (decide (a1 ≥ 0))) && (decide (a1 < (List.length a0.2.2.2.2.2.1 : Int)))) && (decide (y4 ≤ (IntKind.i64.wrap (Int.tdiv (IntKind.i64.wrap (x2.2.1 * a0.1)) 1000)))))) FUEL 0 0)
  else
    some (((r1 && (decide (a1 ≥ 0))) && (decide (a1 < (List.length a0.2.2.2.2.2.1 : Int)))) && false)
noncomputable def e14 : PmE := entry 14 [G25, (.int .i64)] false .bool (fun x => m14 x.1 x.2.1)
theorem q14 (x : tyL [G25, (.int .i64)]) : execF E14 C14 Try.f14 (datL [G25, (.int .i64)] x) [] (retK false .bool) = m14 x.1 x.2.1 := by kernel_rfl
theorem p14 : PmOk Try.prog e14 := pm_ok (E := E14) ok14 ord lm14 Try.func14 ca14 q14

/-! 7: consol/consollaw23.small -/
noncomputable def E7i32 : Env := mkEnv2 Try.prog [] [] [11]
theorem ok7i32 : EnvOk E7i32 := mkEnv2_ok (by simp) (by simp)
/-- a round of a loop of consol/fall.passed -/
noncomputable def s7_1 {R : Type} (t14 : Nat) (t14_2 : Nat) (t15 : Int) (o13 : (List T38)) (kn : Int → Int → Option R) (k1 : Int → Option R) (t5 : Int) (t16 : Int) : Option R :=
  bif (decide (t16 < t15)) then
    asrt true (decide (0 ≤ t16) && decide (t16 < ((t14_2 : Nat) : Int))) (
      ((o13)[(t14 + (t16 : Int).toNat)]?).bind fun x57 =>
      kn (IntKind.i64.wrap (t5 + x57.1)) (IntKind.i64.wrap (t16 + 1)))
  else
    k1 t5
noncomputable def l7_1 {R : Type} (t14 : Nat) (t14_2 : Nat) (t15 : Int) (o13 : (List T38)) (k1 : Int → Option R) : Nat → Int → Int → Option R
  | 0, _, _ => none
  | n + 1, t5, t16 => s7_1 t14 t14_2 t15 o13 (l7_1 t14 t14_2 t15 o13 k1 n) k1 t5 t16
noncomputable def L7_1 : LE := ⟨4, 17, ⟨[(0, (.box 8 [] 0)), (3, (.box 17 [] 0)), (5, (.dat (.int .i64))), (14, (.vw 13 G38)), (15, (.dat (.int .i64))), (16, (.dat (.int .i64)))], [.dead, .dead, .dead, .dead, .dead, .dead, .dead, .dead, (.box (.agg (.scons (.dat (.int .i64)) (.scons (.dat (.int .i64)) (.scons (.dat (.int .i64)) (.scons (.dat (.int .i64)) (.scons (.own 13) (.scons (.own 14) (.scons (.own 12) .snil))))))))), .dead, .dead, .dead, (.arr G41), (.arr G38), (.arr G38), .dead, .dead, (.box (.dat G38))]⟩, fun R n x k => l7_1 x.1.2.2.2.1.1 x.1.2.2.2.1.2 x.1.2.2.2.2.1 x.2.2.2.2.2.2.2.2.2.2.2.2.2.2.1 (fun y0 => k (.exit 0) ⟨[(0, (.box 8 [] 0)), (3, (.box 17 [] 0)), (5, (.dat (.int .i64) y0))], [.dead, .dead, .dead, .dead, .dead, .dead, .dead, .dead, (.box (.agg (.scons (.dat (.int .i64) x.2.2.2.2.2.2.2.2.2.1.1) (.scons (.dat (.int .i64) x.2.2.2.2.2.2.2.2.2.1.2.1) (.scons (.dat (.int .i64) x.2.2.2.2.2.2.2.2.2.1.2.2.1) (.scons (.dat (.int .i64) x.2.2.2.2.2.2.2.2.2.1.2.2.2.1) (.scons (.own 13) (.scons (.own 14) (.scons (.own 12) .snil))))))))), .dead, .dead, .dead, (.arr G41 x.2.2.2.2.2.2.2.2.2.2.2.2.2.1), (.arr G38 x.2.2.2.2.2.2.2.2.2.2.2.2.2.2.1), (.arr G38 x.2.2.2.2.2.2.2.2.2.2.2.2.2.2.2.1), .dead, .dead, (.box (.dat G38 x.2.2.2.2.2.2.2.2.2.2.2.2.2.2.2.2.2.2.1))]⟩) n x.1.2.2.1 x.1.2.2.2.2.2.1⟩
noncomputable def C7i32 : Cfg := mkCfg [(4, ⟨[0, 3, 5, 14, 15, 16], []⟩)] [(4, (⟨[0, 3, 5], []⟩, ⟨[4], []⟩))] (([(0, L7_1)] : List (Nat × LE)).map (·.2))
theorem ek7_1 : EOk E7i32 C7i32 Try.f32.ntmps (bodyL Try.f32 0) L7_1 := eok_of (e := L7_1) (fun R x Kn k => s7_1 x.1.2.2.2.1.1 x.1.2.2.2.1.2 x.1.2.2.2.2.1 x.2.2.2.2.2.2.2.2.2.2.2.2.2.2.1 (fun v0 v1 => Kn (((), (), v0, (x.1.2.2.2.1.1, x.1.2.2.2.1.2), x.1.2.2.2.2.1, v1, ()), ((), (), (), (), (), (), (), (), (x.2.2.2.2.2.2.2.2.2.1.1, x.2.2.2.2.2.2.2.2.2.1.2.1, x.2.2.2.2.2.2.2.2.2.1.2.2.1, x.2.2.2.2.2.2.2.2.2.1.2.2.2.1, (), (), (), ()), (), (), (), x.2.2.2.2.2.2.2.2.2.2.2.2.2.1, x.2.2.2.2.2.2.2.2.2.2.2.2.2.2.1, x.2.2.2.2.2.2.2.2.2.2.2.2.2.2.2.1, (), (), x.2.2.2.2.2.2.2.2.2.2.2.2.2.2.2.2.2.2.1, ()))) (fun y0 => k (.exit 0) ⟨[(0, (.box 8 [] 0)), (3, (.box 17 [] 0)), (5, (.dat (.int .i64) y0))], [.dead, .dead, .dead, .dead, .dead, .dead, .dead, .dead, (.box (.agg (.scons (.dat (.int .i64) x.2.2.2.2.2.2.2.2.2.1.1) (.scons (.dat (.int .i64) x.2.2.2.2.2.2.2.2.2.1.2.1) (.scons (.dat (.int .i64) x.2.2.2.2.2.2.2.2.2.1.2.2.1) (.scons (.dat (.int .i64) x.2.2.2.2.2.2.2.2.2.1.2.2.2.1) (.scons (.own 13) (.scons (.own 14) (.scons (.own 12) .snil))))))))), .dead, .dead, .dead, (.arr G41 x.2.2.2.2.2.2.2.2.2.2.2.2.2.1), (.arr G38 x.2.2.2.2.2.2.2.2.2.2.2.2.2.2.1), (.arr G38 x.2.2.2.2.2.2.2.2.2.2.2.2.2.2.2.1), .dead, .dead, (.box (.dat G38 x.2.2.2.2.2.2.2.2.2.2.2.2.2.2.2.2.2.2.1))]⟩) x.1.2.2.1 x.1.2.2.2.2.2.1) (fun _ _ _ => rfl) (fun _ _ _ _ => rfl) (fun R x Kn k => by kernel_rfl)
theorem lm7i32 : ∀ c, Try.f32.body = some c → LmOk E7i32 C7i32 Try.f32.ntmps c := lmOk_of (ps := [(0, L7_1)]) (by kernel_rfl) (by kernel_rfl) ⟨ek7_1, trivial⟩
noncomputable def c7i32 : CmE := inl E7i32 C7i32 32 Try.f32
theorem d7i32 : CmOk Try.prog c7i32 := inl_ok (E := E7i32) ok7i32 ord lm7i32 Try.func32 ca32

noncomputable def E7i23 : Env := mkEnv2 Try.prog [] [c7i32]
theorem ok7i23 : EnvOk E7i23 := mkEnv2_ok (by simp) (by simp only [List.mem_cons, List.not_mem_nil, or_false, forall_eq]; exact d7i32)
noncomputable def C7i23 : Cfg := noCfg
theorem lm7i23 : ∀ c, Try.f23.body = some c → LmOk E7i23 C7i23 Try.f23.ntmps c := fun _ _ => noCfg_lm
noncomputable def c7i23 : CmE := inl E7i23 C7i23 23 Try.f23
theorem d7i23 : CmOk Try.prog c7i23 := inl_ok (E := E7i23) ok7i23 ord lm7i23 Try.func23 ca23

noncomputable def E7i8 : Env := mkEnv2 Try.prog [e12, e19] [c8i20, c8i21, c8i22, c7i23, c8i24, c25, c26, c27]
theorem ok7i8 : EnvOk E7i8 := mkEnv2_ok (by simp only [List.mem_cons, List.not_mem_nil, or_false, forall_eq_or_imp, forall_eq]; exact ⟨p12, p19⟩) (by simp only [List.mem_cons, List.not_mem_nil, or_false, forall_eq_or_imp, forall_eq]; exact ⟨d8i20, d8i21, d8i22, d7i23, d8i24, d25, d26, d27⟩)
/-- a round of a loop of consol/fall.Run -/
noncomputable def s7_2 {R : Type} (t47 : Int) (o8 : Int) (o12 : (List T41)) (o14 : (List T38)) (kn : Int → Int → Int → Int → Int → (List Int) → (List T38) → Option R) (k1 : Int → Int → Int → Int → (List Int) → (List T38) → Option R) (t7 : Int) (t48 : Int) (o8_2 : Int) (o8_3 : Int) (o8_4 : Int) (o11 : (List Int)) (o13 : (List T38)) : Option R :=
  bif (decide (t48 < t47)) then
    asrt true (decide (0 ≤ t48) && decide (t48 < (List.length o12 : Int))) (
      ((o12)[(t48 : Int).toNat]?).bind fun x55 =>
      bif (decide (x55.1 = 0)) then
        asrt true (decide (0 ≤ x55.2.1) && decide (x55.2.1 < (List.length o13 : Int))) (
          ((o13)[(x55.2.1 : Int).toNat]?).bind fun x62 =>
          ((o13)[(x55.2.1 : Int).toNat]?).bind fun x63 =>
          ((o13)[(x55.2.1 : Int).toNat]?).bind fun x64 =>
          asrt true (decide (List.length (α := Int) o11 + List.length (α := Int) [(bif decide ((IntKind.i64.wrap (t7 + o8_2)) < x62.2.1) then (IntKind.i64.wrap (t7 + o8_2)) else x62.2.1)] ≤ LIM)) (
            kn (IntKind.i64.wrap (t7 - (bif decide (t7 < (bif decide ((IntKind.i64.wrap (t7 + o8_2)) < x62.2.1) then (IntKind.i64.wrap (t7 + o8_2)) else x62.2.1)) then t7 else (bif decide ((IntKind.i64.wrap (t7 + o8_2)) < x62.2.1) then (IntKind.i64.wrap (t7 + o8_2)) else x62.2.1)))) (IntKind.i64.wrap (t48 + 1)) (IntKind.i64.wrap (o8_2 - (IntKind.i64.wrap ((bif decide ((IntKind.i64.wrap (t7 + o8_2)) < x62.2.1) then (IntKind.i64.wrap (t7 + o8_2)) else x62.2.1) - (bif decide (t7 < (bif decide ((IntKind.i64.wrap (t7 + o8_2)) < x62.2.1) then (IntKind.i64.wrap (t7 + o8_2)) else x62.2.1)) then t7 else (bif decide ((IntKind.i64.wrap (t7 + o8_2)) < x62.2.1) then (IntKind.i64.wrap (t7 + o8_2)) else x62.2.1)))))) o8_3 o8_4 (o11 ++ [(bif decide ((IntKind.i64.wrap (t7 + o8_2)) < x62.2.1) then (IntKind.i64.wrap (t7 + o8_2)) else x62.2.1)]) (List.set o13 (x55.2.1 : Int).toNat (x64.1, (IntKind.i64.wrap (x63.2.1 - (bif decide ((IntKind.i64.wrap (t7 + o8_2)) < x62.2.1) then (IntKind.i64.wrap (t7 + o8_2)) else x62.2.1))), ()))))
      else
        bif (decide (x55.1 = 1)) then
          asrt true (decide (0 ≤ x55.2.1) && decide (x55.2.1 < (List.length o13 : Int))) (
            ((o13)[(x55.2.1 : Int).toNat]?).bind fun x59 =>
            ((o13)[(x55.2.1 : Int).toNat]?).bind fun x60 =>
            ((o13)[(x55.2.1 : Int).toNat]?).bind fun x61 =>
            asrt true (decide (List.length (α := Int) o11 + List.length (α := Int) [(bif decide (t7 < x59.1) then t7 else x59.1)] ≤ LIM)) (
              kn (IntKind.i64.wrap (t7 - (bif decide (t7 < x59.1) then t7 else x59.1))) (IntKind.i64.wrap (t48 + 1)) o8_2 o8_3 o8_4 (o11 ++ [(bif decide (t7 < x59.1) then t7 else x59.1)]) (List.set o13 (x55.2.1 : Int).toNat ((IntKind.i64.wrap (x60.1 - (bif decide (t7 < x59.1) then t7 else x59.1))), x61.2.1, ()))))
        else
          bif (decide (x55.1 = 2)) then
            asrt true (decide (List.length (α := Int) o11 + List.length (α := Int) [(bif decide ((bif decide (0 > (IntKind.i64.wrap (x55.2.2.1 - o8_2))) then 0 else (IntKind.i64.wrap (x55.2.2.1 - o8_2))) < t7) then (bif decide (0 > (IntKind.i64.wrap (x55.2.2.1 - o8_2))) then 0 else (IntKind.i64.wrap (x55.2.2.1 - o8_2))) else t7)] ≤ LIM)) (
              kn (IntKind.i64.wrap (t7 - (bif decide ((bif decide (0 > (IntKind.i64.wrap (x55.2.2.1 - o8_2))) then 0 else (IntKind.i64.wrap (x55.2.2.1 - o8_2))) < t7) then (bif decide (0 > (IntKind.i64.wrap (x55.2.2.1 - o8_2))) then 0 else (IntKind.i64.wrap (x55.2.2.1 - o8_2))) else t7))) (IntKind.i64.wrap (t48 + 1)) (IntKind.i64.wrap (o8_2 + (bif decide ((bif decide (0 > (IntKind.i64.wrap (x55.2.2.1 - o8_2))) then 0 else (IntKind.i64.wrap (x55.2.2.1 - o8_2))) < t7) then (bif decide (0 > (IntKind.i64.wrap (x55.2.2.1 - o8_2))) then 0 else (IntKind.i64.wrap (x55.2.2.1 - o8_2))) else t7))) o8_3 o8_4 (o11 ++ [(bif decide ((bif decide (0 > (IntKind.i64.wrap (x55.2.2.1 - o8_2))) then 0 else (IntKind.i64.wrap (x55.2.2.1 - o8_2))) < t7) then (bif decide (0 > (IntKind.i64.wrap (x55.2.2.1 - o8_2))) then 0 else (IntKind.i64.wrap (x55.2.2.1 - o8_2))) else t7)]) o13)
          else
            bif (decide (x55.1 = 3)) then
              asrt true (decide (0 ≤ x55.2.1) && decide (x55.2.1 < (List.length o14 : Int))) (
                ((o14)[(x55.2.1 : Int).toNat]?).bind fun x56 =>
                asrt true (bounds true (List.length (α := T38) o13) 0 x56.1) (
                  l7_1 0 (Int.toNat x56.1) (((Int.toNat x56.1) : Nat) : Int) o13 (fun y58 =>
                      bif (decide (y58 ≤ (IntKind.i64.wrap (Int.tdiv (IntKind.i64.wrap (x56.2.1 * o8)) 1000)))) then
                        asrt true (decide (List.length (α := Int) o11 + List.length (α := Int) [0] ≤ LIM)) (
                          kn (IntKind.i64.wrap (t7 - 0)) (IntKind.i64.wrap (t48 + 1)) o8_2 o8_3 o8_4 (o11 ++ [0]) o13)
                      else
                        asrt true (decide (List.length (α := Int) o11 + List.length (α := Int) [t7] ≤ LIM)) (
                          kn (IntKind.i64.wrap (t7 - t7)) (IntKind.i64.wrap (t48 + 1)) o8_2 (IntKind.i64.wrap (o8_3 + t7)) o8_4 (o11 ++ [t7]) o13)) FUEL 0 0))
            else
              bif (decide (x55.1 = 4)) then
                asrt true (decide (List.length (α := Int) o11 + List.length (α := Int) [t7] ≤ LIM)) (
                  kn (IntKind.i64.wrap (t7 - t7)) (IntKind.i64.wrap (t48 + 1)) o8_2 o8_3 (IntKind.i64.wrap (o8_4 + t7)) (o11 ++ [t7]) o13)
              else
                none)
  else
    k1 t7 o8_2 o8_3 o8_4 o11 o13
noncomputable def l7_2 {R : Type} (t47 : Int) (o8 : Int) (o12 : (List T41)) (o14 : (List T38)) (k1 : Int → Int → Int → Int → (List Int) → (List T38) → Option R) : Nat → Int → Int → Int → Int → Int → (List Int) → (List T38) → Option R
  | 0, _, _, _, _, _, _, _ => none
  | n + 1, t7, t48, o8_2, o8_3, o8_4, o11, o13 => s7_2 t47 o8 o12 o14 (l7_2 t47 o8 o12 o14 k1 n) k1 t7 t48 o8_2 o8_3 o8_4 o11 o13
noncomputable def L7_2 : LE := ⟨12, 8, ⟨[(2, (.box 8 [] 0)), (4, (.box 9 [] 0)), (7, (.dat (.int .i64))), (8, (.box 10 [] 0)), (9, (.own 11)), (46, (.own 12)), (47, (.dat (.int .i64))), (48, (.dat (.int .i64)))], [.dead, .dead, .dead, .dead, (.arr G38), (.arr G38), (.arr G41), .dead, (.box (.agg (.scons (.dat (.int .i64)) (.scons (.dat (.int .i64)) (.scons (.dat (.int .i64)) (.scons (.dat (.int .i64)) (.scons (.own 13) (.scons (.own 14) (.scons (.own 12) .snil))))))))), (.box (.agg (.scons (.dat (.int .i64)) (.scons (.dat (.int .i64)) (.scons (.dat (.int .i64)) (.scons (.dat (.int .i64)) (.scons .nils (.scons .nils (.scons .nils .snil))))))))), (.box (.agg (.scons (.fn 20 .snil) (.scons (.fn 21 .snil) (.scons (.fn 22 .snil) (.scons (.fn 23 .snil) (.scons (.fn 24 .snil) .snil))))))), (.arr (.int .i64)), (.arr G41), (.arr G38), (.arr G38)]⟩, fun R n x k => l7_2 x.1.2.2.2.2.2.2.1 x.2.2.2.2.2.2.2.2.2.1.1 x.2.2.2.2.2.2.2.2.2.2.2.2.2.1 x.2.2.2.2.2.2.2.2.2.2.2.2.2.2.2.1 (fun y0 y1 y2 y3 y4 y5 => k (.exit 0) ⟨[(2, (.box 8 [] 0)), (4, (.box 9 [] 0)), (7, (.dat (.int .i64) y0)), (9, (.own 10))], [.dead, .dead, .dead, .dead, (.arr G38 x.2.2.2.2.2.1), (.arr G38 x.2.2.2.2.2.2.1), (.arr G41 x.2.2.2.2.2.2.2.1), .dead, (.box (.agg (.scons (.dat (.int .i64) x.2.2.2.2.2.2.2.2.2.1.1) (.scons (.dat (.int .i64) y1) (.scons (.dat (.int .i64) y2) (.scons (.dat (.int .i64) y3) (.scons (.own 11) (.scons (.own 12) (.scons (.own 13) .snil))))))))), (.box (.agg (.scons (.dat (.int .i64) x.2.2.2.2.2.2.2.2.2.2.1.1) (.scons (.dat (.int .i64) x.2.2.2.2.2.2.2.2.2.2.1.2.1) (.scons (.dat (.int .i64) x.2.2.2.2.2.2.2.2.2.2.1.2.2.1) (.scons (.dat (.int .i64) x.2.2.2.2.2.2.2.2.2.2.1.2.2.2.1) (.scons .nils (.scons .nils (.scons .nils .snil))))))))), (.arr (.int .i64) y4), (.arr G38 y5), (.arr G38 x.2.2.2.2.2.2.2.2.2.2.2.2.2.2.2.1), (.arr G41 x.2.2.2.2.2.2.2.2.2.2.2.2.2.1)]⟩) n x.1.2.2.1 x.1.2.2.2.2.2.2.2.1 x.2.2.2.2.2.2.2.2.2.1.2.1 x.2.2.2.2.2.2.2.2.2.1.2.2.1 x.2.2.2.2.2.2.2.2.2.1.2.2.2.1 x.2.2.2.2.2.2.2.2.2.2.2.2.1 x.2.2.2.2.2.2.2.2.2.2.2.2.2.2.1⟩
noncomputable def C7i8 : Cfg := mkCfg [(12, ⟨[2, 4, 7, 8, 9, 46, 47, 48], [(9, [], (.int .i64))]⟩)] [(12, (⟨[2, 4, 7, 9], []⟩, ⟨[4, 5, 6], []⟩))] (([(0, L7_2)] : List (Nat × LE)).map (·.2))
theorem ek7_2 : EOk E7i8 C7i8 Try.f8.ntmps (bodyL Try.f8 0) L7_2 := eok_of (e := L7_2) (fun R x Kn k => s7_2 x.1.2.2.2.2.2.2.1 x.2.2.2.2.2.2.2.2.2.1.1 x.2.2.2.2.2.2.2.2.2.2.2.2.2.1 x.2.2.2.2.2.2.2.2.2.2.2.2.2.2.2.1 (fun v0 v1 v2 v3 v4 v5 v6 => Kn (((), (), v0, (), (), (), x.1.2.2.2.2.2.2.1, v1, ()), ((), (), (), (), x.2.2.2.2.2.1, x.2.2.2.2.2.2.1, x.2.2.2.2.2.2.2.1, (), (x.2.2.2.2.2.2.2.2.2.1.1, v2, v3, v4, (), (), (), ()), (x.2.2.2.2.2.2.2.2.2.2.1.1, x.2.2.2.2.2.2.2.2.2.2.1.2.1, x.2.2.2.2.2.2.2.2.2.2.1.2.2.1, x.2.2.2.2.2.2.2.2.2.2.1.2.2.2.1, (), (), (), ()), ((), (), (), (), (), ()), v5, x.2.2.2.2.2.2.2.2.2.2.2.2.2.1, v6, x.2.2.2.2.2.2.2.2.2.2.2.2.2.2.2.1, ()))) (fun y0 y1 y2 y3 y4 y5 => k (.exit 0) ⟨[(2, (.box 8 [] 0)), (4, (.box 9 [] 0)), (7, (.dat (.int .i64) y0)), (9, (.own 10))], [.dead, .dead, .dead, .dead, (.arr G38 x.2.2.2.2.2.1), (.arr G38 x.2.2.2.2.2.2.1), (.arr G41 x.2.2.2.2.2.2.2.1), .dead, (.box (.agg (.scons (.dat (.int .i64) x.2.2.2.2.2.2.2.2.2.1.1) (.scons (.dat (.int .i64) y1) (.scons (.dat (.int .i64) y2) (.scons (.dat (.int .i64) y3) (.scons (.own 11) (.scons (.own 12) (.scons (.own 13) .snil))))))))), (.box (.agg (.scons (.dat (.int .i64) x.2.2.2.2.2.2.2.2.2.2.1.1) (.scons (.dat (.int .i64) x.2.2.2.2.2.2.2.2.2.2.1.2.1) (.scons (.dat (.int .i64) x.2.2.2.2.2.2.2.2.2.2.1.2.2.1) (.scons (.dat (.int .i64) x.2.2.2.2.2.2.2.2.2.2.1.2.2.2.1) (.scons .nils (.scons .nils (.scons .nils .snil))))))))), (.arr (.int .i64) y4), (.arr G38 y5), (.arr G38 x.2.2.2.2.2.2.2.2.2.2.2.2.2.2.2.1), (.arr G41 x.2.2.2.2.2.2.2.2.2.2.2.2.2.1)]⟩) x.1.2.2.1 x.1.2.2.2.2.2.2.2.1 x.2.2.2.2.2.2.2.2.2.1.2.1 x.2.2.2.2.2.2.2.2.2.1.2.2.1 x.2.2.2.2.2.2.2.2.2.1.2.2.2.1 x.2.2.2.2.2.2.2.2.2.2.2.2.1 x.2.2.2.2.2.2.2.2.2.2.2.2.2.2.1) (fun _ _ _ => rfl) (fun _ _ _ _ => rfl) (fun R x Kn k => by kernel_rfl)
theorem lm7i8 : ∀ c, Try.f8.body = some c → LmOk E7i8 C7i8 Try.f8.ntmps c := lmOk_of (ps := [(0, L7_2)]) (by kernel_rfl) (by kernel_rfl) ⟨ek7_2, trivial⟩
noncomputable def c7i8 : CmE := inl E7i8 C7i8 8 Try.f8
theorem d7i8 : CmOk Try.prog c7i8 := inl_ok (E := E7i8) ok7i8 ord lm7i8 Try.func8 ca8

noncomputable def c18 : CmE := inl E18 C18 18 Try.f18
theorem d18 : CmOk Try.prog c18 := inl_ok (E := E18) ok18 ord lm18 Try.func18 ca18

theorem ca7 : callable Try.prog 7 := ⟨Try.f7, Try.func7, by kernel_rfl, by kernel_rfl⟩
noncomputable def E7 : Env := mkEnv2 Try.prog [e8, e11, e12, e14, e18] [c7i8, c18]
theorem ok7 : EnvOk E7 := mkEnv2_ok (by simp only [List.mem_cons, List.not_mem_nil, or_false, forall_eq_or_imp, forall_eq]; exact ⟨p8, p11, p12, p14, p18⟩) (by simp only [List.mem_cons, List.not_mem_nil, or_false, forall_eq_or_imp, forall_eq]; exact ⟨d7i8, d18⟩)
noncomputable def C7 : Cfg := mkCfg [] [] (([] : List (Nat × LE)).map (·.2)) [(4, 18), (6, 8)]
theorem lm7 : ∀ c, Try.f7.body = some c → LmOk E7 C7 Try.f7.ntmps c := lmOk_of (ps := []) (by kernel_rfl) (by kernel_rfl) trivial
noncomputable def m7  : Option (Bool) :=
  (m18).bind fun r1 =>
  (m8 r1 100).bind fun r2 =>
  (m8 r1 35).bind fun r3 =>
  asrt true (decide (0 ≤ 1) && decide (1 < (List.length [(600, 30, ()), (300, 20, ())] : Int))) (
    (([(600, 30, ()), (300, 20, ())])[(1 : Int).toNat]?).bind fun x4 =>
    (m12 (1000, 10, 0, 0, (List.set [(600, 30, ()), (300, 20, ())] (1 : Int).toNat (200, x4.2.1, ())), [(2, 880, ())], [(0, 0, 0, ()), (0, 1, 0, ()), (2, 0, 15, ()), (3, 0, 0, ()), (4, 0, 0, ())], ())).bind fun r5 =>
    (bif ((!r5) == false) then (m19 60) else some false).bind fun r6 =>
    bif ((!r5) || (!r6)) then
      bif ((List.length r3.1.2.2.2.2.1 : Int) != 2) then
        some false
      else
        bif ((((r2.2.2.1 == 0) && (r3.2.2.1 == 0)) && false) == true) then
          (bif ((((r2.2.2.1 == 0) && (r3.2.2.1 == 0)) && false) == true) then (m11 r2.2.1 [30, 20, 5, 45, 0]) else some false).bind fun r7 =>
          (m11 r3.2.1 [30, 15, 0, 0, 0]).bind fun r8 =>
          (idxG (r8 == true) (0, 0, ()) r3.1.2.2.2.2.1 1).bind fun x9 =>
          bif (((r8 && (x9.2.1 == 5)) && (r3.1.2.1 == 0)) == true) then
            (bif (((r8 && (x9.2.1 == 5)) && (r3.1.2.1 == 0)) == true) then (m11 [] [30, 20, 5, 0, 5]) else some false).bind fun r10 =>
            (bif ((((((((r2.2.2.1 == 0) && (r3.2.2.1 == 0)) && false) && r7) && (r2.1.2.1 == 15)) && (r2.1.2.2.1 == 45)) && ((((r8 && (x9.2.1 == 5)) && (r3.1.2.1 == 0)) && r10) && false)) == true) then (m12 r1) else some false).bind fun r11 =>
            (bif (((((((((r2.2.2.1 == 0) && (r3.2.2.1 == 0)) && false) && r7) && (r2.1.2.1 == 15)) && (r2.1.2.2.1 == 45)) && ((((r8 && (x9.2.1 == 5)) && (r3.1.2.1 == 0)) && r10) && false)) && r11) == true) then (m14 r1 0) else some false).bind fun r12 =>
            (bif ((((((((((r2.2.2.1 == 0) && (r3.2.2.1 == 0)) && false) && r7) && (r2.1.2.1 == 15)) && (r2.1.2.2.1 == 45)) && ((((r8 && (x9.2.1 == 5)) && (r3.1.2.1 == 0)) && r10) && false)) && r11) && (!r12)) == true) then (m14 (1000, 10, 0, 0, (List.set [(600, 30, ()), (300, 20, ())] (1 : Int).toNat (200, x4.2.1, ())), [(2, 880, ())], [(0, 0, 0, ()), (0, 1, 0, ()), (2, 0, 15, ()), (3, 0, 0, ()), (4, 0, 0, ())], ()) 0) else some false).bind fun r13 =>
            some ((((((((((r2.2.2.1 == 0) && (r3.2.2.1 == 0)) && false) && r7) && (r2.1.2.1 == 15)) && (r2.1.2.2.1 == 45)) && ((((r8 && (x9.2.1 == 5)) && (r3.1.2.1 == 0)) && r10) && false)) && r11) && (!r12)) && r13)
          else
            (bif (((r8 && (x9.2.1 == 5)) && (r3.1.2.1 == 0)) == true) then (m11 [] []) else some false).bind fun r14 =>
            (bif ((((((((r2.2.2.1 == 0) && (r3.2.2.1 == 0)) && false) && r7) && (r2.1.2.1 == 15)) && (r2.1.2.2.1 == 45)) && ((((r8 && (x9.2.1 == 5)) && (r3.1.2.1 == 0)) && r14) && false)) == true) then (m12 r1) else some false).bind fun r15 =>
            (bif (((((((((r2.2.2.1 == 0) && (r3.2.2.1 == 0)) && false) && r7) && (r2.1.2.1 == 15)) && (r2.1.2.2.1 == 45)) && ((((r8 && (x9.2.1 == 5)) && (r3.1.2.1 == 0)) && r14) && false)) && r15) == true) then (m14 r1 0) else some false).bind fun r16 =>
            (bif ((((((((((r2.2.2.1 == 0) && (r3.2.2.1 == 0)) && false) && r7) && (r2.1.2.1 == 15)) && (r2.1.2.2.1 == 45)) && ((((r8 && (x9.2.1 == 5)) && (r3.1.2.1 == 0)) && r14) && false)) && r15) && (!r16)) == true) then (m14 (1000, 10, 0, 0, (List.set [(600, 30, ()), (300, 20, ())] (1 : Int).toNat (200, x4.2.1, ())), [(2, 880, ())], [(0, 0, 0, ()), (0, 1, 0, ()), (2, 0, 15, ()), (3, 0, 0, ()), (4, 0, 0, ())], ()) 0) else some false).bind fun r17 =>
            some ((((((((((r2.2.2.1 == 0) && (r3.2.2.1 == 0)) && false) && r7) && (r2.1.2.1 == 15)) && (r2.1.2.2.1 == 45)) && ((((r8 && (x9.2.1 == 5)) && (r3.1.2.1 == 0)) && r14) && false)) && r15) && (!r16)) && r17)
        else
          (bif ((((r2.2.2.1 == 0) && (r3.2.2.1 == 0)) && false) == true) then (m11 r2.2.1 []) else some false).bind fun r18 =>
          (m11 r3.2.1 [30, 15, 0, 0, 0]).bind fun r19 =>
          (idxG (r19 == true) (0, 0, ()) r3.1.2.2.2.2.1 1).bind fun x20 =>
          bif (((r19 && (x20.2.1 == 5)) && (r3.1.2.1 == 0)) == true) then
            (bif (((r19 && (x20.2.1 == 5)) && (r3.1.2.1 == 0)) == true) then (m11 [] [30, 20, 5, 0, 5]) else some false).bind fun r21 =>
            (bif ((((((((r2.2.2.1 == 0) && (r3.2.2.1 == 0)) && false) && r18) && (r2.1.2.1 == 15)) && (r2.1.2.2.1 == 45)) && ((((r19 && (x20.2.1 == 5)) && (r3.1.2.1 == 0)) && r21) && false)) == true) then (m12 r1) else some false).bind fun r22 =>
            (bif (((((((((r2.2.2.1 == 0) && (r3.2.2.1 == 0)) && false) && r18) && (r2.1.2.1 == 15)) && (r2.1.2.2.1 == 45)) && ((((r19 && (x20.2.1 == 5)) && (r3.1.2.1 == 0)) && r21) && false)) && r22) == true) then (m14 r1 0) else some false).bind fun r23 =>
            (bif ((((((((((r2.2.2.1 == 0) && (r3.2.2.1 == 0)) && false) && r18) && (r2.1.2.1 == 15)) && (r2.1.2.2.1 == 45)) && ((((r19 && (x20.2.1 == 5)) && (r3.1.2.1 == 0)) && r21) && false)) && r22) && (!r23)) == true) then (m14 (1000, 10, 0, 0, (List.set [(600, 30, ()), (300, 20, ())] (1 : Int).toNat (200, x4.2.1, ())), [(2, 880, ())], [(0, 0, 0, ()), (0, 1, 0, ()), (2, 0, 15, ()), (3, 0, 0, ()), (4, 0, 0, ())], ()) 0) else some false).bind fun r24 =>
            some ((((((((((r2.2.2.1 == 0) && (r3.2.2.1 == 0)) && false) && r18) && (r2.1.2.1 == 15)) && (r2.1.2.2.1 == 45)) && ((((r19 && (x20.2.1 == 5)) && (r3.1.2.1 == 0)) && r21) && false)) && r22) && (!r23)) && r24)
          else
            (bif (((r19 && (x20.2.1 == 5)) && (r3.1.2.1 == 0)) == true) then (m11 [] []) else some false).bind fun r25 =>
            (bif ((((((((r2.2.2.1 == 0) && (r3.2.2.1 == 0)) && false) && r18) && (r2.1.2.1 == 15)) && (r2.1.2.2.1 == 45)) && ((((r19 && (x20.2.1 == 5)) && (r3.1.2.1 == 0)) && r25) && false)) == true) then (m12 r1) else some false).bind fun r26 =>
            (bif (((((((((r2.2.2.1 == 0) && (r3.2.2.1 == 0)) && false) && r18) && (r2.1.2.1 == 15)) && (r2.1.2.2.1 == 45)) && ((((r19 && (x20.2.1 == 5)) && (r3.1.2.1 == 0)) && r25) && false)) && r26) == true) then (m14 r1 0) else some false).bind fun r27 =>
            (bif ((((((((((r2.2.2.1 == 0) && (r3.2.2.1 == 0)) && false) && r18) && (r2.1.2.1 == 15)) && (r2.1.2.2.1 == 45)) && ((((r19 && (x20.2.1 == 5)) && (r3.1.2.1 == 0)) && r25) && false)) && r26) && (!r27)) == true) then (m14 (1000, 10, 0, 0, (List.set [(600, 30, ()), (300, 20, ())] (1 : Int).toNat (200, x4.2.1, ())), [(2, 880, ())], [(0, 0, 0, ()), (0, 1, 0, ()), (2, 0, 15, ()), (3, 0, 0, ()), (4, 0, 0, ())], ()) 0) else some false).bind fun r28 =>
            some ((((((((((r2.2.2.1 == 0) && (r3.2.2.1 == 0)) && false) && r18) && (r2.1.2.1 == 15)) && (r2.1.2.2.1 == 45)) && ((((r19 && (x20.2.1 == 5)) && (r3.1.2.1 == 0)) && r25) && false)) && r26) && (!r27)) && r28)
    else
      (m19 (IntKind.i64.wrap (60 + 0))).bind fun r29 =>
      bif (!r29) then
        bif ((List.length r3.1.2.2.2.2.1 : Int) != 2) then
          some false
        else
          bif ((((r2.2.2.1 == 0) && (r3.2.2.1 == 0)) && false) == true) then
            (bif ((((r2.2.2.1 == 0) && (r3.2.2.1 == 0)) && false) == true) then (m11 r2.2.1 [30, 20, 5, 45, 0]) else some false).bind fun r30 =>
            (m11 r3.2.1 [30, 15, 0, 0, 0]).bind fun r31 =>
            (idxG (r31 == true) (0, 0, ()) r3.1.2.2.2.2.1 1).bind fun x32 =>
            bif (((r31 && (x32.2.1 == 5)) && (r3.1.2.1 == 0)) == true) then
              (bif (((r31 && (x32.2.1 == 5)) && (r3.1.2.1 == 0)) == true) then (m11 [] [30, 20, 5, 0, 5]) else some false).bind fun r33 =>
              (bif ((((((((r2.2.2.1 == 0) && (r3.2.2.1 == 0)) && false) && r30) && (r2.1.2.1 == 15)) && (r2.1.2.2.1 == 45)) && ((((r31 && (x32.2.1 == 5)) && (r3.1.2.1 == 0)) && r33) && false)) == true) then (m12 r1) else some false).bind fun r34 =>
              (bif (((((((((r2.2.2.1 == 0) && (r3.2.2.1 == 0)) && false) && r30) && (r2.1.2.1 == 15)) && (r2.1.2.2.1 == 45)) && ((((r31 && (x32.2.1 == 5)) && (r3.1.2.1 == 0)) && r33) && false)) && r34) == true) then (m14 r1 0) else some false).bind fun r35 =>
              (bif ((((((((((r2.2.2.1 == 0) && (r3.2.2.1 == 0)) && false) && r30) && (r2.1.2.1 == 15)) && (r2.1.2.2.1 == 45)) && ((((r31 && (x32.2.1 == 5)) && (r3.1.2.1 == 0)) && r33) && false)) && r34) && (!r35)) == true) then (m14 (1000, 10, 0, 0, (List.set [(600, 30, ()), (300, 20, ())] (1 : Int).toNat (200, x4.2.1, ())), [(2, 880, ())], [(0, 0, 0, ()), (0, 1, 0, ()), (2, 0, 15, ()), (3, 0, 0, ()), (4, 0, 0, ())], ()) 0) else some false).bind fun r36 =>
              some ((((((((((r2.2.2.1 == 0) && (r3.2.2.1 == 0)) && false) && r30) && (r2.1.2.1 == 15)) && (r2.1.2.2.1 == 45)) && ((((r31 && (x32.2.1 == 5)) && (r3.1.2.1 == 0)) && r33) && false)) && r34) && (!r35)) && r36)
            else
              (bif (((r31 && (x32.2.1 == 5)) && (r3.1.2.1 == 0)) == true) then (m11 [] []) else some false).bind fun r37 =>
              (bif ((((((((r2.2.2.1 == 0) && (r3.2.2.1 == 0)) && false) && r30) && (r2.1.2.1 == 15)) && (r2.1.2.2.1 == 45)) && ((((r31 && (x32.2.1 == 5)) && (r3.1.2.1 == 0)) && r37) && false)) == true) then (m12 r1) else some false).bind fun r38 =>
              (bif (((((((((r2.2.2.1 == 0) && (r3.2.2.1 == 0)) && false) && r30) && (r2.1.2.1 == 15)) && (r2.1.2.2.1 == 45)) && ((((r31 && (x32.2.1 == 5)) && (r3.1.2.1 == 0)) && r37) && false)) && r38) == true) then (m14 r1 0) else some false).bind fun r39 =>
              (bif ((((((((((r2.2.2.1 == 0) && (r3.2.2.1 == 0)) && false) && r30) && (r2.1.2.1 == 15)) && (r2.1.2.2.1 == 45)) && ((((r31 && (x32.2.1 == 5)) && (r3.1.2.1 == 0)) && r37) && false)) && r38) && (!r39)) == true) then (m14 (1000, 10, 0, 0, (List.set [(600, 30, ()), (300, 20, ())] (1 : Int).toNat (200, x4.2.1, ())), [(2, 880, ())], [(0, 0, 0, ()), (0, 1, 0, ()), (2, 0, 15, ()), (3, 0, 0, ()), (4, 0, 0, ())], ()) 0) else some false).bind fun r40 =>
              some ((((((((((r2.2.2.1 == 0) && (r3.2.2.1 == 0)) && false) && r30) && (r2.1.2.1 == 15)) && (r2.1.2.2.1 == 45)) && ((((r31 && (x32.2.1 == 5)) && (r3.1.2.1 == 0)) && r37) && false)) && r38) && (!r39)) && r40)
          else
            (bif ((((r2.2.2.1 == 0) && (r3.2.2.1 == 0)) && false) == true) then (m11 r2.2.1 []) else some false).bind fun r41 =>
            (m11 r3.2.1 [30, 15, 0, 0, 0]).bind fun r42 =>
            (idxG (r42 == true) (0, 0, ()) r3.1.2.2.2.2.1 1).bind fun x43 =>
            bif (((r42 && (x43.2.1 == 5)) && (r3.1.2.1 == 0)) == true) then
              (bif (((r42 && (x43.2.1 == 5)) && (r3.1.2.1 == 0)) == true) then (m11 [] [30, 20, 5, 0, 5]) else some false).bind fun r44 =>
              (bif ((((((((r2.2.2.1 == 0) && (r3.2.2.1 == 0)) && false) && r41) && (r2.1.2.1 == 15)) && (r2.1.2.2.1 == 45)) && ((((r42 && (x43.2.1 == 5)) && (r3.1.2.1 == 0)) && r44) && false)) == true) then (m12 r1) else some false).bind fun r45 =>
              (bif (((((((((r2.2.2.1 == 0) && (r3.2.2.1 == 0)) && false) && r41) && (r2.1.2.1 == 15)) && (r2.1.2.2.1 == 45)) && ((((r42 && (x43.2.1 == 5)) && (r3.1.2.1 == 0)) && r44) && false)) && r45) == true) then (m14 r1 0) else some false).bind fun r46 =>
              (bif ((((((((((r2.2.2.1 == 0) && (r3.2.2.1 == 0)) && false) && r41) && (r2.1.2.1 == 15)) && (r2.1.2.2.1 == 45)) && ((((r42 && (x43.2.1 == 5)) && (r3.1.2.1 == 0)) && r44) && false)) && r45) && (!r46)) == true) then (m14 (1000, 10, 0, 0, (List.set [(600, 30, ()), (300, 20, ())] (1 : Int).toNat (200, x4.2.1, ())), [(2, 880, ())], [(0, 0, 0, ()), (0, 1, 0, ()), (2, 0, 15, ()), (3, 0, 0, ()), (4, 0, 0, ())], ()) 0) else some false).bind fun r47 =>
              some ((((((((((r2.2.2.1 == 0) && (r3.2.2.1 == 0)) && false) && r41) && (r2.1.2.1 == 15)) && (r2.1.2.2.1 == 45)) && ((((r42 && (x43.2.1 == 5)) && (r3.1.2.1 == 0)) && r44) && false)) && r45) && (!r46)) && r47)
            else
              (bif (((r42 && (x43.2.1 == 5)) && (r3.1.2.1 == 0)) == true) then (m11 [] []) else some false).bind fun r48 =>
              (bif ((((((((r2.2.2.1 == 0) && (r3.2.2.1 == 0)) && false) && r41) && (r2.1.2.1 == 15)) && (r2.1.2.2.1 == 45)) && ((((r42 && (x43.2.1 == 5)) && (r3.1.2.1 == 0)) && r48) && false)) == true) then (m12 r1) else some false).bind fun r49 =>
              (bif (((((((((r2.2.2.1 == 0) && (r3.2.2.1 == 0)) && false) && r41) && (r2.1.2.1 == 15)) && (r2.1.2.2.1 == 45)) && ((((r42 && (x43.2.1 == 5)) && (r3.1.2.1 == 0)) && r48) && false)) && r49) == true) then (m14 r1 0) else some false).bind fun r50 =>
              (bif ((((((((((r2.2.2.1 == 0) && (r3.2.2.1 == 0)) && false) && r41) && (r2.1.2.1 == 15)) && (r2.1.2.2.1 == 45)) && ((((r42 && (x43.2.1 == 5)) && (r3.1.2.1 == 0)) && r48) && false)) && r49) && (!r50)) == true) then (m14 (1000, 10, 0, 0, (List.set [(600, 30, ()), (300, 20, ())] (1 : Int).toNat (200, x4.2.1, ())), [(2, 880, ())], [(0, 0, 0, ()), (0, 1, 0, ()), (2, 0, 15, ()), (3, 0, 0, ()), (4, 0, 0, ())], ()) 0) else some false).bind fun r51 =>
              some ((((((((((r2.2.2.1 == 0) && (r3.2.2.1 == 0)) && false) && r41) && (r2.1.2.1 == 15)) && (r2.1.2.2.1 == 45)) && ((((r42 && (x43.2.1 == 5)) && (r3.1.2.1 == 0)) && r48) && false)) && r49) && (!r50)) && r51)
      else
        (cloneM (List.set [(600, 30, ()), (300, 20, ())] (1 : Int).toNat (200, x4.2.1, ()))).bind fun r52 =>
        (cloneM [(2, 880, ())]).bind fun r53 =>
        (cloneM [(0, 0, 0, ()), (0, 1, 0, ()), (2, 0, 15, ()), (3, 0, 0, ()), (4, 0, 0, ())]).bind fun r54 =>
        l7_2 (List.length r54 : Int) 1000 r54 r53 (fun y65 y66 y67 y68 y69 y70 =>
            (m19 y68).bind fun r71 =>
            (bif ((!r71) == false) then (m19 (IntKind.i64.wrap (y67 + y65))) else some false).bind fun r72 =>
            (bif (((!r71) || (!r72)) == false) then (m19 y66) else some false).bind fun r73 =>
            bif (((!r71) || (!r72)) || (!r73)) then
              bif ((List.length r3.1.2.2.2.2.1 : Int) != 2) then
                some false
              else
                bif ((((r2.2.2.1 == 0) && (r3.2.2.1 == 0)) && false) == true) then
                  (bif ((((r2.2.2.1 == 0) && (r3.2.2.1 == 0)) && false) == true) then (m11 r2.2.1 [30, 20, 5, 45, 0]) else some false).bind fun r74 =>
                  (m11 r3.2.1 [30, 15, 0, 0, 0]).bind fun r75 =>
                  (idxG (r75 == true) (0, 0, ()) r3.1.2.2.2.2.1 1).bind fun x76 =>
                  bif (((r75 && (x76.2.1 == 5)) && (r3.1.2.1 == 0)) == true) then
                    (bif (((r75 && (x76.2.1 == 5)) && (r3.1.2.1 == 0)) == true) then (m11 [] [30, 20, 5, 0, 5]) else some false).bind fun r77 =>
                    (bif ((((((((r2.2.2.1 == 0) && (r3.2.2.1 == 0)) && false) && r74) && (r2.1.2.1 == 15)) && (r2.1.2.2.1 == 45)) && ((((r75 && (x76.2.1 == 5)) && (r3.1.2.1 == 0)) && r77) && false)) == true) then (m12 r1) else some false).bind fun r78 =>
                    (bif (((((((((r2.2.2.1 == 0) && (r3.2.2.1 == 0)) && false) && r74) && (r2.1.2.1 == 15)) && (r2.1.2.2.1 == 45)) && ((((r75 && (x76.2.1 == 5)) && (r3.1.2.1 == 0)) && r77) && false)) && r78) == true) then (m14 r1 0) else some false).bind fun r79 =>
                    (bif ((((((((((r2.2.2.1 == 0) && (r3.2.2.1 == 0)) && false) && r74) && (r2.1.2.1 == 15)) && (r2.1.2.2.1 == 45)) && ((((r75 && (x76.2.1 == 5)) && (r3.1.2.1 == 0)) && r77) && false)) && r78) && (!r79)) == true) then (m14 (1000, 10, 0, 0, (List.set [(600, 30, ()), (300, 20, ())] (1 : Int).toNat (200, x4.2.1, ())), [(2, 880, ())], [(0, 0, 0, ()), (0, 1, 0, ()), (2, 0, 15, ()), (3, 0, 0, ()), (4, 0, 0, ())], ()) 0) else some false).bind fun r80 =>
                    some ((((((((((r2.2.2.1 == 0) && (r3.2.2.1 == 0)) && false) && r74) && (r2.1.2.1 == 15)) && (r2.1.2.2.1 == 45)) && ((((r75 && (x76.2.1 == 5)) && (r3.1.2.1 == 0)) && r77) && false)) && r78) && (!r79)) && r80)
                  else
                    (bif (((r75 && (x76.2.1 == 5)) && (r3.1.2.1 == 0)) == true) then (m11 [] []) else some false).bind fun r81 =>
                    (bif ((((((((r2.2.2.1 == 0) && (r3.2.2.1 == 0)) && false) && r74) && (r2.1.2.1 == 15)) && (r2.1.2.2.1 == 45)) && ((((r75 && (x76.2.1 == 5)) && (r3.1.2.1 == 0)) && r81) && false)) == true) then (m12 r1) else some false).bind fun r82 =>
                    (bif (((((((((r2.2.2.1 == 0) && (r3.2.2.1 == 0)) && false) && r74) && (r2.1.2.1 == 15)) && (r2.1.2.2.1 == 45)) && ((((r75 && (x76.2.1 == 5)) && (r3.1.2.1 == 0)) && r81) && false)) && r82) == true) then (m14 r1 0) else some false).bind fun r83 =>
                    (bif ((((((((((r2.2.2.1 == 0) && (r3.2.2.1 == 0)) && false) && r74) && (r2.1.2.1 == 15)) && (r2.1.2.2.1 == 45)) && ((((r75 && (x76.2.1 == 5)) && (r3.1.2.1 == 0)) && r81) && false)) && r82) && (!r83)) == true) then (m14 (1000, 10, 0, 0, (List.set [(600, 30, ()), (300, 20, ())] (1 : Int).toNat (200, x4.2.1, ())), [(2, 880, ())], [(0, 0, 0, ()), (0, 1, 0, ()), (2, 0, 15, ()), (3, 0, 0, ()), (4, 0, 0, ())], ()) 0) else some false).bind fun r84 =>
                    some ((((((((((r2.2.2.1 == 0) && (r3.2.2.1 == 0)) && false) && r74) && (r2.1.2.1 == 15)) && (r2.1.2.2.1 == 45)) && ((((r75 && (x76.2.1 == 5)) && (r3.1.2.1 == 0)) && r81) && false)) && r82) && (!r83)) && r84)
                else
                  (bif ((((r2.2.2.1 == 0) && (r3.2.2.1 == 0)) && false) == true) then (m11 r2.2.1 []) else some false).bind fun r85 =>
                  (m11 r3.2.1 [30, 15, 0, 0, 0]).bind fun r86 =>
                  (idxG (r86 == true) (0, 0, ()) r3.1.2.2.2.2.1 1).bind fun x87 =>
                  bif (((r86 && (x87.2.1 == 5)) && (r3.1.2.1 == 0)) == true) then
                    (bif (((r86 && (x87.2.1 == 5)) && (r3.1.2.1 == 0)) == true) then (m11 [] [30, 20, 5, 0, 5]) else some false).bind fun r88 =>
                    (bif ((((((((r2.2.2.1 == 0) && (r3.2.2.1 == 0)) && false) && r85) && (r2.1.2.1 == 15)) && (r2.1.2.2.1 == 45)) && ((((r86 && (x87.2.1 == 5)) && (r3.1.2.1 == 0)) && r88) && false)) == true) then (m12 r1) else some false).bind fun r89 =>
                    (bif (((((((((r2.2.2.1 == 0) && (r3.2.2.1 == 0)) && false) && r85) && (r2.1.2.1 == 15)) && (r2.1.2.2.1 == 45)) && ((((r86 && (x87.2.1 == 5)) && (r3.1.2.1 == 0)) && r88) && false)) && r89) == true) then (m14 r1 0) else some false).bind fun r90 =>
                    (bif ((((((((((r2.2.2.1 == 0) && (r3.2.2.1 == 0)) && false) && r85) && (r2.1.2.1 == 15)) && (r2.1.2.2.1 == 45)) && ((((r86 && (x87.2.1 == 5)) && (r3.1.2.1 == 0)) && r88) && false)) && r89) && (!r90)) == true) then (m14 (1000, 10, 0, 0, (List.set [(600, 30, ()), (300, 20, ())] (1 : Int).toNat (200, x4.2.1, ())), [(2, 880, ())], [(0, 0, 0, ()), (0, 1, 0, ()), (2, 0, 15, ()), (3, 0, 0, ()), (4, 0, 0, ())], ()) 0) else some false).bind fun r91 =>
                    some ((((((((((r2.2.2.1 == 0) && (r3.2.2.1 == 0)) && false) && r85) && (r2.1.2.1 == 15)) && (r2.1.2.2.1 == 45)) && ((((r86 && (x87.2.1 == 5)) && (r3.1.2.1 == 0)) && r88) && false)) && r89) && (!r90)) && r91)
                  else
                    (bif (((r86 && (x87.2.1 == 5)) && (r3.1.2.1 == 0)) == true) then (m11 [] []) else some false).bind fun r92 =>
                    (bif ((((((((r2.2.2.1 == 0) && (r3.2.2.1 == 0)) && false) && r85) && (r2.1.2.1 == 15)) && (r2.1.2.2.1 == 45)) && ((((r86 && (x87.2.1 == 5)) && (r3.1.2.1 == 0)) && r92) && false)) == true) then (m12 r1) else some false).bind fun r93 =>
                    (bif (((((((((r2.2.2.1 == 0) && (r3.2.2.1 == 0)) && false) && r85) && (r2.1.2.1 == 15)) && (r2.1.2.2.1 == 45)) && ((((r86 && (x87.2.1 == 5)) && (r3.1.2.1 == 0)) && r92) && false)) && r93) == true) then (m14 r1 0) else some false).bind fun r94 =>
                    (bif ((((((((((r2.2.2.1 == 0) && (r3.2.2.1 == 0)) && false) && r85) && (r2.1.2.1 == 15)) && (r2.1.2.2.1 == 45)) && ((((r86 && (x87.2.1 == 5)) && (r3.1.2.1 == 0)) && r92) && false)) && r93) && (!r94)) == true) then (m14 (1000, 10, 0, 0, (List.set [(600, 30, ()), (300, 20, ())] (1 : Int).toNat (200, x4.2.1, ())), [(2, 880, ())], [(0, 0, 0, ()), (0, 1, 0, ()), (2, 0, 15, ()), (3, 0, 0, ()), (4, 0, 0, ())], ()) 0) else some false).bind fun r95 =>
                    some ((((((((((r2.2.2.1 == 0) && (r3.2.2.1 == 0)) && false) && r85) && (r2.1.2.1 == 15)) && (r2.1.2.2.1 == 45)) && ((((r86 && (x87.2.1 == 5)) && (r3.1.2.1 == 0)) && r92) && false)) && r93) && (!r94)) && r95)
            else
              bif ((List.length r3.1.2.2.2.2.1 : Int) != 2) then
                some false
              else
                bif ((bif ((r2.2.2.1 == 0) && (r3.2.2.1 == 0)) then true else false) == true) then
                  (bif ((bif ((r2.2.2.1 == 0) && (r3.2.2.1 == 0)) then true else false) == true) then (m11 r2.2.1 [30, 20, 5, 45, 0]) else some false).bind fun r96 =>
                  (m11 r3.2.1 [30, 15, 0, 0, 0]).bind fun r97 =>
                  (idxG (r97 == true) (0, 0, ()) r3.1.2.2.2.2.1 1).bind fun x98 =>
                  bif (((r97 && (x98.2.1 == 5)) && (r3.1.2.1 == 0)) == true) then
                    (bif (((r97 && (x98.2.1 == 5)) && (r3.1.2.1 == 0)) == true) then (m11 y69 [30, 20, 5, 0, 5]) else some false).bind fun r99 =>
                    (bif ((((((bif ((r2.2.2.1 == 0) && (r3.2.2.1 == 0)) then true else false) && r96) && (r2.1.2.1 == 15)) && (r2.1.2.2.1 == 45)) && ((((r97 && (x98.2.1 == 5)) && (r3.1.2.1 == 0)) && r99) && (y68 == 5))) == true) then (m12 r1) else some false).bind fun r100 =>
                    (bif (((((((bif ((r2.2.2.1 == 0) && (r3.2.2.1 == 0)) then true else false) && r96) && (r2.1.2.1 == 15)) && (r2.1.2.2.1 == 45)) && ((((r97 && (x98.2.1 == 5)) && (r3.1.2.1 == 0)) && r99) && (y68 == 5))) && r100) == true) then (m14 r1 0) else some false).bind fun r101 =>
                    (bif ((((((((bif ((r2.2.2.1 == 0) && (r3.2.2.1 == 0)) then true else false) && r96) && (r2.1.2.1 == 15)) && (r2.1.2.2.1 == 45)) && ((((r97 && (x98.2.1 == 5)) && (r3.1.2.1 == 0)) && r99) && (y68 == 5))) && r100) && (!r101)) == true) then (m14 (1000, 10, 0, 0, (List.set [(600, 30, ()), (300, 20, ())] (1 : Int).toNat (200, x4.2.1, ())), [(2, 880, ())], [(0, 0, 0, ()), (0, 1, 0, ()), (2, 0, 15, ()), (3, 0, 0, ()), (4, 0, 0, ())], ()) 0) else some false).bind fun r102 =>
                    some ((((((((bif ((r2.2.2.1 == 0) && (r3.2.2.1 == 0)) then true else false) && r96) && (r2.1.2.1 == 15)) && (r2.1.2.2.1 == 45)) && ((((r97 && (x98.2.1 == 5)) && (r3.1.2.1 == 0)) && r99) && (y68 == 5))) && r100) && (!r101)) && r102)
                  else
                    (bif (((r97 && (x98.2.1 == 5)) && (r3.1.2.1 == 0)) == true) then (m11 y69 []) else some false).bind fun r103 =>
                    (bif ((((((bif ((r2.2.2.1 == 0) && (r3.2.2.1 == 0)) then true else false) && r96) && (r2.1.2.1 == 15)) && (r2.1.2.2.1 == 45)) && ((((r97 && (x98.2.1 == 5)) && (r3.1.2.1 == 0)) && r103) && (y68 == 5))) == true) then (m12 r1) else some false).bind fun r104 =>
                    (bif (((((((bif ((r2.2.2.1 == 0) && (r3.2.2.1 == 0)) then true else false) && r96) && (r2.1.2.1 == 15)) && (r2.1.2.2.1 == 45)) && ((((r97 && (x98.2.1 == 5)) && (r3.1.2.1 == 0)) && r103) && (y68 == 5))) && r104) == true) then (m14 r1 0) else some false).bind fun r105 =>
                    (bif ((((((((bif ((r2.2.2.1 == 0) && (r3.2.2.1 == 0)) then true else false) && r96) && (r2.1.2.1 == 15)) && (r2.1.2.2.1 == 45)) && ((((r97 && (x98.2.1 == 5)) && (r3.1.2.1 == 0)) && r103) && (y68 == 5))) && r104) && (!r105)) == true) then (m14 (1000, 10, 0, 0, (List.set [(600, 30, ()), (300, 20, ())] (1 : Int).toNat (200, x4.2.1, ())), [(2, 880, ())], [(0, 0, 0, ()), (0, 1, 0, ()), (2, 0, 15, ()), (3, 0, 0, ()), (4, 0, 0, ())], ()) 0) else some false).bind fun r106 =>
                    some ((((((((bif ((r2.2.2.1 == 0) && (r3.2.2.1 == 0)) then true else false) && r96) && (r2.1.2.1 == 15)) && (r2.1.2.2.1 == 45)) && ((((r97 && (x98.2.1 == 5)) && (r3.1.2.1 == 0)) && r103) && (y68 == 5))) && r104) && (!r105)) && r106)
                else
                  (bif ((bif ((r2.2.2.1 == 0) && (r3.2.2.1 == 0)) then true else false) == true) then (m11 r2.2.1 []) else some false).bind fun r107 =>
                  (m11 r3.2.1 [30, 15, 0, 0, 0]).bind fun r108 =>
                  (idxG (r108 == true) (0, 0, ()) r3.1.2.2.2.2.1 1).bind fun x109 =>
                  bif (((r108 && (x109.2.1 == 5)) && (r3.1.2.1 == 0)) == true) then
                    (bif (((r108 && (x109.2.1 == 5)) && (r3.1.2.1 == 0)) == true) then (m11 y69 [30, 20, 5, 0, 5]) else some false).bind fun r110 =>
                    (bif ((((((bif ((r2.2.2.1 == 0) && (r3.2.2.1 == 0)) then true else false) && r107) && (r2.1.2.1 == 15)) && (r2.1.2.2.1 == 45)) && ((((r108 && (x109.2.1 == 5)) && (r3.1.2.1 == 0)) && r110) && (y68 == 5))) == true) then (m12 r1) else some false).bind fun r111 =>
                    (bif (((((((bif ((r2.2.2.1 == 0) && (r3.2.2.1 == 0)) then true else false) && r107) && (r2.1.2.1 == 15)) && (r2.1.2.2.1 == 45)) && ((((r108 && (x109.2.1 == 5)) && (r3.1.2.1 == 0)) && r110) && (y68 == 5))) && r111) == true) then (m14 r1 0) else some false).bind fun r112 =>
                    (bif ((((((((bif ((r2.2.2.1 == 0) && (r3.2.2.1 == 0)) then true else false) && r107) && (r2.1.2.1 == 15)) && (r2.1.2.2.1 == 45)) && ((((r108 && (x109.2.1 == 5)) && (r3.1.2.1 == 0)) && r110) && (y68 == 5))) && r111) && (!r112)) == true) then (m14 (1000, 10, 0, 0, (List.set [(600, 30, ()), (300, 20, ())] (1 : Int).toNat (200, x4.2.1, ())), [(2, 880, ())], [(0, 0, 0, ()), (0, 1, 0, ()), (2, 0, 15, ()), (3, 0, 0, ()), (4, 0, 0, ())], ()) 0) else some false).bind fun r113 =>
                    some ((((((((bif ((r2.2.2.1 == 0) && (r3.2.2.1 == 0)) then true else false) && r107) && (r2.1.2.1 == 15)) && (r2.1.2.2.1 == 45)) && ((((r108 && (x109.2.1 == 5)) && (r3.1.2.1 == 0)) && r110) && (y68 == 5))) && r111) && (!r112)) && r113)
                  else
                    (bif (((r108 && (x109.2.1 == 5)) && (r3.1.2.1 == 0)) == true) then (m11 y69 []) else some false).bind fun r114 =>
                    (bif ((((((bif ((r2.2.2.1 == 0) && (r3.2.2.1 == 0)) then true else false) && r107) && (r2.1.2.1 == 15)) && (r2.1.2.2.1 == 45)) && ((((r108 && (x109.2.1 == 5)) && (r3.1.2.1 == 0)) && r114) && (y68 == 5))) == true) then (m12 r1) else some false).bind fun r115 =>
                    (bif (((((((bif ((r2.2.2.1 == 0) && (r3.2.2.1 == 0)) then true else false) && r107) && (r2.1.2.1 == 15)) && (r2.1.2.2.1 == 45)) && ((((r108 && (x109.2.1 == 5)) && (r3.1.2.1 == 0)) && r114) && (y68 == 5))) && r115) == true) then (m14 r1 0) else some false).bind fun r116 =>
                    (bif ((((((((bif ((r2.2.2.1 == 0) && (r3.2.2.1 == 0)) then true else false) && r107) && (r2.1.2.1 == 15)) && (r2.1.2.2.1 == 45)) && ((((r108 && (x109.2.1 == 5)) && (r3.1.2.1 == 0)) && r114) && (y68 == 5))) && r115) && (!r116)) == true) then (m14 (1000, 10, 0, 0, (List.set [(600, 30, ()), (300, 20, ())] (1 : Int).toNat (200, x4.2.1, ())), [(2, 880, ())], [(0, 0, 0, ()), (0, 1, 0, ()), (2, 0, 15, ()), (3, 0, 0, ()), (4, 0, 0, ())], ()) 0) else some false).bind fun r117 =>
                    some ((((((((bif ((r2.2.2.1 == 0) && (r3.2.2.1 == 0)) then true else false) && r107) && (r2.1.2.1 == 15)) && (r2.1.2.2.1 == 45)) && ((((r108 && (x109.2.1 == 5)) && (r3.1.2.1 == 0)) && r114) && (y68 == 5))) && r115) && (!r116)) && r117)) FUEL (IntKind.i64.wrap (60 + 0)) 0 10 0 0 [] r52)
noncomputable def e7 : PmE := entry 7 [] false .bool (fun x => m7 )
theorem q7 (x : tyL []) : execF E7 C7 Try.f7 (datL [] x) [] (retK false .bool) = m7  := by kernel_rfl
theorem p7 : PmOk Try.prog e7 := pm_ok (E := E7) ok7 ord lm7 Try.func7 ca7 q7

/-! 16: consol/consolref23.Money -/
theorem ca16 : callable Try.prog 16 := ⟨Try.f16, Try.func16, by kernel_rfl, by kernel_rfl⟩
noncomputable def E16 : Env := mkEnv2 Try.prog [] []
theorem ok16 : EnvOk E16 := mkEnv2_ok (by simp) (by simp)
noncomputable def C16 : Cfg := noCfg
theorem lm16 : ∀ c, Try.f16.body = some c → LmOk E16 C16 Try.f16.ntmps c := fun _ _ => noCfg_lm
noncomputable def m16 (a0 : Int) : Option (Bool) :=
  some ((decide (a0 ≥ 0)) && (decide (a0 ≤ 1000000000000000)))
noncomputable def e16 : PmE := entry 16 [(.int .i64)] false .bool (fun x => m16 x.1)
theorem q16 (x : tyL [(.int .i64)]) : execF E16 C16 Try.f16 (datL [(.int .i64)] x) [] (retK false .bool) = m16 x.1 := by kernel_rfl
theorem p16 : PmOk Try.prog e16 := pm_ok (E := E16) ok16 ord lm16 Try.func16 ca16 q16

/-! 13: consol/consolref23.Right -/
theorem ca13 : callable Try.prog 13 := ⟨Try.f13, Try.func13, by kernel_rfl, by kernel_rfl⟩
noncomputable def E13 : Env := mkEnv2 Try.prog [e16] []
theorem ok13 : EnvOk E13 := mkEnv2_ok (by simp only [List.mem_cons, List.not_mem_nil, or_false, forall_eq]; exact p16) (by simp)
/-- a round of a loop of consol/consolref23.Right -/
noncomputable def s13_1 {R : Type} (o0 : T25) (kn : Int → Option R) (k1 : Option R) (k2 : Option R) (t3 : Int) : Option R :=
  bif (decide (t3 < (List.length o0.2.2.2.2.1 : Int))) then
    (idx o0.2.2.2.2.1 t3).bind fun x5 =>
    (m16 x5.1).bind fun r6 =>
    (idxG ((!r6) == false) (0, 0, ()) o0.2.2.2.2.1 t3).bind fun x7 =>
    (bif ((!r6) == false) then (m16 x7.2.1) else some false).bind fun r8 =>
    bif ((!r6) || (!r8)) then
      k2
    else
      kn (IntKind.i64.wrap (t3 + 1))
  else
    k1
noncomputable def l13_1 {R : Type} (o0 : T25) (k1 : Option R) (k2 : Option R) : Nat → Int → Option R
  | 0, _ => none
  | n + 1, t3 => s13_1 o0 (l13_1 o0 k1 k2 n) k1 k2 t3
noncomputable def L13_1 : LE := ⟨7, 0, ⟨[(1, (.box 0 [] 0)), (3, (.dat (.int .i64)))], [(.box (.dat G25))]⟩, fun R n x k => l13_1 x.2.1 (k (.exit 0) ⟨[(1, (.box 0 [] 0))], [(.box (.dat G25 x.2.1))]⟩) (k .ret ⟨[(2, (.dat .bool false))], []⟩) n x.1.2.1⟩
/-- a round of a loop of consol/consolref23.Right -/
noncomputable def s13_2 {R : Type} (o0 : T25) (kn : Int → Option R) (k1 : Option R) (k2 : Option R) (t4 : Int) : Option R :=
  bif (decide (t4 < (List.length o0.2.2.2.2.2.1 : Int))) then
    (idx o0.2.2.2.2.2.1 t4).bind fun x9 =>
    (idxG ((decide (x9.1 < 1)) == false) (0, 0, ()) o0.2.2.2.2.2.1 t4).bind fun x10 =>
    (idxG (((decide (x9.1 < 1)) || (decide (x10.1 > (List.length o0.2.2.2.2.1 : Int)))) == false) (0, 0, ()) o0.2.2.2.2.2.1 t4).bind fun x11 =>
    (idxG ((((decide (x9.1 < 1)) || (decide (x10.1 > (List.length o0.2.2.2.2.1 : Int)))) || (decide (x11.2.1 < 0))) == false) (0, 0, ()) o0.2.2.2.2.2.1 t4).bind fun x12 =>
    bif ((((decide (x9.1 < 1)) || (decide (x10.1 > (List.length o0.2.2.2.2.1 : Int)))) || (decide (x11.2.1 < 0))) || (decide (x12.2.1 > 2000))) then
      k2
    else
      kn (IntKind.i64.wrap (t4 + 1))
  else
    k1
noncomputable def l13_2 {R : Type} (o0 : T25) (k1 : Option R) (k2 : Option R) : Nat → Int → Option R
  | 0, _ => none
  | n + 1, t4 => s13_2 o0 (l13_2 o0 k1 k2 n) k1 k2 t4
noncomputable def L13_2 : LE := ⟨12, 0, ⟨[(1, (.box 0 [] 0)), (4, (.dat (.int .i64)))], [(.box (.dat G25))]⟩, fun R n x k => l13_2 x.2.1 (k (.exit 2) ⟨[(1, (.box 0 [] 0))], [(.box (.dat G25 x.2.1))]⟩) (k .ret ⟨[(2, (.dat .bool false))], []⟩) n x.1.2.1⟩
/-- a round of a loop of consol/consolref23.Right -/
noncomputable def s13_3 {R : Type} (o0 : T25) (kn : Int → Option R) (k1 : Option R) (k2 : Option R) (t5 : Int) : Option R :=
  bif (decide (t5 < (List.length o0.2.2.2.2.2.2.1 : Int))) then
    (idx o0.2.2.2.2.2.2.1 t5).bind fun x13 =>
    cont (fun (k14 : Int → _) =>
      bif ((x13.1 == 0) || (x13.1 == 1)) then
        k14 (List.length o0.2.2.2.2.1 : Int)
      else
        k14 1) fun y14 =>
    cont (fun (k15 : Int → _) =>
      bif (x13.1 == 3) then
        k15 (List.length o0.2.2.2.2.2.1 : Int)
      else
        k15 y14) fun y15 =>
    (bif ((((((decide (x13.1 < 0)) || (decide (x13.1 ≥ 5))) || (decide (x13.2.1 < 0))) || (decide (x13.2.1 ≥ y15))) || ((x13.1 != 2) && (x13.2.2.1 != 0))) == false) then (m16 x13.2.2.1) else some false).bind fun r16 =>
    bif ((((((decide (x13.1 < 0)) || (decide (x13.1 ≥ 5))) || (decide (x13.2.1 < 0))) || (decide (x13.2.1 ≥ y15))) || ((x13.1 != 2) && (x13.2.2.1 != 0))) || (!r16)) then
      k2
    else
      kn (IntKind.i64.wrap (t5 + 1))
  else
    k1
noncomputable def l13_3 {R : Type} (o0 : T25) (k1 : Option R) (k2 : Option R) : Nat → Int → Option R
  | 0, _ => none
  | n + 1, t5 => s13_3 o0 (l13_3 o0 k1 k2 n) k1 k2 t5
noncomputable def L13_3 : LE := ⟨17, 0, ⟨[(1, (.box 0 [] 0)), (5, (.dat (.int .i64)))], [(.box (.dat G25))]⟩, fun R n x k => l13_3 x.2.1 (k (.exit 4) ⟨[], []⟩) (k .ret ⟨[(2, (.dat .bool false))], []⟩) n x.1.2.1⟩
noncomputable def C13 : Cfg := mkCfg [(7, ⟨[1, 3], []⟩), (12, ⟨[1, 4], []⟩), (17, ⟨[1, 5], []⟩), (18, ⟨[1, 5], []⟩), (23, ⟨[1, 5, 6, 7], []⟩), (25, ⟨[1, 5, 6, 7], []⟩)] [(7, (⟨[1], []⟩, ⟨[2], []⟩)), (12, (⟨[1], []⟩, ⟨[2], []⟩)), (17, (⟨[], []⟩, ⟨[2], []⟩))] (([(0, L13_1), (1, L13_2), (2, L13_3)] : List (Nat × LE)).map (·.2))
theorem ek13_1 : EOk E13 C13 Try.f13.ntmps (bodyL Try.f13 0) L13_1 := eok_of (e := L13_1) (fun R x Kn k => s13_1 x.2.1 (fun v0 => Kn (((), v0, ()), (x.2.1, ()))) (k (.exit 0) ⟨[(1, (.box 0 [] 0))], [(.box (.dat G25 x.2.1))]⟩) (k .ret ⟨[(2, (.dat .bool false))], []⟩) x.1.2.1) (fun _ _ _ => rfl) (fun _ _ _ _ => rfl) (fun R x Kn k => by kernel_rfl)
theorem ek13_2 : EOk E13 C13 Try.f13.ntmps (bodyL Try.f13 1) L13_2 := eok_of (e := L13_2) (fun R x Kn k => s13_2 x.2.1 (fun v0 => Kn (((), v0, ()), (x.2.1, ()))) (k (.exit 2) ⟨[(1, (.box 0 [] 0))], [(.box (.dat G25 x.2.1))]⟩) (k .ret ⟨[(2, (.dat .bool false))], []⟩) x.1.2.1) (fun _ _ _ => rfl) (fun _ _ _ _ => rfl) (fun R x Kn k => by kernel_rfl)
theorem ek13_3 : EOk E13 C13 Try.f13.ntmps (bodyL Try.f13 2) L13_3 := eok_of (e := L13_3) (fun R x Kn k => s13_3 x.2.1 (fun v0 => Kn (((), v0, ()), (x.2.1, ()))) (k (.exit 4) ⟨[], []⟩) (k .ret ⟨[(2, (.dat .bool false))], []⟩) x.1.2.1) (fun _ _ _ => rfl) (fun _ _ _ _ => rfl) (fun R x Kn k => by kernel_rfl)
theorem lm13 : ∀ c, Try.f13.body = some c → LmOk E13 C13 Try.f13.ntmps c := lmOk_of (ps := [(0, L13_1), (1, L13_2), (2, L13_3)]) (by kernel_rfl) (by kernel_rfl) ⟨ek13_1, ek13_2, ek13_3, trivial⟩
noncomputable def m13 (a0 : T25) : Option (Bool) :=
  (m16 a0.1).bind fun r1 =>
  (bif ((!r1) == false) then (m16 a0.2.1) else some false).bind fun r2 =>
  (bif (((!r1) || (!r2)) == false) then (m16 a0.2.2.1) else some false).bind fun r3 =>
  (bif ((((!r1) || (!r2)) || (!r3)) == false) then (m16 a0.2.2.2.1) else some false).bind fun r4 =>
  bif ((((!r1) || (!r2)) || (!r3)) || (!r4)) then
    some false
  else
    bif (((decide ((List.length a0.2.2.2.2.1 : Int) > 40)) || (decide ((List.length a0.2.2.2.2.2.1 : Int) > 40))) || (decide ((List.length a0.2.2.2.2.2.2.1 : Int) > 40))) then
      some false
    else
      l13_1 a0 (
          l13_2 a0 (
              l13_3 a0 (
                  some true) (
                  some false) FUEL 0) (
              some false) FUEL 0) (
          some false) FUEL 0
noncomputable def e13 : PmE := entry 13 [G25] false .bool (fun x => m13 x.1)
theorem q13 (x : tyL [G25]) : execF E13 C13 Try.f13 (datL [G25] x) [] (retK false .bool) = m13 x.1 := by kernel_rfl
theorem p13 : PmOk Try.prog e13 := pm_ok (E := E13) ok13 ord lm13 Try.func13 ca13 q13

/-! 28: consol/consolref23.tested -/
theorem ca28 : callable Try.prog 28 := ⟨Try.f28, Try.func28, by kernel_rfl, by kernel_rfl⟩
noncomputable def E28 : Env := mkEnv2 Try.prog [] []
theorem ok28 : EnvOk E28 := mkEnv2_ok (by simp) (by simp)
/-- a round of a loop of consol/consolref23.tested -/
noncomputable def s28_1 {R : Type} (t1 : Int) (o0 : T25) (kn : Int → Int → Option R) (k1 : Int → Option R) (t5 : Int) (t6 : Int) : Option R :=
  (idx o0.2.2.2.2.2.1 t1).bind fun x1 =>
  bif (decide (t6 < x1.1)) then
    (idx o0.2.2.2.2.1 t6).bind fun x2 =>
    kn (IntKind.i64.wrap (t5 + x2.1)) (IntKind.i64.wrap (t6 + 1))
  else
    k1 t5
noncomputable def l28_1 {R : Type} (t1 : Int) (o0 : T25) (k1 : Int → Option R) : Nat → Int → Int → Option R
  | 0, _, _ => none
  | n + 1, t5, t6 => s28_1 t1 o0 (l28_1 t1 o0 k1 n) k1 t5 t6
noncomputable def L28_1 : LE := ⟨4, 0, ⟨[(1, (.dat (.int .i64))), (2, (.box 0 [] 0)), (5, (.dat (.int .i64))), (6, (.dat (.int .i64)))], [(.box (.dat G25))]⟩, fun R n x k => l28_1 x.1.1 x.2.1 (fun y0 => k (.exit 0) ⟨[(1, (.dat (.int .i64) x.1.1)), (2, (.box 0 [] 0)), (5, (.dat (.int .i64) y0))], [(.box (.dat G25 x.2.1))]⟩) n x.1.2.2.1 x.1.2.2.2.1⟩
noncomputable def C28 : Cfg := mkCfg [(4, ⟨[1, 2, 5, 6], []⟩)] [(4, (⟨[1, 2, 5], []⟩, ⟨[4], []⟩))] (([(0, L28_1)] : List (Nat × LE)).map (·.2))
theorem ek28_1 : EOk E28 C28 Try.f28.ntmps (bodyL Try.f28 0) L28_1 := eok_of (e := L28_1) (fun R x Kn k => s28_1 x.1.1 x.2.1 (fun v0 v1 => Kn ((x.1.1, (), v0, v1, ()), (x.2.1, ()))) (fun y0 => k (.exit 0) ⟨[(1, (.dat (.int .i64) x.1.1)), (2, (.box 0 [] 0)), (5, (.dat (.int .i64) y0))], [(.box (.dat G25 x.2.1))]⟩) x.1.2.2.1 x.1.2.2.2.1) (fun _ _ _ => rfl) (fun _ _ _ _ => rfl) (fun R x Kn k => by kernel_rfl)
theorem lm28 : ∀ c, Try.f28.body = some c → LmOk E28 C28 Try.f28.ntmps c := lmOk_of (ps := [(0, L28_1)]) (by kernel_rfl) (by kernel_rfl) ⟨ek28_1, trivial⟩
noncomputable def m28 (a0 : T25) (a1 : Int) : Option (Bool) :=
  l28_1 a1 a0 (fun y3 =>
      (idx a0.2.2.2.2.2.1 a1).bind fun x4 =>
      some (decide (y3 ≤ (IntKind.i64.wrap (Int.tdiv (IntKind.i64.wrap (x4.2.1 * a0.1)) 1000))))) FUEL 0 0
noncomputable def e28 : PmE := entry 28 [G25, (.int .i64)] false .bool (fun x => m28 x.1 x.2.1)
theorem q28 (x : tyL [G25, (.int .i64)]) : execF E28 C28 Try.f28 (datL [G25, (.int .i64)] x) [] (retK false .bool) = m28 x.1 x.2.1 := by kernel_rfl
theorem p28 : PmOk Try.prog e28 := pm_ok (E := E28) ok28 ord lm28 Try.func28 ca28 q28

/-! 9: consol/consolref23.Run -/
theorem ca9 : callable Try.prog 9 := ⟨Try.f9, Try.func9, by kernel_rfl, by kernel_rfl⟩
noncomputable def E9 : Env := mkEnv2 Try.prog [e13, e16, e28] []
theorem ok9 : EnvOk E9 := mkEnv2_ok (by simp only [List.mem_cons, List.not_mem_nil, or_false, forall_eq_or_imp, forall_eq]; exact ⟨p13, p16, p28⟩) (by simp)
/-- a round of a loop of consol/consolref23.Run -/
noncomputable def s9_1 {R : Type} (o0 : T25) (o2 : Int) (o2_5 : (List T38)) (o2_6 : (List T41)) (kn : Int → Int → Int → Int → Int → (List Int) → (List T38) → Option R) (k1 : Int → Int → Int → Int → (List Int) → (List T38) → Option R) (t7 : Int) (t10 : Int) (o2_2 : Int) (o2_3 : Int) (o2_4 : Int) (o3 : (List Int)) (o4 : (List T38)) : Option R :=
  bif (decide (t10 < (List.length o0.2.2.2.2.2.2.1 : Int))) then
    (idx o0.2.2.2.2.2.2.1 t10).bind fun x3 =>
    cont (fun (k13 : (Int × Int × Int × Int × (List T38)) → _) =>
      bif (x3.1 == 0) then
        asrt true (decide (0 ≤ x3.2.1) && decide (x3.2.1 < (List.length o4 : Int))) (
          ((o4)[(x3.2.1 : Int).toNat]?).bind fun x4 =>
          asrt true (decide (0 ≤ x3.2.1) && decide (x3.2.1 < (List.length o4 : Int))) (
            ((o4)[(x3.2.1 : Int).toNat]?).bind fun x5 =>
            asrt true (decide (0 ≤ x3.2.1) && decide (x3.2.1 < (List.length o4 : Int))) (
              ((o4)[(x3.2.1 : Int).toNat]?).bind fun x6 =>
              bif (decide ((bif decide ((IntKind.i64.wrap (t7 + o2_2)) < x4.2.1) then (IntKind.i64.wrap (t7 + o2_2)) else x4.2.1) > t7)) then
                k13 ((bif decide ((IntKind.i64.wrap (t7 + o2_2)) < x4.2.1) then (IntKind.i64.wrap (t7 + o2_2)) else x4.2.1), (IntKind.i64.wrap (o2_2 - (IntKind.i64.wrap ((bif decide ((IntKind.i64.wrap (t7 + o2_2)) < x4.2.1) then (IntKind.i64.wrap (t7 + o2_2)) else x4.2.1) - t7)))), o2_3, o2_4, (List.set o4 (x3.2.1 : Int).toNat (x6.1, (IntKind.i64.wrap (x5.2.1 - (bif decide ((IntKind.i64.wrap (t7 + o2_2)) < x4.2.1) then (IntKind.i64.wrap (t7 + o2_2)) else x4.2.1))), ())))
              else
                k13 ((bif decide ((IntKind.i64.wrap (t7 + o2_2)) < x4.2.1) then (IntKind.i64.wrap (t7 + o2_2)) else x4.2.1), o2_2, o2_3, o2_4, (List.set o4 (x3.2.1 : Int).toNat (x6.1, (IntKind.i64.wrap (x5.2.1 - (bif decide ((IntKind.i64.wrap (t7 + o2_2)) < x4.2.1) then (IntKind.i64.wrap (t7 + o2_2)) else x4.2.1))), ()))))))
      else
        bif (x3.1 == 1) then
          asrt true (decide (0 ≤ x3.2.1) && decide (x3.2.1 < (List.length o4 : Int))) (
            ((o4)[(x3.2.1 : Int).toNat]?).bind fun x7 =>
            asrt true (decide (0 ≤ x3.2.1) && decide (x3.2.1 < (List.length o4 : Int))) (
              ((o4)[(x3.2.1 : Int).toNat]?).bind fun x8 =>
              asrt true (decide (0 ≤ x3.2.1) && decide (x3.2.1 < (List.length o4 : Int))) (
                ((o4)[(x3.2.1 : Int).toNat]?).bind fun x9 =>
                k13 ((bif decide (x7.1 < t7) then x7.1 else t7), o2_2, o2_3, o2_4, (List.set o4 (x3.2.1 : Int).toNat ((IntKind.i64.wrap (x8.1 - (bif decide (x7.1 < t7) then x7.1 else t7))), x9.2.1, ()))))))
        else
          bif (x3.1 == 2) then
            cont (fun (k10 : Int → _) =>
              bif (decide (o2_2 < x3.2.2.1)) then
                k10 (bif decide ((IntKind.i64.wrap (x3.2.2.1 - o2_2)) < t7) then (IntKind.i64.wrap (x3.2.2.1 - o2_2)) else t7)
              else
                k10 0) fun y10 =>
            k13 (y10, (IntKind.i64.wrap (o2_2 + y10)), o2_3, o2_4, o4)
          else
            bif (x3.1 == 3) then
              cont (fun (k12 : Int → _) =>
                (m28 (o2, o2_2, o2_3, o2_4, o4, o2_5, o2_6, ()) x3.2.1).bind fun r11 =>
                bif r11 then
                  k12 0
                else
                  k12 t7) fun y12 =>
              k13 (y12, o2_2, (IntKind.i64.wrap (o2_3 + y12)), o2_4, o4)
            else
              bif (x3.1 == 4) then
                k13 (t7, o2_2, o2_3, (IntKind.i64.wrap (o2_4 + t7)), o4)
              else
                k13 (t7, o2_2, o2_3, o2_4, o4)) fun y13 =>
    asrt true (decide (List.length (α := Int) o3 + List.length (α := Int) [y13.1] ≤ LIM)) (
      kn (bif decide (0 > (IntKind.i64.wrap (t7 - y13.1))) then 0 else (IntKind.i64.wrap (t7 - y13.1))) (IntKind.i64.wrap (t10 + 1)) y13.2.1 y13.2.2.1 y13.2.2.2.1 (o3 ++ [y13.1]) y13.2.2.2.2)
  else
    k1 t7 o2_2 o2_3 o2_4 o3 o4
noncomputable def l9_1 {R : Type} (o0 : T25) (o2 : Int) (o2_5 : (List T38)) (o2_6 : (List T41)) (k1 : Int → Int → Int → Int → (List Int) → (List T38) → Option R) : Nat → Int → Int → Int → Int → Int → (List Int) → (List T38) → Option R
  | 0, _, _, _, _, _, _, _ => none
  | n + 1, t7, t10, o2_2, o2_3, o2_4, o3, o4 => s9_1 o0 o2 o2_5 o2_6 (l9_1 o0 o2 o2_5 o2_6 k1 n) k1 t7 t10 o2_2 o2_3 o2_4 o3 o4
noncomputable def L9_1 : LE := ⟨12, 0, ⟨[(2, (.box 0 [] 0)), (4, (.box 1 [] 0)), (7, (.dat (.int .i64))), (8, (.box 2 [] 0)), (9, (.own 3)), (10, (.dat (.int .i64)))], [(.box (.dat G25)), (.box (.agg (.scons (.dat (.int .i64)) (.scons (.dat (.int .i64)) (.scons (.dat (.int .i64)) (.scons (.dat (.int .i64)) (.scons .nils (.scons .nils (.scons .nils .snil))))))))), (.box (.agg (.scons (.dat (.int .i64)) (.scons (.dat (.int .i64)) (.scons (.dat (.int .i64)) (.scons (.dat (.int .i64)) (.scons (.own 4) (.scons (.dat (.sl G38)) (.scons (.dat (.sl G41)) .snil))))))))), (.arr (.int .i64)), (.arr G38)]⟩, fun R n x k => l9_1 x.2.1 x.2.2.2.1.1 x.2.2.2.1.2.2.2.2.2.1 x.2.2.2.1.2.2.2.2.2.2.1 (fun y0 y1 y2 y3 y4 y5 => k (.exit 0) ⟨[(4, (.box 0 [] 0)), (7, (.dat (.int .i64) y0)), (8, (.box 1 [] 0)), (9, (.own 2))], [(.box (.agg (.scons (.dat (.int .i64) x.2.2.1.1) (.scons (.dat (.int .i64) x.2.2.1.2.1) (.scons (.dat (.int .i64) x.2.2.1.2.2.1) (.scons (.dat (.int .i64) x.2.2.1.2.2.2.1) (.scons .nils (.scons .nils (.scons .nils .snil))))))))), (.box (.agg (.scons (.dat (.int .i64) x.2.2.2.1.1) (.scons (.dat (.int .i64) y1) (.scons (.dat (.int .i64) y2) (.scons (.dat (.int .i64) y3) (.scons (.own 3) (.scons (.dat (.sl G38) x.2.2.2.1.2.2.2.2.2.1) (.scons (.dat (.sl G41) x.2.2.2.1.2.2.2.2.2.2.1) .snil))))))))), (.arr (.int .i64) y4), (.arr G38 y5)]⟩) n x.1.2.2.1 x.1.2.2.2.2.2.1 x.2.2.2.1.2.1 x.2.2.2.1.2.2.1 x.2.2.2.1.2.2.2.1 x.2.2.2.2.1 x.2.2.2.2.2.1⟩
noncomputable def C9 : Cfg := mkCfg [(12, ⟨[2, 4, 7, 8, 9, 10], [(9, [], (.int .i64))]⟩), (13, ⟨[2, 4, 7, 8, 9, 10], []⟩), (29, ⟨[2, 4, 7, 8, 9, 10, 12], []⟩), (33, ⟨[2, 4, 7, 8, 9, 10, 12], []⟩), (36, ⟨[2, 4, 7, 8, 9, 10, 12], []⟩)] [(12, (⟨[4, 7, 8, 9], []⟩, ⟨[4, 5, 6], []⟩))] (([(0, L9_1)] : List (Nat × LE)).map (·.2))
theorem ek9_1 : EOk E9 C9 Try.f9.ntmps (bodyL Try.f9 0) L9_1 := eok_of (e := L9_1) (fun R x Kn k => s9_1 x.2.1 x.2.2.2.1.1 x.2.2.2.1.2.2.2.2.2.1 x.2.2.2.1.2.2.2.2.2.2.1 (fun v0 v1 v2 v3 v4 v5 v6 => Kn (((), (), v0, (), (), v1, ()), (x.2.1, (x.2.2.1.1, x.2.2.1.2.1, x.2.2.1.2.2.1, x.2.2.1.2.2.2.1, (), (), (), ()), (x.2.2.2.1.1, v2, v3, v4, (), x.2.2.2.1.2.2.2.2.2.1, x.2.2.2.1.2.2.2.2.2.2.1, ()), v5, v6, ()))) (fun y0 y1 y2 y3 y4 y5 => k (.exit 0) ⟨[(4, (.box 0 [] 0)), (7, (.dat (.int .i64) y0)), (8, (.box 1 [] 0)), (9, (.own 2))], [(.box (.agg (.scons (.dat (.int .i64) x.2.2.1.1) (.scons (.dat (.int .i64) x.2.2.1.2.1) (.scons (.dat (.int .i64) x.2.2.1.2.2.1) (.scons (.dat (.int .i64) x.2.2.1.2.2.2.1) (.scons .nils (.scons .nils (.scons .nils .snil))))))))), (.box (.agg (.scons (.dat (.int .i64) x.2.2.2.1.1) (.scons (.dat (.int .i64) y1) (.scons (.dat (.int .i64) y2) (.scons (.dat (.int .i64) y3) (.scons (.own 3) (.scons (.dat (.sl G38) x.2.2.2.1.2.2.2.2.2.1) (.scons (.dat (.sl G41) x.2.2.2.1.2.2.2.2.2.2.1) .snil))))))))), (.arr (.int .i64) y4), (.arr G38 y5)]⟩) x.1.2.2.1 x.1.2.2.2.2.2.1 x.2.2.2.1.2.1 x.2.2.2.1.2.2.1 x.2.2.2.1.2.2.2.1 x.2.2.2.2.1 x.2.2.2.2.2.1) (fun _ _ _ => rfl) (fun _ _ _ _ => rfl) (fun R x Kn k => by kernel_rfl)
theorem lm9 : ∀ c, Try.f9.body = some c → LmOk E9 C9 Try.f9.ntmps c := lmOk_of (ps := [(0, L9_1)]) (by kernel_rfl) (by kernel_rfl) ⟨ek9_1, trivial⟩
noncomputable def m9 (a0 : T25) (a1 : Int) : Option ((T25 × ((List Int) × (Int × Unit)))) :=
  (m13 a0).bind fun r1 =>
  (bif ((!r1) == false) then (m16 a1) else some false).bind fun r2 =>
  bif ((!r1) || (!r2)) then
    some ((0, 0, 0, 0, [], [], [], ()), [], 1, ())
  else
    bif (decide ((IntKind.i64.wrap (a1 + a0.2.2.1)) > 1000000000000000)) then
      some ((0, 0, 0, 0, [], [], [], ()), [], 3, ())
    else
      asrt true (decide (List.length (α := T38) a0.2.2.2.2.1 ≤ LIM)) (
        l9_1 a0 a0.1 a0.2.2.2.2.2.1 a0.2.2.2.2.2.2.1 (fun y14 y15 y16 y17 y18 y19 =>
            bif (((decide (y17 > 1000000000000000)) || (decide ((IntKind.i64.wrap (y16 + y14)) > 1000000000000000))) || (decide (y15 > 1000000000000000))) then
              some ((0, 0, 0, 0, [], [], [], ()), [], 3, ())
            else
              some ((a0.1, y15, (IntKind.i64.wrap (y16 + y14)), y17, y19, a0.2.2.2.2.2.1, a0.2.2.2.2.2.2.1, ()), y18, 0, ())) FUEL (IntKind.i64.wrap (a1 + a0.2.2.1)) 0 a0.2.1 0 a0.2.2.2.1 [] a0.2.2.2.2.1)
noncomputable def e9 : PmE := entry 9 [G25, (.int .i64)] true (.cons G25 (.cons (.sl (.int .i64)) (.cons (.int .i64) .nil))) (fun x => m9 x.1 x.2.1)
theorem q9 (x : tyL [G25, (.int .i64)]) : execF E9 C9 Try.f9 (datL [G25, (.int .i64)] x) [] (retK true (.cons G25 (.cons (.sl (.int .i64)) (.cons (.int .i64) .nil)))) = m9 x.1 x.2.1 := by kernel_rfl
theorem p9 : PmOk Try.prog e9 := pm_ok (E := E9) ok9 ord lm9 Try.func9 ca9 q9

noncomputable def cK9 : CmE := konE 9 [G25, (.int .i64)] true (.cons G25 (.cons (.sl (.int .i64)) (.cons (.int .i64) .nil))) (fun x => m9 x.1 x.2.1)
theorem dK9 : CmOk Try.prog cK9 := kon_ok p9

/-! 10: consol/consolref23.Same -/
theorem ca10 : callable Try.prog 10 := ⟨Try.f10, Try.func10, by kernel_rfl, by kernel_rfl⟩
noncomputable def E10 : Env := mkEnv2 Try.prog [] []
theorem ok10 : EnvOk E10 := mkEnv2_ok (by simp) (by simp)
/-- a round of a loop of consol/consolref23.Same -/
noncomputable def s10_1 {R : Type} (o0 : T25) (o1 : T25) (kn : Int → Option R) (k1 : Option R) (k2 : Option R) (t5 : Int) : Option R :=
  bif (decide (t5 < (List.length o0.2.2.2.2.1 : Int))) then
    (idx o0.2.2.2.2.1 t5).bind fun x1 =>
    (idx o1.2.2.2.2.1 t5).bind fun x2 =>
    bif (!((x1.1 == x2.1) && ((x1.2.1 == x2.2.1) && true))) then
      k2
    else
      kn (IntKind.i64.wrap (t5 + 1))
  else
    k1
noncomputable def l10_1 {R : Type} (o0 : T25) (o1 : T25) (k1 : Option R) (k2 : Option R) : Nat → Int → Option R
  | 0, _ => none
  | n + 1, t5 => s10_1 o0 o1 (l10_1 o0 o1 k1 k2 n) k1 k2 t5
noncomputable def L10_1 : LE := ⟨5, 0, ⟨[(2, (.box 0 [] 0)), (3, (.box 1 [] 0)), (5, (.dat (.int .i64)))], [(.box (.dat G25)), (.box (.dat G25))]⟩, fun R n x k => l10_1 x.2.1 x.2.2.1 (k (.exit 0) ⟨[(2, (.box 0 [] 0)), (3, (.box 1 [] 0))], [(.box (.dat G25 x.2.1)), (.box (.dat G25 x.2.2.1))]⟩) (k .ret ⟨[(4, (.dat .bool false))], []⟩) n x.1.2.2.1⟩
/-- a round of a loop of consol/consolref23.Same -/
noncomputable def s10_2 {R : Type} (o0 : T25) (o1 : T25) (kn : Int → Option R) (k1 : Option R) (k2 : Option R) (t6 : Int) : Option R :=
  bif (decide (t6 < (List.length o0.2.2.2.2.2.1 : Int))) then
    (idx o0.2.2.2.2.2.1 t6).bind fun x3 =>
    (idx o1.2.2.2.2.2.1 t6).bind fun x4 =>
    bif (!((x3.1 == x4.1) && ((x3.2.1 == x4.2.1) && true))) then
      k2
    else
      kn (IntKind.i64.wrap (t6 + 1))
  else
    k1
noncomputable def l10_2 {R : Type} (o0 : T25) (o1 : T25) (k1 : Option R) (k2 : Option R) : Nat → Int → Option R
  | 0, _ => none
  | n + 1, t6 => s10_2 o0 o1 (l10_2 o0 o1 k1 k2 n) k1 k2 t6
noncomputable def L10_2 : LE := ⟨10, 0, ⟨[(2, (.box 0 [] 0)), (3, (.box 1 [] 0)), (6, (.dat (.int .i64)))], [(.box (.dat G25)), (.box (.dat G25))]⟩, fun R n x k => l10_2 x.2.1 x.2.2.1 (k (.exit 2) ⟨[(2, (.box 0 [] 0)), (3, (.box 1 [] 0))], [(.box (.dat G25 x.2.1)), (.box (.dat G25 x.2.2.1))]⟩) (k .ret ⟨[(4, (.dat .bool false))], []⟩) n x.1.2.2.1⟩
/-- a round of a loop of consol/consolref23.Same -/
noncomputable def s10_3 {R : Type} (o0 : T25) (o1 : T25) (kn : Int → Option R) (k1 : Option R) (k2 : Option R) (t7 : Int) : Option R :=
  bif (decide (t7 < (List.length o0.2.2.2.2.2.2.1 : Int))) then
    (idx o0.2.2.2.2.2.2.1 t7).bind fun x5 =>
    (idx o1.2.2.2.2.2.2.1 t7).bind fun x6 =>
    bif (!((x5.1 == x6.1) && ((x5.2.1 == x6.2.1) && ((x5.2.2.1 == x6.2.2.1) && true)))) then
      k2
    else
      kn (IntKind.i64.wrap (t7 + 1))
  else
    k1
noncomputable def l10_3 {R : Type} (o0 : T25) (o1 : T25) (k1 : Option R) (k2 : Option R) : Nat → Int → Option R
  | 0, _ => none
  | n + 1, t7 => s10_3 o0 o1 (l10_3 o0 o1 k1 k2 n) k1 k2 t7
noncomputable def L10_3 : LE := ⟨15, 0, ⟨[(2, (.box 0 [] 0)), (3, (.box 1 [] 0)), (7, (.dat (.int .i64)))], [(.box (.dat G25)), (.box (.dat G25))]⟩, fun R n x k => l10_3 x.2.1 x.2.2.1 (k (.exit 4) ⟨[], []⟩) (k .ret ⟨[(4, (.dat .bool false))], []⟩) n x.1.2.2.1⟩
noncomputable def C10 : Cfg := mkCfg [(5, ⟨[2, 3, 5], []⟩), (10, ⟨[2, 3, 6], []⟩), (15, ⟨[2, 3, 7], []⟩)] [(5, (⟨[2, 3], []⟩, ⟨[4], []⟩)), (10, (⟨[2, 3], []⟩, ⟨[4], []⟩)), (15, (⟨[], []⟩, ⟨[4], []⟩))] (([(0, L10_1), (1, L10_2), (2, L10_3)] : List (Nat × LE)).map (·.2))
theorem ek10_1 : EOk E10 C10 Try.f10.ntmps (bodyL Try.f10 0) L10_1 := eok_of (e := L10_1) (fun R x Kn k => s10_1 x.2.1 x.2.2.1 (fun v0 => Kn (((), (), v0, ()), (x.2.1, x.2.2.1, ()))) (k (.exit 0) ⟨[(2, (.box 0 [] 0)), (3, (.box 1 [] 0))], [(.box (.dat G25 x.2.1)), (.box (.dat G25 x.2.2.1))]⟩) (k .ret ⟨[(4, (.dat .bool false))], []⟩) x.1.2.2.1) (fun _ _ _ => rfl) (fun _ _ _ _ => rfl) (fun R x Kn k => by kernel_rfl)
theorem ek10_2 : EOk E10 C10 Try.f10.ntmps (bodyL Try.f10 1) L10_2 := eok_of (e := L10_2) (fun R x Kn k => s10_2 x.2.1 x.2.2.1 (fun v0 => Kn (((), (), v0, ()), (x.2.1, x.2.2.1, ()))) (k (.exit 2) ⟨[(2, (.box 0 [] 0)), (3, (.box 1 [] 0))], [(.box (.dat G25 x.2.1)), (.box (.dat G25 x.2.2.1))]⟩) (k .ret ⟨[(4, (.dat .bool false))], []⟩) x.1.2.2.1) (fun _ _ _ => rfl) (fun _ _ _ _ => rfl) (fun R x Kn k => by kernel_rfl)
theorem ek10_3 : EOk E10 C10 Try.f10.ntmps (bodyL Try.f10 2) L10_3 := eok_of (e := L10_3) (fun R x Kn k => s10_3 x.2.1 x.2.2.1 (fun v0 => Kn (((), (), v0, ()), (x.2.1, x.2.2.1, ()))) (k (.exit 4) ⟨[], []⟩) (k .ret ⟨[(4, (.dat .bool false))], []⟩) x.1.2.2.1) (fun _ _ _ => rfl) (fun _ _ _ _ => rfl) (fun R x Kn k => by kernel_rfl)
theorem lm10 : ∀ c, Try.f10.body = some c → LmOk E10 C10 Try.f10.ntmps c := lmOk_of (ps := [(0, L10_1), (1, L10_2), (2, L10_3)]) (by kernel_rfl) (by kernel_rfl) ⟨ek10_1, ek10_2, ek10_3, trivial⟩
noncomputable def m10 (a0 : T25) (a1 : T25) : Option (Bool) :=
  bif (((((((a0.1 != a1.1) || (a0.2.1 != a1.2.1)) || (a0.2.2.1 != a1.2.2.1)) || (a0.2.2.2.1 != a1.2.2.2.1)) || ((List.length a0.2.2.2.2.1 : Int) != (List.length a1.2.2.2.2.1 : Int))) || ((List.length a0.2.2.2.2.2.1 : Int) != (List.length a1.2.2.2.2.2.1 : Int))) || ((List.length a0.2.2.2.2.2.2.1 : Int) != (List.length a1.2.2.2.2.2.2.1 : Int))) then
    some false
  else
    l10_1 a0 a1 (
        l10_2 a0 a1 (
            l10_3 a0 a1 (
                some true) (
                some false) FUEL 0) (
            some false) FUEL 0) (
        some false) FUEL 0
noncomputable def e10 : PmE := entry 10 [G25, G25] false .bool (fun x => m10 x.1 x.2.1)
theorem q10 (x : tyL [G25, G25]) : execF E10 C10 Try.f10 (datL [G25, G25] x) [] (retK false .bool) = m10 x.1 x.2.1 := by kernel_rfl
theorem p10 : PmOk Try.prog e10 := pm_ok (E := E10) ok10 ord lm10 Try.func10 ca10 q10

/-! 15: consol/consolref23.Passed -/
theorem ca15 : callable Try.prog 15 := ⟨Try.f15, Try.func15, by kernel_rfl, by kernel_rfl⟩
noncomputable def E15 : Env := mkEnv2 Try.prog [e13] []
theorem ok15 : EnvOk E15 := mkEnv2_ok (by simp only [List.mem_cons, List.not_mem_nil, or_false, forall_eq]; exact p13) (by simp)
/-- a round of a loop of consol/consolref23.Passed -/
noncomputable def s15_1 {R : Type} (t1 : Int) (o0 : T25) (kn : Int → Int → Option R) (k1 : Int → Option R) (t5 : Int) (t6 : Int) : Option R :=
  (idx o0.2.2.2.2.2.1 t1).bind fun x2 =>
  bif (decide (t6 < x2.1)) then
    (idx o0.2.2.2.2.1 t6).bind fun x3 =>
    kn (IntKind.i64.wrap (t5 + x3.1)) (IntKind.i64.wrap (t6 + 1))
  else
    k1 t5
noncomputable def l15_1 {R : Type} (t1 : Int) (o0 : T25) (k1 : Int → Option R) : Nat → Int → Int → Option R
  | 0, _, _ => none
  | n + 1, t5, t6 => s15_1 t1 o0 (l15_1 t1 o0 k1 n) k1 t5 t6
noncomputable def L15_1 : LE := ⟨6, 0, ⟨[(1, (.dat (.int .i64))), (2, (.box 0 [] 0)), (5, (.dat (.int .i64))), (6, (.dat (.int .i64)))], [(.box (.dat G25))]⟩, fun R n x k => l15_1 x.1.1 x.2.1 (fun y0 => k (.exit 0) ⟨[(1, (.dat (.int .i64) x.1.1)), (2, (.box 0 [] 0)), (5, (.dat (.int .i64) y0))], [(.box (.dat G25 x.2.1))]⟩) n x.1.2.2.1 x.1.2.2.2.1⟩
noncomputable def C15 : Cfg := mkCfg [(6, ⟨[1, 2, 5, 6], []⟩)] [(6, (⟨[1, 2, 5], []⟩, ⟨[4], []⟩))] (([(0, L15_1)] : List (Nat × LE)).map (·.2))
theorem ek15_1 : EOk E15 C15 Try.f15.ntmps (bodyL Try.f15 0) L15_1 := eok_of (e := L15_1) (fun R x Kn k => s15_1 x.1.1 x.2.1 (fun v0 v1 => Kn ((x.1.1, (), v0, v1, ()), (x.2.1, ()))) (fun y0 => k (.exit 0) ⟨[(1, (.dat (.int .i64) x.1.1)), (2, (.box 0 [] 0)), (5, (.dat (.int .i64) y0))], [(.box (.dat G25 x.2.1))]⟩) x.1.2.2.1 x.1.2.2.2.1) (fun _ _ _ => rfl) (fun _ _ _ _ => rfl) (fun R x Kn k => by kernel_rfl)
theorem lm15 : ∀ c, Try.f15.body = some c → LmOk E15 C15 Try.f15.ntmps c := lmOk_of (ps := [(0, L15_1)]) (by kernel_rfl) (by kernel_rfl) ⟨ek15_1, trivial⟩
noncomputable def m15 (a0 : T25) (a1 : Int) : Option (Bool) :=
  (m13 a0).bind fun r1 =>
  bif (((!r1) || (decide (a1 < 0))) || (decide (a1 ≥ (List.length a0.2.2.2.2.2.1 : Int)))) then
    some false
  else
    l15_1 a1 a0 (fun y4 =>
        (idx a0.2.2.2.2.2.1 a1).bind fun x5 =>
        some (decide (y4 ≤ (IntKind.i64.wrap (Int.tdiv (IntKind.i64.wrap (x5.2.1 * a0.1)) 1000))))) FUEL 0 0
noncomputable def e15 : PmE := entry 15 [G25, (.int .i64)] false .bool (fun x => m15 x.1 x.2.1)
theorem q15 (x : tyL [G25, (.int .i64)]) : execF E15 C15 Try.f15 (datL [G25, (.int .i64)] x) [] (retK false .bool) = m15 x.1 x.2.1 := by kernel_rfl
theorem p15 : PmOk Try.prog e15 := pm_ok (E := E15) ok15 ord lm15 Try.func15 ca15 q15

/-! 3: consol/consollaw23.FallTells -/
theorem ca3 : callable Try.prog 3 := ⟨Try.f3, Try.func3, by kernel_rfl, by kernel_rfl⟩
noncomputable def E3 : Env := mkEnv2 Try.prog [e7, e8, e9, e10, e11, e12, e13, e14, e15] []
theorem ok3 : EnvOk E3 := mkEnv2_ok (by simp only [List.mem_cons, List.not_mem_nil, or_false, forall_eq_or_imp, forall_eq]; exact ⟨p7, p8, p9, p10, p11, p12, p13, p14, p15⟩) (by simp)
noncomputable def C3 : Cfg := noCfg
theorem lm3 : ∀ c, Try.f3.body = some c → LmOk E3 C3 Try.f3.ntmps c := fun _ _ => noCfg_lm
noncomputable def m3 (a0 : T25) (a1 : Int) (a2 : Int) : Option (Bool) :=
  (m7).bind fun r1 =>
  bif (((decide ((List.length a0.2.2.2.2.1 : Int) > 60)) || (decide ((List.length a0.2.2.2.2.2.1 : Int) > 60))) || (decide ((List.length a0.2.2.2.2.2.2.1 : Int) > 60))) then
    some r1
  else
    (m8 a0 a1).bind fun r2 =>
    (m9 a0 a1).bind fun r3 =>
    (bif ((r1 && (r2.2.2.1 == r3.2.2.1)) == true) then (m10 r2.1 r3.1) else some false).bind fun r4 =>
    (bif (((r1 && (r2.2.2.1 == r3.2.2.1)) && r4) == true) then (m11 r2.2.1 r3.2.1) else some false).bind fun r5 =>
    (bif ((((r1 && (r2.2.2.1 == r3.2.2.1)) && r4) && r5) == true) then (m12 a0) else some false).bind fun r6 =>
    (bif ((((r1 && (r2.2.2.1 == r3.2.2.1)) && r4) && r5) == true) then (m13 a0) else some false).bind fun r7 =>
    (bif (((((r1 && (r2.2.2.1 == r3.2.2.1)) && r4) && r5) && (r6 == r7)) == true) then (m14 a0 a2) else some false).bind fun r8 =>
    (bif (((((r1 && (r2.2.2.1 == r3.2.2.1)) && r4) && r5) && (r6 == r7)) == true) then (m15 a0 a2) else some false).bind fun r9 =>
    some (((((r1 && (r2.2.2.1 == r3.2.2.1)) && r4) && r5) && (r6 == r7)) && (r8 == r9))
noncomputable def e3 : PmE := entry 3 [G25, (.int .i64), (.int .i64)] false .bool (fun x => m3 x.1 x.2.1 x.2.2.1)
theorem q3 (x : tyL [G25, (.int .i64), (.int .i64)]) : execF E3 C3 Try.f3 (datL [G25, (.int .i64), (.int .i64)] x) [] (retK false .bool) = m3 x.1 x.2.1 x.2.2.1 := by kernel_rfl
theorem p3 : PmOk Try.prog e3 := pm_ok (E := E3) ok3 ord lm3 Try.func3 ca3 q3

/-! 17: consol/consolref23.Owed -/
theorem ca17 : callable Try.prog 17 := ⟨Try.f17, Try.func17, by kernel_rfl, by kernel_rfl⟩
noncomputable def E17 : Env := mkEnv2 Try.prog [] []
theorem ok17 : EnvOk E17 := mkEnv2_ok (by simp) (by simp)
/-- a round of a loop of consol/consolref23.Owed -/
noncomputable def s17_1 {R : Type} (o0 : T25) (kn : Int → Int → Option R) (k1 : Int → Option R) (t3 : Int) (t4 : Int) : Option R :=
  bif (decide (t4 < (List.length o0.2.2.2.2.1 : Int))) then
    (idx o0.2.2.2.2.1 t4).bind fun x1 =>
    (idx o0.2.2.2.2.1 t4).bind fun x2 =>
    kn (IntKind.i64.wrap ((IntKind.i64.wrap (t3 + x1.1)) + x2.2.1)) (IntKind.i64.wrap (t4 + 1))
  else
    k1 t3
noncomputable def l17_1 {R : Type} (o0 : T25) (k1 : Int → Option R) : Nat → Int → Int → Option R
  | 0, _, _ => none
  | n + 1, t3, t4 => s17_1 o0 (l17_1 o0 k1 n) k1 t3 t4
noncomputable def L17_1 : LE := ⟨4, 0, ⟨[(1, (.box 0 [] 0)), (3, (.dat (.int .i64))), (4, (.dat (.int .i64)))], [(.box (.dat G25))]⟩, fun R n x k => l17_1 x.2.1 (fun y0 => k (.exit 0) ⟨[(3, (.dat (.int .i64) y0))], []⟩) n x.1.2.1 x.1.2.2.1⟩
noncomputable def C17 : Cfg := mkCfg [(4, ⟨[1, 3, 4], []⟩)] [(4, (⟨[3], []⟩, ⟨[2], []⟩))] (([(0, L17_1)] : List (Nat × LE)).map (·.2))
theorem ek17_1 : EOk E17 C17 Try.f17.ntmps (bodyL Try.f17 0) L17_1 := eok_of (e := L17_1) (fun R x Kn k => s17_1 x.2.1 (fun v0 v1 => Kn (((), v0, v1, ()), (x.2.1, ()))) (fun y0 => k (.exit 0) ⟨[(3, (.dat (.int .i64) y0))], []⟩) x.1.2.1 x.1.2.2.1) (fun _ _ _ => rfl) (fun _ _ _ _ => rfl) (fun R x Kn k => by kernel_rfl)
theorem lm17 : ∀ c, Try.f17.body = some c → LmOk E17 C17 Try.f17.ntmps c := lmOk_of (ps := [(0, L17_1)]) (by kernel_rfl) (by kernel_rfl) ⟨ek17_1, trivial⟩
noncomputable def m17 (a0 : T25) : Option (Int) :=
  l17_1 a0 (fun y3 =>
      some y3) FUEL 0 0
noncomputable def e17 : PmE := entry 17 [G25] false (.int .i64) (fun x => m17 x.1)
theorem q17 (x : tyL [G25]) : execF E17 C17 Try.f17 (datL [G25] x) [] (retK false (.int .i64)) = m17 x.1 := by kernel_rfl
theorem p17 : PmOk Try.prog e17 := pm_ok (E := E17) ok17 ord lm17 Try.func17 ca17 q17

/-! 4: consol/consollaw23.FallKeeps -/
theorem ca4 : callable Try.prog 4 := ⟨Try.f4, Try.func4, by kernel_rfl, by kernel_rfl⟩
noncomputable def E4 : Env := mkEnv2 Try.prog [e7, e8, e12, e16, e17] []
theorem ok4 : EnvOk E4 := mkEnv2_ok (by simp only [List.mem_cons, List.not_mem_nil, or_false, forall_eq_or_imp, forall_eq]; exact ⟨p7, p8, p12, p16, p17⟩) (by simp)
/-- a round of a loop of consol/consollaw23.FallKeeps -/
noncomputable def s4_1 {R : Type} (t7 : (List Int)) (kn : Int → Option R) (k1 : Option R) (k2 : Option R) (t9 : Int) : Option R :=
  bif (decide (t9 < (List.length t7 : Int))) then
    (idx t7 t9).bind fun x6 =>
    bif (decide (x6 < 0)) then
      k2
    else
      kn (IntKind.i64.wrap (t9 + 1))
  else
    k1
noncomputable def l4_1 {R : Type} (t7 : (List Int)) (k1 : Option R) (k2 : Option R) : Nat → Int → Option R
  | 0, _ => none
  | n + 1, t9 => s4_1 t7 (l4_1 t7 k1 k2 n) k1 k2 t9
noncomputable def L4_1 : LE := ⟨11, 0, ⟨[(1, (.dat (.int .i64))), (2, (.box 0 [] 0)), (5, (.dat .bool)), (6, (.box 1 [] 0)), (7, (.dat (.sl (.int .i64)))), (9, (.dat (.int .i64)))], [(.box (.dat G25)), (.box (.dat G25))]⟩, fun R n x k => l4_1 x.1.2.2.2.2.1 (k (.exit 0) ⟨[(1, (.dat (.int .i64) x.1.1)), (2, (.box 0 [] 0)), (5, (.dat .bool x.1.2.2.1)), (6, (.box 1 [] 0))], [(.box (.dat G25 x.2.1)), (.box (.dat G25 x.2.2.1))]⟩) (k .ret ⟨[(4, (.dat .bool false))], []⟩) n x.1.2.2.2.2.2.1⟩
/-- a round of a loop of consol/consollaw23.FallKeeps -/
noncomputable def s4_2 {R : Type} (o0 : T25) (o1 : T25) (kn : Int → Option R) (k1 : Option R) (k2 : Option R) (t10 : Int) : Option R :=
  bif (decide (t10 < (List.length o0.2.2.2.2.1 : Int))) then
    (idx o1.2.2.2.2.1 t10).bind fun x7 =>
    (idx o0.2.2.2.2.1 t10).bind fun x8 =>
    (idxG ((decide (x7.1 > x8.1)) == false) (0, 0, ()) o1.2.2.2.2.1 t10).bind fun x9 =>
    (idxG ((decide (x7.1 > x8.1)) == false) (0, 0, ()) o0.2.2.2.2.1 t10).bind fun x10 =>
    bif ((decide (x7.1 > x8.1)) || (decide (x9.2.1 > x10.2.1))) then
      k2
    else
      kn (IntKind.i64.wrap (t10 + 1))
  else
    k1
noncomputable def l4_2 {R : Type} (o0 : T25) (o1 : T25) (k1 : Option R) (k2 : Option R) : Nat → Int → Option R
  | 0, _ => none
  | n + 1, t10 => s4_2 o0 o1 (l4_2 o0 o1 k1 k2 n) k1 k2 t10
noncomputable def L4_2 : LE := ⟨16, 0, ⟨[(1, (.dat (.int .i64))), (2, (.box 0 [] 0)), (5, (.dat .bool)), (6, (.box 1 [] 0)), (10, (.dat (.int .i64)))], [(.box (.dat G25)), (.box (.dat G25))]⟩, fun R n x k => l4_2 x.2.1 x.2.2.1 (k (.exit 2) ⟨[(1, (.dat (.int .i64) x.1.1)), (2, (.box 0 [] 0)), (5, (.dat .bool x.1.2.2.1)), (6, (.box 1 [] 0))], [(.box (.dat G25 x.2.1)), (.box (.dat G25 x.2.2.1))]⟩) (k .ret ⟨[(4, (.dat .bool false))], []⟩) n x.1.2.2.2.2.1⟩
noncomputable def C4 : Cfg := mkCfg [(11, ⟨[1, 2, 5, 6, 7, 9], []⟩), (16, ⟨[1, 2, 5, 6, 10], []⟩)] [(11, (⟨[1, 2, 5, 6], []⟩, ⟨[4], []⟩)), (16, (⟨[1, 2, 5, 6], []⟩, ⟨[4], []⟩))] (([(0, L4_1), (1, L4_2)] : List (Nat × LE)).map (·.2))
theorem ek4_1 : EOk E4 C4 Try.f4.ntmps (bodyL Try.f4 0) L4_1 := eok_of (e := L4_1) (fun R x Kn k => s4_1 x.1.2.2.2.2.1 (fun v0 => Kn ((x.1.1, (), x.1.2.2.1, (), x.1.2.2.2.2.1, v0, ()), (x.2.1, x.2.2.1, ()))) (k (.exit 0) ⟨[(1, (.dat (.int .i64) x.1.1)), (2, (.box 0 [] 0)), (5, (.dat .bool x.1.2.2.1)), (6, (.box 1 [] 0))], [(.box (.dat G25 x.2.1)), (.box (.dat G25 x.2.2.1))]⟩) (k .ret ⟨[(4, (.dat .bool false))], []⟩) x.1.2.2.2.2.2.1) (fun _ _ _ => rfl) (fun _ _ _ _ => rfl) (fun R x Kn k => by kernel_rfl)
theorem ek4_2 : EOk E4 C4 Try.f4.ntmps (bodyL Try.f4 1) L4_2 := eok_of (e := L4_2) (fun R x Kn k => s4_2 x.2.1 x.2.2.1 (fun v0 => Kn ((x.1.1, (), x.1.2.2.1, (), v0, ()), (x.2.1, x.2.2.1, ()))) (k (.exit 2) ⟨[(1, (.dat (.int .i64) x.1.1)), (2, (.box 0 [] 0)), (5, (.dat .bool x.1.2.2.1)), (6, (.box 1 [] 0))], [(.box (.dat G25 x.2.1)), (.box (.dat G25 x.2.2.1))]⟩) (k .ret ⟨[(4, (.dat .bool false))], []⟩) x.1.2.2.2.2.1) (fun _ _ _ => rfl) (fun _ _ _ _ => rfl) (fun R x Kn k => by kernel_rfl)
theorem lm4 : ∀ c, Try.f4.body = some c → LmOk E4 C4 Try.f4.ntmps c := lmOk_of (ps := [(0, L4_1), (1, L4_2)]) (by kernel_rfl) (by kernel_rfl) ⟨ek4_1, ek4_2, trivial⟩
noncomputable def m4 (a0 : T25) (a1 : Int) : Option (Bool) :=
  (m7).bind fun r1 =>
  (m12 a0).bind fun r2 =>
  (bif ((!r2) == false) then (m16 a1) else some false).bind fun r3 =>
  bif ((!r2) || (!r3)) then
    some r1
  else
    (m8 a0 a1).bind fun r4 =>
    bif (r4.2.2.1 != 0) then
      some (((r1 && (r4.2.2.1 == 3)) && ((List.length r4.2.1 : Int) == 0)) && (decide ((IntKind.i64.wrap ((IntKind.i64.wrap ((IntKind.i64.wrap (a1 + a0.2.2.1)) + a0.2.2.2.1)) + a0.2.1)) > 1000000000000000)))
    else
      (bif ((((List.length r4.2.1 : Int) != (List.length a0.2.2.2.2.2.2.1 : Int)) || ((List.length r4.1.2.2.2.2.1 : Int) != (List.length a0.2.2.2.2.1 : Int))) == false) then (m12 r4.1) else some false).bind fun r5 =>
      bif ((((((List.length r4.2.1 : Int) != (List.length a0.2.2.2.2.2.2.1 : Int)) || ((List.length r4.1.2.2.2.2.1 : Int) != (List.length a0.2.2.2.2.1 : Int))) || (!r5)) || (r4.1.1 != a0.1)) || (decide (r4.1.2.2.2.1 < a0.2.2.2.1))) then
        some false
      else
        l4_1 r4.2.1 (
            l4_2 a0 r4.1 (
                (m17 a0).bind fun r11 =>
                (m17 r4.1).bind fun r12 =>
                some (r1 && ((IntKind.i64.wrap ((IntKind.i64.wrap (a1 + a0.2.2.1)) + a0.2.1)) == (IntKind.i64.wrap ((IntKind.i64.wrap ((IntKind.i64.wrap ((IntKind.i64.wrap ((IntKind.i64.wrap (r11 - r12)) + r4.1.2.2.1)) + r4.1.2.1)) + r4.1.2.2.2.1)) - a0.2.2.2.1))))) (
                some false) FUEL 0) (
            some false) FUEL 0
noncomputable def e4 : PmE := entry 4 [G25, (.int .i64)] false .bool (fun x => m4 x.1 x.2.1)
theorem q4 (x : tyL [G25, (.int .i64)]) : execF E4 C4 Try.f4 (datL [G25, (.int .i64)] x) [] (retK false .bool) = m4 x.1 x.2.1 := by kernel_rfl
theorem p4 : PmOk Try.prog e4 := pm_ok (E := E4) ok4 ord lm4 Try.func4 ca4 q4

/-! 5: consol/consollaw23.FallOrder -/
theorem ca5 : callable Try.prog 5 := ⟨Try.f5, Try.func5, by kernel_rfl, by kernel_rfl⟩
noncomputable def E5 : Env := mkEnv2 Try.prog [e7, e8, e12] []
theorem ok5 : EnvOk E5 := mkEnv2_ok (by simp only [List.mem_cons, List.not_mem_nil, or_false, forall_eq_or_imp, forall_eq]; exact ⟨p7, p8, p12⟩) (by simp)
/-- a round of a loop of consol/consollaw23.FallOrder -/
noncomputable def s5_1 {R : Type} (o0 : T25) (o2 : T41) (kn : Bool → Int → Option R) (k1 : Bool → Option R) (t13 : Bool) (t14 : Int) : Option R :=
  bif (decide (t14 < (List.length o0.2.2.2.2.2.2.1 : Int))) then
    (idxG (t13 == true) (0, 0, 0, ()) o0.2.2.2.2.2.2.1 t14).bind fun x7 =>
    (idxG ((t13 == true) && ((x7.1 != 0) == false)) (0, 0, 0, ()) o0.2.2.2.2.2.2.1 t14).bind fun x8 =>
    kn (t13 && ((x7.1 != 0) || (x8.2.1 != o2.2.1))) (IntKind.i64.wrap (t14 + 1))
  else
    k1 t13
noncomputable def l5_1 {R : Type} (o0 : T25) (o2 : T41) (k1 : Bool → Option R) : Nat → Bool → Int → Option R
  | 0, _, _ => none
  | n + 1, t13, t14 => s5_1 o0 o2 (l5_1 o0 o2 k1 n) k1 t13 t14
noncomputable def L5_1 : LE := ⟨20, 0, ⟨[(2, (.box 0 [] 0)), (5, (.dat .bool)), (6, (.box 1 [] 0)), (7, (.dat (.sl (.int .i64)))), (9, (.dat .bool)), (10, (.dat .bool)), (11, (.dat (.int .i64))), (12, (.box 2 [] 0)), (13, (.dat .bool)), (14, (.dat (.int .i64)))], [(.box (.dat G25)), (.box (.dat G25)), (.box (.dat G41))]⟩, fun R n x k => l5_1 x.2.1 x.2.2.2.1 (fun y0 => k (.exit 2) ⟨[(2, (.box 0 [] 0)), (5, (.dat .bool x.1.2.1)), (6, (.box 1 [] 0)), (7, (.dat (.sl (.int .i64)) x.1.2.2.2.1)), (9, (.dat .bool x.1.2.2.2.2.1)), (10, (.dat .bool x.1.2.2.2.2.2.1)), (11, (.dat (.int .i64) x.1.2.2.2.2.2.2.1)), (12, (.box 2 [] 0)), (13, (.dat .bool y0))], [(.box (.dat G25 x.2.1)), (.box (.dat G25 x.2.2.1)), (.box (.dat G41 x.2.2.2.1))]⟩) n x.1.2.2.2.2.2.2.2.2.1 x.1.2.2.2.2.2.2.2.2.2.1⟩
/-- a round of a loop of consol/consollaw23.FallOrder -/
noncomputable def s5_2 {R : Type} (t7 : (List Int)) (o0 : T25) (o1 : T25) (kn : Bool → Bool → Int → Option R) (k1 : Bool → Option R) (k2 : Option R) (t9 : Bool) (t10 : Bool) (t11 : Int) : Option R :=
  bif (decide (t11 < (List.length t7 : Int))) then
    (idx o0.2.2.2.2.2.2.1 t11).bind fun x4 =>
    (idxG (t9 == true) 0 t7 t11).bind fun x5 =>
    (idxG (((t9 && (x5 != 0)) == false) && ((t10 && (x4.1 != 0)) == true)) 0 t7 t11).bind fun x6 =>
    bif ((t9 && (x5 != 0)) || ((t10 && (x4.1 != 0)) && (x6 != 0))) then
      k2
    else
      l5_1 o0 x4 (fun y9 =>
          cont (fun (k11 : Bool → _) =>
            (idxG (y9 == true) (0, 0, ()) o1.2.2.2.2.1 x4.2.1).bind fun x10 =>
            bif (y9 && (decide (x10.2.1 > 0))) then
              k11 true
            else
              k11 t9) fun y11 =>
          (idxG ((x4.1 == 3) == true) 0 t7 t11).bind fun x12 =>
          kn y11 ((t10 || ((x4.1 == 3) && (decide (x12 > 0)))) || (x4.1 == 4)) (IntKind.i64.wrap (t11 + 1))) FUEL (x4.1 == 0) (IntKind.i64.wrap (t11 + 1))
  else
    k1 t9
noncomputable def l5_2 {R : Type} (t7 : (List Int)) (o0 : T25) (o1 : T25) (k1 : Bool → Option R) (k2 : Option R) : Nat → Bool → Bool → Int → Option R
  | 0, _, _, _ => none
  | n + 1, t9, t10, t11 => s5_2 t7 o0 o1 (l5_2 t7 o0 o1 k1 k2 n) k1 k2 t9 t10 t11
noncomputable def L5_2 : LE := ⟨13, 0, ⟨[(2, (.box 0 [] 0)), (5, (.dat .bool)), (6, (.box 1 [] 0)), (7, (.dat (.sl (.int .i64)))), (9, (.dat .bool)), (10, (.dat .bool)), (11, (.dat (.int .i64)))], [(.box (.dat G25)), (.box (.dat G25))]⟩, fun R n x k => l5_2 x.1.2.2.2.1 x.2.1 x.2.2.1 (fun y0 => k (.exit 0) ⟨[(5, (.dat .bool x.1.2.1)), (6, (.box 0 [] 0)), (9, (.dat .bool y0))], [(.box (.dat G25 x.2.2.1))]⟩) (k .ret ⟨[(4, (.dat .bool false))], []⟩) n x.1.2.2.2.2.1 x.1.2.2.2.2.2.1 x.1.2.2.2.2.2.2.1⟩
noncomputable def C5 : Cfg := mkCfg [(13, ⟨[2, 5, 6, 7, 9, 10, 11], []⟩), (14, ⟨[2, 5, 6, 7, 9, 10, 11], []⟩), (20, ⟨[2, 5, 6, 7, 9, 10, 11, 12, 13, 14], []⟩), (25, ⟨[2, 5, 6, 7, 9, 10, 11, 12], []⟩)] [(13, (⟨[5, 6, 9], []⟩, ⟨[4], []⟩)), (20, (⟨[2, 5, 6, 7, 9, 10, 11, 12, 13], []⟩, ⟨[4], []⟩))] (([(1, L5_1), (0, L5_2)] : List (Nat × LE)).map (·.2))
theorem ek5_1 : EOk E5 C5 Try.f5.ntmps (bodyL Try.f5 1) L5_1 := eok_of (e := L5_1) (fun R x Kn k => s5_1 x.2.1 x.2.2.2.1 (fun v0 v1 => Kn (((), x.1.2.1, (), x.1.2.2.2.1, x.1.2.2.2.2.1, x.1.2.2.2.2.2.1, x.1.2.2.2.2.2.2.1, (), v0, v1, ()), (x.2.1, x.2.2.1, x.2.2.2.1, ()))) (fun y0 => k (.exit 2) ⟨[(2, (.box 0 [] 0)), (5, (.dat .bool x.1.2.1)), (6, (.box 1 [] 0)), (7, (.dat (.sl (.int .i64)) x.1.2.2.2.1)), (9, (.dat .bool x.1.2.2.2.2.1)), (10, (.dat .bool x.1.2.2.2.2.2.1)), (11, (.dat (.int .i64) x.1.2.2.2.2.2.2.1)), (12, (.box 2 [] 0)), (13, (.dat .bool y0))], [(.box (.dat G25 x.2.1)), (.box (.dat G25 x.2.2.1)), (.box (.dat G41 x.2.2.2.1))]⟩) x.1.2.2.2.2.2.2.2.2.1 x.1.2.2.2.2.2.2.2.2.2.1) (fun _ _ _ => rfl) (fun _ _ _ _ => rfl) (fun R x Kn k => by kernel_rfl)
theorem ek5_2 : EOk E5 C5 Try.f5.ntmps (bodyL Try.f5 0) L5_2 := eok_of (e := L5_2) (fun R x Kn k => s5_2 x.1.2.2.2.1 x.2.1 x.2.2.1 (fun v0 v1 v2 => Kn (((), x.1.2.1, (), x.1.2.2.2.1, v0, v1, v2, ()), (x.2.1, x.2.2.1, ()))) (fun y0 => k (.exit 0) ⟨[(5, (.dat .bool x.1.2.1)), (6, (.box 0 [] 0)), (9, (.dat .bool y0))], [(.box (.dat G25 x.2.2.1))]⟩) (k .ret ⟨[(4, (.dat .bool false))], []⟩) x.1.2.2.2.2.1 x.1.2.2.2.2.2.1 x.1.2.2.2.2.2.2.1) (fun _ _ _ => rfl) (fun _ _ _ _ => rfl) (fun R x Kn k => by kernel_rfl)
theorem lm5 : ∀ c, Try.f5.body = some c → LmOk E5 C5 Try.f5.ntmps c := lmOk_of (ps := [(1, L5_1), (0, L5_2)]) (by kernel_rfl) (by kernel_rfl) ⟨ek5_1, ek5_2, trivial⟩
noncomputable def m5 (a0 : T25) (a1 : Int) : Option (Bool) :=
  (m7).bind fun r1 =>
  (m12 a0).bind fun r2 =>
  bif (!r2) then
    some r1
  else
    (m8 a0 a1).bind fun r3 =>
    bif (r3.2.2.1 != 0) then
      some r1
    else
      bif (((List.length r3.2.1 : Int) != (List.length a0.2.2.2.2.2.2.1 : Int)) || ((List.length r3.1.2.2.2.2.1 : Int) != (List.length a0.2.2.2.2.1 : Int))) then
        some false
      else
        l5_2 r3.2.1 a0 r3.1 (fun y13 =>
            some (r1 && ((!y13) || (r3.1.2.1 == 0)))) (
            some false) FUEL false false 0
noncomputable def e5 : PmE := entry 5 [G25, (.int .i64)] false .bool (fun x => m5 x.1 x.2.1)
theorem q5 (x : tyL [G25, (.int .i64)]) : execF E5 C5 Try.f5 (datL [G25, (.int .i64)] x) [] (retK false .bool) = m5 x.1 x.2.1 := by kernel_rfl
theorem p5 : PmOk Try.prog e5 := pm_ok (E := E5) ok5 ord lm5 Try.func5 ca5 q5

/-! 6: consol/consollaw23.FallTwice -/
theorem ca6 : callable Try.prog 6 := ⟨Try.f6, Try.func6, by kernel_rfl, by kernel_rfl⟩
noncomputable def E6 : Env := mkEnv2 Try.prog [e7, e8, e10, e16] []
theorem ok6 : EnvOk E6 := mkEnv2_ok (by simp only [List.mem_cons, List.not_mem_nil, or_false, forall_eq_or_imp, forall_eq]; exact ⟨p7, p8, p10, p16⟩) (by simp)
/-- a round of a loop of consol/consollaw23.FallTwice -/
noncomputable def s6_1 {R : Type} (o0 : T25) (kn : Int → Option R) (k1 : Option R) (k2 : Option R) (t8 : Int) : Option R :=
  bif (decide (t8 < (List.length o0.2.2.2.2.2.2.1 : Int))) then
    (idx o0.2.2.2.2.2.2.1 t8).bind fun x2 =>
    (idxG ((x2.1 != 0) == true) (0, 0, 0, ()) o0.2.2.2.2.2.2.1 t8).bind fun x3 =>
    bif ((x2.1 != 0) && (x3.1 != 1)) then
      k2
    else
      kn (IntKind.i64.wrap (t8 + 1))
  else
    k1
noncomputable def l6_1 {R : Type} (o0 : T25) (k1 : Option R) (k2 : Option R) : Nat → Int → Option R
  | 0, _ => none
  | n + 1, t8 => s6_1 o0 (l6_1 o0 k1 k2 n) k1 k2 t8
noncomputable def L6_1 : LE := ⟨4, 0, ⟨[(1, (.dat (.int .i64))), (2, (.dat (.int .i64))), (3, (.box 0 [] 0)), (7, (.dat .bool)), (8, (.dat (.int .i64)))], [(.box (.dat G25))]⟩, fun R n x k => l6_1 x.2.1 (k (.exit 0) ⟨[(1, (.dat (.int .i64) x.1.1)), (2, (.dat (.int .i64) x.1.2.1)), (3, (.box 0 [] 0)), (7, (.dat .bool x.1.2.2.2.1))], [(.box (.dat G25 x.2.1))]⟩) (k .ret ⟨[(6, (.dat .bool x.1.2.2.2.1))], []⟩) n x.1.2.2.2.2.1⟩
noncomputable def C6 : Cfg := mkCfg [(4, ⟨[1, 2, 3, 7, 8], []⟩)] [(4, (⟨[1, 2, 3, 7], []⟩, ⟨[6], []⟩))] (([(0, L6_1)] : List (Nat × LE)).map (·.2))
theorem ek6_1 : EOk E6 C6 Try.f6.ntmps (bodyL Try.f6 0) L6_1 := eok_of (e := L6_1) (fun R x Kn k => s6_1 x.2.1 (fun v0 => Kn ((x.1.1, x.1.2.1, (), x.1.2.2.2.1, v0, ()), (x.2.1, ()))) (k (.exit 0) ⟨[(1, (.dat (.int .i64) x.1.1)), (2, (.dat (.int .i64) x.1.2.1)), (3, (.box 0 [] 0)), (7, (.dat .bool x.1.2.2.2.1))], [(.box (.dat G25 x.2.1))]⟩) (k .ret ⟨[(6, (.dat .bool x.1.2.2.2.1))], []⟩) x.1.2.2.2.2.1) (fun _ _ _ => rfl) (fun _ _ _ _ => rfl) (fun R x Kn k => by kernel_rfl)
theorem lm6 : ∀ c, Try.f6.body = some c → LmOk E6 C6 Try.f6.ntmps c := lmOk_of (ps := [(0, L6_1)]) (by kernel_rfl) (by kernel_rfl) ⟨ek6_1, trivial⟩
noncomputable def m6 (a0 : T25) (a1 : Int) (a2 : Int) : Option (Bool) :=
  (m7).bind fun r1 =>
  l6_1 a0 (
      (m16 a1).bind fun r4 =>
      (bif ((!r4) == false) then (m16 a2) else some false).bind fun r5 =>
      bif (((!r4) || (!r5)) || (a0.2.1 != 0)) then
        some r1
      else
        (m8 a0 a1).bind fun r6 =>
        (m8 r6.1 a2).bind fun r7 =>
        (m8 a0 (IntKind.i64.wrap (a1 + a2))).bind fun r8 =>
        bif (((r6.2.2.1 != 0) || (r7.2.2.1 != 0)) || (r8.2.2.1 != 0)) then
          some (r1 && (r8.2.2.1 != 0))
        else
          (bif (r1 == true) then (m10 r7.1 r8.1) else some false).bind fun r9 =>
          some (((r1 && r9) && (r8.1.2.2.2.1 == a0.2.2.2.1)) && (r8.1.2.1 == 0))) (
      some r1) FUEL 0
noncomputable def e6 : PmE := entry 6 [G25, (.int .i64), (.int .i64)] false .bool (fun x => m6 x.1 x.2.1 x.2.2.1)
theorem q6 (x : tyL [G25, (.int .i64), (.int .i64)]) : execF E6 C6 Try.f6 (datL [G25, (.int .i64), (.int .i64)] x) [] (retK false .bool) = m6 x.1 x.2.1 x.2.2.1 := by kernel_rfl
theorem p6 : PmOk Try.prog e6 := pm_ok (E := E6) ok6 ord lm6 Try.func6 ca6 q6

end Go.Proofs.Ytajnmcabnkidjaa
