/- Models of the functions that the statements reach. -/
import Derived.Test.YtblgheellobhcaaE33
import Derived.Test.YtblgheellobhcaaE34
import Derived.Test.YtblgheellobhcaaChecked
import Derived.KernelRfl
namespace Go.Proofs.Ytblgheellobhcaa
open Go Go.Eng
set_option linter.unusedVariables false

/-- x, y, signed, code -/
abbrev G7 : GT := .cons (.int .i64) (.cons (.int .i64) (.cons .bool (.cons (.int .u8) (.nil))))
abbrev T7 : Type := Int × Int × Bool × Int × Unit
/-- msg, addr -/
abbrev G13 : GT := .cons .str (.cons (.int .u64) (.nil))
abbrev T13 : Type := (List UInt8) × Int × Unit
/-- Sent, Next, Early -/
abbrev G26 : GT := .cons (.sl (.cons (.int .i64) (.cons (.int .i64) (.cons (.int .i64) (.cons (.int .i64) (.cons (.int .i64) .nil)))))) (.cons (.int .i64) (.cons (.sl (.int .i64)) (.nil)))
abbrev T26 : Type := (List (Int × (Int × (Int × (Int × (Int × Unit)))))) × Int × (List Int) × Unit
/-- Id, Day, From, To, Amount -/
abbrev G35 : GT := .cons (.int .i64) (.cons (.int .i64) (.cons (.int .i64) (.cons (.int .i64) (.cons (.int .i64) (.nil)))))
abbrev T35 : Type := Int × Int × Int × Int × Int × Unit
/-- Kind, N, Entry -/
abbrev G41 : GT := .cons (.int .i64) (.cons (.int .i64) (.cons G35 (.nil)))
abbrev T41 : Type := Int × Int × T35 × Unit
/-- Sent, Here -/
abbrev G48 : GT := .cons (.sl G35) (.cons (.sl .bool) (.nil))
abbrev T48 : Type := (List T35) × (List Bool) × Unit

theorem ord : Try.prog.follows .mixedOrders = true := by kernel_rfl

/-! 21: consol/consollaw43.entry -/
theorem ca21 : callable Try.prog 21 := ⟨Try.f21, Try.func21, by kernel_rfl, by kernel_rfl⟩
noncomputable def E21 : Env := mkEnv2 Try.prog [] []
theorem ok21 : EnvOk E21 := mkEnv2_ok (by simp) (by simp)
noncomputable def C21 : Cfg := noCfg
theorem lm21 : ∀ c, Try.f21.body = some c → LmOk E21 C21 Try.f21.ntmps c := fun _ _ => noCfg_lm
noncomputable def m21 (a0 : Int) : Option (T35) :=
  some (a0, 0, 0, 1, (IntKind.i64.wrap (10 + a0)), ())
noncomputable def e21 : PmE := entry 21 [(.int .i64)] false G35 (fun x => m21 x.1)
theorem q21 (x : tyL [(.int .i64)]) : execF E21 C21 Try.f21 (datL [(.int .i64)] x) [] (retK false G35) = m21 x.1 := by kernel_rfl
theorem p21 : PmOk Try.prog e21 := pm_ok (E := E21) ok21 ord lm21 Try.func21 ca21 q21

/-! 9: consol/post.Right -/
theorem ca9 : callable Try.prog 9 := ⟨Try.f9, Try.func9, by kernel_rfl, by kernel_rfl⟩
noncomputable def E9 : Env := mkEnv2 Try.prog [] []
theorem ok9 : EnvOk E9 := mkEnv2_ok (by simp) (by simp)
/-- a round of a loop of consol/post.Right -/
noncomputable def s9_1 {R : Type} (t26 : (List Int)) (t27 : Int) (o0 : T26) (kn : Int → Int → Option R) (k1 : Option R) (k2 : Option R) (t3 : Int) (t28 : Int) : Option R :=
  bif (decide (t28 < t27)) then
    (idx t26 t28).bind fun x1 =>
    bif ((decide (x1 ≤ t3)) || (decide (x1 ≥ (List.length o0.1 : Int)))) then
      k2
    else
      kn x1 (IntKind.i64.wrap (t28 + 1))
  else
    k1
noncomputable def l9_1 {R : Type} (t26 : (List Int)) (t27 : Int) (o0 : T26) (k1 : Option R) (k2 : Option R) : Nat → Int → Int → Option R
  | 0, _, _ => none
  | n + 1, t3, t28 => s9_1 t26 t27 o0 (l9_1 t26 t27 o0 k1 k2 n) k1 k2 t3 t28
noncomputable def L9_1 : LE := ⟨6, 0, ⟨[(1, (.box 0 [] 0)), (3, (.dat (.int .i64))), (26, (.dat (.sl (.int .i64)))), (27, (.dat (.int .i64))), (28, (.dat (.int .i64)))], [(.box (.dat G26))]⟩, fun R n x k => l9_1 x.1.2.2.1 x.1.2.2.2.1 x.2.1 (k (.exit 0) ⟨[], []⟩) (k .ret ⟨[(2, (.dat .bool false))], []⟩) n x.1.2.1 x.1.2.2.2.2.1⟩
noncomputable def C9 : Cfg := mkCfg [(6, ⟨[1, 3, 26, 27, 28], [], []⟩)] [(6, (⟨[], [], []⟩, ⟨[2], [], []⟩))] (([(0, L9_1)] : List (Nat × LE)).map (·.2))
theorem ek9_1 : EOk E9 C9 Try.f9.ntmps (bodyL Try.f9 0) L9_1 := eok_of (e := L9_1) (fun R x Kn k => s9_1 x.1.2.2.1 x.1.2.2.2.1 x.2.1 (fun v0 v1 => Kn (((), v0, x.1.2.2.1, x.1.2.2.2.1, v1, ()), (x.2.1, ()))) (k (.exit 0) ⟨[], []⟩) (k .ret ⟨[(2, (.dat .bool false))], []⟩) x.1.2.1 x.1.2.2.2.2.1) (fun _ _ _ => rfl) (fun _ _ _ _ => rfl) (fun R x Kn k => by kernel_rfl)
theorem lm9 : ∀ c, Try.f9.body = some c → LmOk E9 C9 Try.f9.ntmps c := lmOk_of (ps := [(0, L9_1)]) (by kernel_rfl) (by kernel_rfl) ⟨ek9_1, trivial⟩
noncomputable def m9 (a0 : T26) : Option (Bool) :=
  bif (((decide ((List.length a0.1 : Int) > 10000)) || (decide (a0.2.1 < 0))) || (decide (a0.2.1 > (List.length a0.1 : Int)))) then
    some false
  else
    l9_1 a0.2.2.1 (List.length a0.2.2.1 : Int) a0 (
        some true) (
        some false) FUEL a0.2.1 0
noncomputable def e9 : PmE := entry 9 [G26] false .bool (fun x => m9 x.1)
theorem q9 (x : tyL [G26]) : execF E9 C9 Try.f9 (datL [G26] x) [] (retK false .bool) = m9 x.1 := by kernel_rfl
theorem p9 : PmOk Try.prog e9 := pm_ok (E := E9) ok9 ord lm9 Try.func9 ca9 q9

/-! 31: cmp.isNaN[int] -/
theorem ca31 : callable Try.prog 31 := ⟨Try.f31, Try.func31, by kernel_rfl, by kernel_rfl⟩
noncomputable def E31 : Env := mkEnv2 Try.prog [] []
theorem ok31 : EnvOk E31 := mkEnv2_ok (by simp) (by simp)
noncomputable def C31 : Cfg := noCfg
theorem lm31 : ∀ c, Try.f31.body = some c → LmOk E31 C31 Try.f31.ntmps c := fun _ _ => noCfg_lm
noncomputable def m31 (a0 : Int) : Option (Bool) :=
  some (a0 != a0)
noncomputable def e31 : PmE := entry 31 [(.int .i64)] false .bool (fun x => m31 x.1)
theorem q31 (x : tyL [(.int .i64)]) : execF E31 C31 Try.f31 (datL [(.int .i64)] x) [] (retK false .bool) = m31 x.1 := by kernel_rfl
theorem p31 : PmOk Try.prog e31 := pm_ok (E := E31) ok31 ord lm31 Try.func31 ca31 q31

/-! 27: cmp.Less[int] -/
theorem ca27 : callable Try.prog 27 := ⟨Try.f27, Try.func27, by kernel_rfl, by kernel_rfl⟩
noncomputable def E27 : Env := mkEnv2 Try.prog [e31] []
theorem ok27 : EnvOk E27 := mkEnv2_ok (by simp only [List.mem_cons, List.not_mem_nil, or_false, forall_eq]; exact p31) (by simp)
noncomputable def C27 : Cfg := noCfg
theorem lm27 : ∀ c, Try.f27.body = some c → LmOk E27 C27 Try.f27.ntmps c := fun _ _ => noCfg_lm
noncomputable def m27 (a0 : Int) (a1 : Int) : Option (Bool) :=
  (m31 a0).bind fun r1 =>
  (bif (r1 == true) then (m31 a1) else some false).bind fun r2 =>
  some ((r1 && (!r2)) || (decide (a0 < a1)))
noncomputable def e27 : PmE := entry 27 [(.int .i64), (.int .i64)] false .bool (fun x => m27 x.1 x.2.1)
theorem q27 (x : tyL [(.int .i64), (.int .i64)]) : execF E27 C27 Try.f27 (datL [(.int .i64), (.int .i64)] x) [] (retK false .bool) = m27 x.1 x.2.1 := by kernel_rfl
theorem p27 : PmOk Try.prog e27 := pm_ok (E := E27) ok27 ord lm27 Try.func27 ca27 q27

/-! 28: slices.isNaN[int] -/
theorem ca28 : callable Try.prog 28 := ⟨Try.f28, Try.func28, by kernel_rfl, by kernel_rfl⟩
noncomputable def E28 : Env := mkEnv2 Try.prog [] []
theorem ok28 : EnvOk E28 := mkEnv2_ok (by simp) (by simp)
noncomputable def C28 : Cfg := noCfg
theorem lm28 : ∀ c, Try.f28.body = some c → LmOk E28 C28 Try.f28.ntmps c := fun _ _ => noCfg_lm
noncomputable def m28 (a0 : Int) : Option (Bool) :=
  some (a0 != a0)
noncomputable def e28 : PmE := entry 28 [(.int .i64)] false .bool (fun x => m28 x.1)
theorem q28 (x : tyL [(.int .i64)]) : execF E28 C28 Try.f28 (datL [(.int .i64)] x) [] (retK false .bool) = m28 x.1 := by kernel_rfl
theorem p28 : PmOk Try.prog e28 := pm_ok (E := E28) ok28 ord lm28 Try.func28 ca28 q28

/-! 23: slices.BinarySearch[[]int,int] -/
theorem ca23 : callable Try.prog 23 := ⟨Try.f23, Try.func23, by kernel_rfl, by kernel_rfl⟩
noncomputable def E23 : Env := mkEnv2 Try.prog [e27, e28] []
theorem ok23 : EnvOk E23 := mkEnv2_ok (by simp only [List.mem_cons, List.not_mem_nil, or_false, forall_eq_or_imp, forall_eq]; exact ⟨p27, p28⟩) (by simp)
/-- a round of a loop of slices.BinarySearch[[]int,int] -/
noncomputable def s23_1 {R : Type} (t0 : (List Int)) (t1 : Int) (kn : Int → Int → Option R) (k1 : Int → Option R) (t7 : Int) (t8 : Int) : Option R :=
  bif (decide (t7 < t8)) then
    (idx t0 (IntKind.i64.wrap (shr2 (IntKind.u64.wrap (IntKind.i64.wrap (t7 + t8))) 1))).bind fun x1 =>
    (m27 x1 t1).bind fun r2 =>
    bif r2 then
      kn (IntKind.i64.wrap ((IntKind.i64.wrap (shr2 (IntKind.u64.wrap (IntKind.i64.wrap (t7 + t8))) 1)) + 1)) t8
    else
      kn t7 (IntKind.i64.wrap (shr2 (IntKind.u64.wrap (IntKind.i64.wrap (t7 + t8))) 1))
  else
    k1 t7
noncomputable def l23_1 {R : Type} (t0 : (List Int)) (t1 : Int) (k1 : Int → Option R) : Nat → Int → Int → Option R
  | 0, _, _ => none
  | n + 1, t7, t8 => s23_1 t0 t1 (l23_1 t0 t1 k1 n) k1 t7 t8
noncomputable def L23_1 : LE := ⟨4, 0, ⟨[(0, (.dat (.sl (.int .i64)))), (1, (.dat (.int .i64))), (6, (.dat (.int .i64))), (7, (.dat (.int .i64))), (8, (.dat (.int .i64)))], []⟩, fun R n x k => l23_1 x.1.1 x.1.2.1 (fun y0 => k (.exit 0) ⟨[(0, (.dat (.sl (.int .i64)) x.1.1)), (1, (.dat (.int .i64) x.1.2.1)), (6, (.dat (.int .i64) x.1.2.2.1)), (7, (.dat (.int .i64) y0))], []⟩) n x.1.2.2.2.1 x.1.2.2.2.2.1⟩
noncomputable def C23 : Cfg := mkCfg [(4, ⟨[0, 1, 6, 7, 8], [], []⟩)] [(4, (⟨[0, 1, 6, 7], [], []⟩, ⟨[4, 5], [], []⟩))] (([(0, L23_1)] : List (Nat × LE)).map (·.2))
theorem ek23_1 : EOk E23 C23 Try.f23.ntmps (bodyL Try.f23 0) L23_1 := eok_of (e := L23_1) (fun R x Kn k => s23_1 x.1.1 x.1.2.1 (fun v0 v1 => Kn ((x.1.1, x.1.2.1, x.1.2.2.1, v0, v1, ()), (()))) (fun y0 => k (.exit 0) ⟨[(0, (.dat (.sl (.int .i64)) x.1.1)), (1, (.dat (.int .i64) x.1.2.1)), (6, (.dat (.int .i64) x.1.2.2.1)), (7, (.dat (.int .i64) y0))], []⟩) x.1.2.2.2.1 x.1.2.2.2.2.1) (fun _ _ _ => rfl) (fun _ _ _ _ => rfl) (fun R x Kn k => by kernel_rfl)
theorem lm23 : ∀ c, Try.f23.body = some c → LmOk E23 C23 Try.f23.ntmps c := lmOk_of (ps := [(0, L23_1)]) (by kernel_rfl) (by kernel_rfl) ⟨ek23_1, trivial⟩
noncomputable def m23 (a0 : (List Int)) (a1 : Int) : Option ((Int × (Bool × Unit))) :=
  l23_1 a0 a1 (fun y3 =>
      (idxG ((decide (y3 < (List.length a0 : Int))) == true) 0 a0 y3).bind fun x4 =>
      (idxG (((decide (y3 < (List.length a0 : Int))) == true) && ((x4 == a1) == false)) 0 a0 y3).bind fun x5 =>
      (bif (((decide (y3 < (List.length a0 : Int))) == true) && ((x4 == a1) == false)) then (m28 x5) else some false).bind fun r6 =>
      (bif ((((decide (y3 < (List.length a0 : Int))) == true) && ((x4 == a1) == false)) && (r6 == true)) then (m28 a1) else some false).bind fun r7 =>
      some (y3, ((decide (y3 < (List.length a0 : Int))) && ((x4 == a1) || (r6 && r7))), ())) FUEL 0 (List.length a0 : Int)
noncomputable def e23 : PmE := entry 23 [(.sl (.int .i64)), (.int .i64)] true (.cons (.int .i64) (.cons .bool .nil)) (fun x => m23 x.1 x.2.1)
theorem q23 (x : tyL [(.sl (.int .i64)), (.int .i64)]) : execF E23 C23 Try.f23 (datL [(.sl (.int .i64)), (.int .i64)] x) [] (retK true (.cons (.int .i64) (.cons .bool .nil))) = m23 x.1 x.2.1 := by kernel_rfl
theorem p23 : PmOk Try.prog e23 := pm_ok (E := E23) ok23 ord lm23 Try.func23 ca23 q23

theorem ca25 : callable Try.prog 25 := ⟨Try.f25, Try.func25, by kernel_rfl, by kernel_rfl⟩
/-! 25: slices.Clone[[]consol/api.Entry,consol/api.Entry] -/
noncomputable def c25 : CmE := ownE 25 [(.sl G35)] G35 (fun x => cloneM x.1)
theorem d25 : CmOk Try.prog c25 := own_ok ca25 (clone_run (g := G35) ord Try.func25 Try.underlying22 rfl (by kernel_rfl) (fun _ => by kernel_rfl) (by kernel_rfl) (fun _ => by kernel_rfl))

theorem ca26 : callable Try.prog 26 := ⟨Try.f26, Try.func26, by kernel_rfl, by kernel_rfl⟩
/-! 26: slices.Clone[[]int,int] -/
noncomputable def c26 : CmE := ownE 26 [(.sl (.int .i64))] (.int .i64) (fun x => cloneM x.1)
theorem d26 : CmOk Try.prog c26 := own_ok ca26 (clone_run (g := (.int .i64)) ord Try.func26 Try.underlying23 rfl (by kernel_rfl) (fun _ => by kernel_rfl) (by kernel_rfl) (fun _ => by kernel_rfl))

theorem ca24 : callable Try.prog 24 := ⟨Try.f24, Try.func24, by kernel_rfl, by kernel_rfl⟩
/-! 24: slices.Insert[[]int,int] -/
noncomputable def insRen : Shelf.Ren := ⟨fun | 21 => 24 | 27 => 29 | 28 => 30 | 35 => 32 | 39 => 33 | n => n, fun | 0 => 0 | 3 => 3 | 4 => 4 | 22 => 23 | n => n, id⟩
theorem insLays : Lays2.n21 Try.prog insRen where
  mixed := ord
  f21 := by kernel_rfl
  f27 := by kernel_rfl
  f28 := by kernel_rfl
  f35 := by kernel_rfl
  f39 := by kernel_rfl
  t0 := by kernel_rfl
  t3 := by kernel_rfl
  t4 := by kernel_rfl
  t22 := by kernel_rfl
  i3 := by kernel_rfl
  a0 := fun _ => by kernel_rfl
  z0 := fun _ => by kernel_rfl
  v0 := fun _ => by kernel_rfl
  a3 := fun _ => by kernel_rfl
  z3 := fun _ => by kernel_rfl
  v3 := fun _ => by kernel_rfl
  a4 := fun _ => by kernel_rfl
  z4 := fun _ => by kernel_rfl
  v4 := fun _ => by kernel_rfl
  a22 := fun _ => by kernel_rfl
  z22 := fun _ => by kernel_rfl
  v22 := fun _ => by kernel_rfl
noncomputable def c24 : CmE := insE 24
theorem d24 : CmOk Try.prog c24 := ins_ok (insSpec_of (ρ := insRen) insLays ca24)

/-! 11: consol/post.Arrive -/
theorem ca22 : callable Try.prog 22 := ⟨Try.f22, Try.func22, by kernel_rfl, by kernel_rfl⟩
noncomputable def E11i22 : Env := mkEnv2 Try.prog [] [c25, c26]
theorem ok11i22 : EnvOk E11i22 := mkEnv2_ok (by simp) (by simp only [List.mem_cons, List.not_mem_nil, or_false, forall_eq_or_imp, forall_eq]; exact ⟨d25, d26⟩)
noncomputable def C11i22 : Cfg := noCfg
theorem lm11i22 : ∀ c, Try.f22.body = some c → LmOk E11i22 C11i22 Try.f22.ntmps c := fun _ _ => noCfg_lm
noncomputable def c11i22 : CmE := inl E11i22 C11i22 22 Try.f22
theorem d11i22 : CmOk Try.prog c11i22 := inl_ok (E := E11i22) ok11i22 ord lm11i22 Try.func22 ca22

theorem ca11 : callable Try.prog 11 := ⟨Try.f11, Try.func11, by kernel_rfl, by kernel_rfl⟩
noncomputable def E11 : Env := mkEnv2 Try.prog [e9, e23] [c11i22, c24, c25] [80]
theorem ok11 : EnvOk E11 := mkEnv2_ok (by simp only [List.mem_cons, List.not_mem_nil, or_false, forall_eq_or_imp, forall_eq]; exact ⟨p9, p23⟩) (by simp only [List.mem_cons, List.not_mem_nil, or_false, forall_eq_or_imp, forall_eq]; exact ⟨d11i22, d24, d25⟩)
/-- a round of a loop of consol/post.Arrive -/
noncomputable def s11_1 {R : Type} (kn : Int → (List Int) → Option R) (k1 : Int → (List Int) → Option R) (o2 : Int) (o4 : (List Int)) : Option R :=
  asrt ((decide ((List.length o4 : Int) > 0)) == true) (decide (0 ≤ 0) && decide (0 < (List.length o4 : Int))) (
    ((bif ((decide ((List.length o4 : Int) > 0)) == true) then (o4)[(0 : Int).toNat]? else some 0)).bind fun x5 =>
    bif ((decide ((List.length o4 : Int) > 0)) && (x5 == o2)) then
      asrt true (bounds true (List.length o4) 1 (List.length o4 : Int)) (
        kn (IntKind.i64.wrap (o2 + 1)) (subl o4 1 (List.length o4 : Int)))
    else
      k1 o2 o4)
noncomputable def l11_1 {R : Type} (k1 : Int → (List Int) → Option R) : Nat → Int → (List Int) → Option R
  | 0, _, _ => none
  | n + 1, o2, o4 => s11_1 (l11_1 k1 n) k1 o2 o4
noncomputable def L11_1 : LE := ⟨14, 0, ⟨[(2, (.box 0 [] 0)), (4, (.box 1 [] 0)), (9, (.box 2 [] 0))], [(.box (.dat G26)), (.box (.agg (.scons .nils (.scons (.dat (.int .i64)) (.scons .nils .snil))))), (.box (.agg (.scons (.own 3) (.scons (.dat (.int .i64)) (.scons (.own 4) .snil))))), (.arr G35), (.arr (.int .i64))]⟩, fun R n x k => l11_1 (fun y0 y1 => k (.exit 0) ⟨[(2, (.box 0 [] 0)), (4, (.box 1 [] 0)), (9, (.box 2 [] 0))], [(.box (.dat G26 x.2.1)), (.box (.agg (.scons .nils (.scons (.dat (.int .i64) x.2.2.1.2.1) (.scons .nils .snil))))), (.box (.agg (.scons (.own 3) (.scons (.dat (.int .i64) y0) (.scons (.own 4) .snil))))), (.arr G35 x.2.2.2.2.1), (.arr (.int .i64) y1)]⟩) n x.2.2.2.1.2.1 x.2.2.2.2.2.1⟩
noncomputable def C11 : Cfg := mkCfg [(14, ⟨[2, 4, 9], [], []⟩)] [(14, (⟨[2, 4, 9], [], []⟩, ⟨[4, 5, 6], [], []⟩))] (([(0, L11_1)] : List (Nat × LE)).map (·.2))
theorem ek11_1 : EOk E11 C11 Try.f11.ntmps (bodyL Try.f11 0) L11_1 := eok_of (e := L11_1) (fun R x Kn k => s11_1 (fun v0 v1 => Kn (((), (), (), ()), (x.2.1, ((), x.2.2.1.2.1, (), ()), ((), v0, (), ()), x.2.2.2.2.1, v1, ()))) (fun y0 y1 => k (.exit 0) ⟨[(2, (.box 0 [] 0)), (4, (.box 1 [] 0)), (9, (.box 2 [] 0))], [(.box (.dat G26 x.2.1)), (.box (.agg (.scons .nils (.scons (.dat (.int .i64) x.2.2.1.2.1) (.scons .nils .snil))))), (.box (.agg (.scons (.own 3) (.scons (.dat (.int .i64) y0) (.scons (.own 4) .snil))))), (.arr G35 x.2.2.2.2.1), (.arr (.int .i64) y1)]⟩) x.2.2.2.1.2.1 x.2.2.2.2.2.1) (fun _ _ _ => rfl) (fun _ _ _ _ => rfl) (fun R x Kn k => by kernel_rfl)
theorem lm11 : ∀ c, Try.f11.body = some c → LmOk E11 C11 Try.f11.ntmps c := lmOk_of (ps := [(0, L11_1)]) (by kernel_rfl) (by kernel_rfl) ⟨ek11_1, trivial⟩
noncomputable def m11 (a0 : T26) (a1 : Int) : Option ((T26 × ((List T35) × (Int × Unit)))) :=
  (m9 a0).bind fun r1 =>
  bif (!r1) then
    some (([], 0, [], ()), [], 1, ())
  else
    bif ((decide (a1 < 0)) || (decide (a1 ≥ (List.length a0.1 : Int)))) then
      some (([], 0, [], ()), [], 4, ())
    else
      (m23 a0.2.2.1 a1).bind fun r2 =>
      bif (r2.2.1 || (decide (a1 < a0.2.1))) then
        some (([], 0, [], ()), [], 5, ())
      else
        (cloneM a0.1).bind fun r3 =>
        (cloneM a0.2.2.1).bind fun r4 =>
        bif (decide (a1 > a0.2.1)) then
          asrt true (decide (0 ≤ r2.1) && decide (r2.1 ≤ ((List.length (α := Int) r4) : Int)) && (decide (0 < (List.length (α := Int) [a1])) && decide ((List.length (α := Int) r4) + (List.length (α := Int) [a1]) ≤ LIM))) (
            some ((r3, a0.2.1, (insL r4 (Int.toNat r2.1) [a1]), ()), [], 0, ()))
        else
          l11_1 (fun y6 y7 =>
              asrt true (bounds true (List.length (α := T35) r3) a0.2.1 y6) (
                (cloneM (List.take ((Int.toNat y6) - (Int.toNat a0.2.1)) (List.drop (Int.toNat a0.2.1) r3))).bind fun r8 =>
                some ((r3, y6, y7, ()), r8, 0, ()))) FUEL (IntKind.i64.wrap (a0.2.1 + 1)) r4
noncomputable def e11 : PmE := entry 11 [G26, (.int .i64)] true (.cons G26 (.cons (.sl G35) (.cons (.int .i64) .nil))) (fun x => m11 x.1 x.2.1)
theorem q11 (x : tyL [G26, (.int .i64)]) : execF E11 C11 Try.f11 (datL [G26, (.int .i64)] x) [] (retK true (.cons G26 (.cons (.sl G35) (.cons (.int .i64) .nil)))) = m11 x.1 x.2.1 := by kernel_rfl
theorem p11 : PmOk Try.prog e11 := pm_ok (E := E11) ok11 ord lm11 Try.func11 ca11 q11

noncomputable def cK11 : CmE := konE 11 [G26, (.int .i64)] true (.cons G26 (.cons (.sl G35) (.cons (.int .i64) .nil))) (fun x => m11 x.1 x.2.1)
theorem dK11 : CmOk Try.prog cK11 := kon_ok p11

/-! 10: consol/post.Send -/
theorem ca10 : callable Try.prog 10 := ⟨Try.f10, Try.func10, by kernel_rfl, by kernel_rfl⟩
noncomputable def E10 : Env := mkEnv2 Try.prog [e9] [c11i22]
theorem ok10 : EnvOk E10 := mkEnv2_ok (by simp only [List.mem_cons, List.not_mem_nil, or_false, forall_eq]; exact p9) (by simp only [List.mem_cons, List.not_mem_nil, or_false, forall_eq]; exact d11i22)
noncomputable def C10 : Cfg := noCfg
theorem lm10 : ∀ c, Try.f10.body = some c → LmOk E10 C10 Try.f10.ntmps c := fun _ _ => noCfg_lm
noncomputable def m10 (a0 : T26) (a1 : T35) : Option ((T26 × (Int × Unit))) :=
  (m9 a0).bind fun r1 =>
  bif (!r1) then
    some (([], 0, [], ()), 1, ())
  else
    bif ((List.length a0.1 : Int) == 10000) then
      some (([], 0, [], ()), 6, ())
    else
      (cloneM a0.1).bind fun r2 =>
      (cloneM a0.2.2.1).bind fun r3 =>
      asrt true (decide (List.length (α := T35) r2 + List.length (α := T35) [a1] ≤ LIM)) (
        some (((r2 ++ [a1]), a0.2.1, r3, ()), 0, ()))
noncomputable def e10 : PmE := entry 10 [G26, G35] true (.cons G26 (.cons (.int .i64) .nil)) (fun x => m10 x.1 x.2.1)
theorem q10 (x : tyL [G26, G35]) : execF E10 C10 Try.f10 (datL [G26, G35] x) [] (retK true (.cons G26 (.cons (.int .i64) .nil))) = m10 x.1 x.2.1 := by kernel_rfl
theorem p10 : PmOk Try.prog e10 := pm_ok (E := E10) ok10 ord lm10 Try.func10 ca10 q10

noncomputable def cK10 : CmE := konE 10 [G26, G35] true (.cons G26 (.cons (.int .i64) .nil)) (fun x => m10 x.1 x.2.1)
theorem dK10 : CmOk Try.prog cK10 := kon_ok p10

/-! 16: consol/consolref43.Same -/
theorem ca16 : callable Try.prog 16 := ⟨Try.f16, Try.func16, by kernel_rfl, by kernel_rfl⟩
noncomputable def E16 : Env := mkEnv2 Try.prog [] []
theorem ok16 : EnvOk E16 := mkEnv2_ok (by simp) (by simp)
/-- a round of a loop of consol/consolref43.Same -/
noncomputable def s16_1 {R : Type} (t0 : (List T35)) (t1 : (List T35)) (kn : Int → Option R) (k1 : Option R) (k2 : Option R) (t5 : Int) : Option R :=
  bif (decide (t5 < (List.length t0 : Int))) then
    (idx t0 t5).bind fun x1 =>
    (idx t1 t5).bind fun x2 =>
    bif (!((x1.1 == x2.1) && ((x1.2.1 == x2.2.1) && ((x1.2.2.1 == x2.2.2.1) && ((x1.2.2.2.1 == x2.2.2.2.1) && ((x1.2.2.2.2.1 == x2.2.2.2.2.1) && true)))))) then
      k2
    else
      kn (IntKind.i64.wrap (t5 + 1))
  else
    k1
noncomputable def l16_1 {R : Type} (t0 : (List T35)) (t1 : (List T35)) (k1 : Option R) (k2 : Option R) : Nat → Int → Option R
  | 0, _ => none
  | n + 1, t5 => s16_1 t0 t1 (l16_1 t0 t1 k1 k2 n) k1 k2 t5
noncomputable def L16_1 : LE := ⟨5, 0, ⟨[(0, (.dat (.sl G35))), (1, (.dat (.sl G35))), (5, (.dat (.int .i64)))], []⟩, fun R n x k => l16_1 x.1.1 x.1.2.1 (k (.exit 0) ⟨[], []⟩) (k .ret ⟨[(4, (.dat .bool false))], []⟩) n x.1.2.2.1⟩
noncomputable def C16 : Cfg := mkCfg [(5, ⟨[0, 1, 5], [], []⟩)] [(5, (⟨[], [], []⟩, ⟨[4], [], []⟩))] (([(0, L16_1)] : List (Nat × LE)).map (·.2))
theorem ek16_1 : EOk E16 C16 Try.f16.ntmps (bodyL Try.f16 0) L16_1 := eok_of (e := L16_1) (fun R x Kn k => s16_1 x.1.1 x.1.2.1 (fun v0 => Kn ((x.1.1, x.1.2.1, v0, ()), (()))) (k (.exit 0) ⟨[], []⟩) (k .ret ⟨[(4, (.dat .bool false))], []⟩) x.1.2.2.1) (fun _ _ _ => rfl) (fun _ _ _ _ => rfl) (fun R x Kn k => by kernel_rfl)
theorem lm16 : ∀ c, Try.f16.body = some c → LmOk E16 C16 Try.f16.ntmps c := lmOk_of (ps := [(0, L16_1)]) (by kernel_rfl) (by kernel_rfl) ⟨ek16_1, trivial⟩
noncomputable def m16 (a0 : (List T35)) (a1 : (List T35)) : Option (Bool) :=
  bif ((List.length a0 : Int) != (List.length a1 : Int)) then
    some false
  else
    l16_1 a0 a1 (
        some true) (
        some false) FUEL 0
noncomputable def e16 : PmE := entry 16 [(.sl G35), (.sl G35)] false .bool (fun x => m16 x.1 x.2.1)
theorem q16 (x : tyL [(.sl G35), (.sl G35)]) : execF E16 C16 Try.f16 (datL [(.sl G35), (.sl G35)] x) [] (retK false .bool) = m16 x.1 x.2.1 := by kernel_rfl
theorem p16 : PmOk Try.prog e16 := pm_ok (E := E16) ok16 ord lm16 Try.func16 ca16 q16

/-! 13: consol/post.Again -/
theorem ca13 : callable Try.prog 13 := ⟨Try.f13, Try.func13, by kernel_rfl, by kernel_rfl⟩
noncomputable def E13 : Env := mkEnv2 Try.prog [e9, e23] []
theorem ok13 : EnvOk E13 := mkEnv2_ok (by simp only [List.mem_cons, List.not_mem_nil, or_false, forall_eq_or_imp, forall_eq]; exact ⟨p9, p23⟩) (by simp)
/-- a round of a loop of consol/post.Again -/
noncomputable def s13_1 {R : Type} (o0 : T26) (kn : Int → (List Int) → Option R) (k1 : (List Int) → Option R) (t4 : Int) (o1 : (List Int)) : Option R :=
  bif (decide (t4 < (List.length o0.1 : Int))) then
    cont (fun (k3 : (List Int) → _) =>
      (m23 o0.2.2.1 t4).bind fun r2 =>
      bif (!r2.2.1) then
        asrt true (decide (List.length (α := Int) o1 + List.length (α := Int) [t4] ≤ LIM)) (
          k3 (o1 ++ [t4]))
      else
        k3 o1) fun y3 =>
    kn (IntKind.i64.wrap (t4 + 1)) y3
  else
    k1 o1
noncomputable def l13_1 {R : Type} (o0 : T26) (k1 : (List Int) → Option R) : Nat → Int → (List Int) → Option R
  | 0, _, _ => none
  | n + 1, t4, o1 => s13_1 o0 (l13_1 o0 k1 n) k1 t4 o1
noncomputable def L13_1 : LE := ⟨6, 0, ⟨[(1, (.box 0 [] 0)), (3, (.own 1)), (4, (.dat (.int .i64)))], [(.box (.dat G26)), (.arr (.int .i64))]⟩, fun R n x k => l13_1 x.2.1 (fun y0 => k (.exit 0) ⟨[(3, (.own 0))], [(.arr (.int .i64) y0)]⟩) n x.1.2.2.1 x.2.2.1⟩
noncomputable def C13 : Cfg := mkCfg [(6, ⟨[1, 3, 4], [(3, [], (.int .i64))], []⟩), (7, ⟨[1, 3, 4], [(3, [], (.int .i64))], []⟩)] [(6, (⟨[3], [], []⟩, ⟨[2], [], []⟩))] (([(0, L13_1)] : List (Nat × LE)).map (·.2))
theorem ek13_1 : EOk E13 C13 Try.f13.ntmps (bodyL Try.f13 0) L13_1 := eok_of (e := L13_1) (fun R x Kn k => s13_1 x.2.1 (fun v0 v1 => Kn (((), (), v0, ()), (x.2.1, v1, ()))) (fun y0 => k (.exit 0) ⟨[(3, (.own 0))], [(.arr (.int .i64) y0)]⟩) x.1.2.2.1 x.2.2.1) (fun _ _ _ => rfl) (fun _ _ _ _ => rfl) (fun R x Kn k => by kernel_rfl)
theorem lm13 : ∀ c, Try.f13.body = some c → LmOk E13 C13 Try.f13.ntmps c := lmOk_of (ps := [(0, L13_1)]) (by kernel_rfl) (by kernel_rfl) ⟨ek13_1, trivial⟩
noncomputable def m13 (a0 : T26) : Option ((List Int)) :=
  (m9 a0).bind fun r1 =>
  bif (!r1) then
    some []
  else
    l13_1 a0 (fun y4 =>
        some y4) FUEL a0.2.1 []
noncomputable def e13 : PmE := entry 13 [G26] false (.sl (.int .i64)) (fun x => m13 x.1)
theorem q13 (x : tyL [G26]) : execF E13 C13 Try.f13 (datL [G26] x) [] (retK false (.sl (.int .i64))) = m13 x.1 := by kernel_rfl
theorem p13 : PmOk Try.prog e13 := pm_ok (E := E13) ok13 ord lm13 Try.func13 ca13 q13

noncomputable def cK13 : CmE := konE 13 [G26] false (.sl (.int .i64)) (fun x => m13 x.1)
theorem dK13 : CmOk Try.prog cK13 := kon_ok p13

/-! 18: consol/consolref43.Ints -/
theorem ca18 : callable Try.prog 18 := ⟨Try.f18, Try.func18, by kernel_rfl, by kernel_rfl⟩
noncomputable def E18 : Env := mkEnv2 Try.prog [] []
theorem ok18 : EnvOk E18 := mkEnv2_ok (by simp) (by simp)
/-- a round of a loop of consol/consolref43.Ints -/
noncomputable def s18_1 {R : Type} (t0 : (List Int)) (t1 : (List Int)) (kn : Int → Option R) (k1 : Option R) (k2 : Option R) (t5 : Int) : Option R :=
  bif (decide (t5 < (List.length t0 : Int))) then
    (idx t0 t5).bind fun x1 =>
    (idx t1 t5).bind fun x2 =>
    bif (x1 != x2) then
      k2
    else
      kn (IntKind.i64.wrap (t5 + 1))
  else
    k1
noncomputable def l18_1 {R : Type} (t0 : (List Int)) (t1 : (List Int)) (k1 : Option R) (k2 : Option R) : Nat → Int → Option R
  | 0, _ => none
  | n + 1, t5 => s18_1 t0 t1 (l18_1 t0 t1 k1 k2 n) k1 k2 t5
noncomputable def L18_1 : LE := ⟨5, 0, ⟨[(0, (.dat (.sl (.int .i64)))), (1, (.dat (.sl (.int .i64)))), (5, (.dat (.int .i64)))], []⟩, fun R n x k => l18_1 x.1.1 x.1.2.1 (k (.exit 0) ⟨[], []⟩) (k .ret ⟨[(4, (.dat .bool false))], []⟩) n x.1.2.2.1⟩
noncomputable def C18 : Cfg := mkCfg [(5, ⟨[0, 1, 5], [], []⟩)] [(5, (⟨[], [], []⟩, ⟨[4], [], []⟩))] (([(0, L18_1)] : List (Nat × LE)).map (·.2))
theorem ek18_1 : EOk E18 C18 Try.f18.ntmps (bodyL Try.f18 0) L18_1 := eok_of (e := L18_1) (fun R x Kn k => s18_1 x.1.1 x.1.2.1 (fun v0 => Kn ((x.1.1, x.1.2.1, v0, ()), (()))) (k (.exit 0) ⟨[], []⟩) (k .ret ⟨[(4, (.dat .bool false))], []⟩) x.1.2.2.1) (fun _ _ _ => rfl) (fun _ _ _ _ => rfl) (fun R x Kn k => by kernel_rfl)
theorem lm18 : ∀ c, Try.f18.body = some c → LmOk E18 C18 Try.f18.ntmps c := lmOk_of (ps := [(0, L18_1)]) (by kernel_rfl) (by kernel_rfl) ⟨ek18_1, trivial⟩
noncomputable def m18 (a0 : (List Int)) (a1 : (List Int)) : Option (Bool) :=
  bif ((List.length a0 : Int) != (List.length a1 : Int)) then
    some false
  else
    l18_1 a0 a1 (
        some true) (
        some false) FUEL 0
noncomputable def e18 : PmE := entry 18 [(.sl (.int .i64)), (.sl (.int .i64))] false .bool (fun x => m18 x.1 x.2.1)
theorem q18 (x : tyL [(.sl (.int .i64)), (.sl (.int .i64))]) : execF E18 C18 Try.f18 (datL [(.sl (.int .i64)), (.sl (.int .i64))] x) [] (retK false .bool) = m18 x.1 x.2.1 := by kernel_rfl
theorem p18 : PmOk Try.prog e18 := pm_ok (E := E18) ok18 ord lm18 Try.func18 ca18 q18

/-! 12: consol/post.Flight -/
theorem ca12 : callable Try.prog 12 := ⟨Try.f12, Try.func12, by kernel_rfl, by kernel_rfl⟩
noncomputable def E12 : Env := mkEnv2 Try.prog [e9] [c25] [7]
theorem ok12 : EnvOk E12 := mkEnv2_ok (by simp only [List.mem_cons, List.not_mem_nil, or_false, forall_eq]; exact p9) (by simp only [List.mem_cons, List.not_mem_nil, or_false, forall_eq]; exact d25)
noncomputable def C12 : Cfg := noCfg
theorem lm12 : ∀ c, Try.f12.body = some c → LmOk E12 C12 Try.f12.ntmps c := fun _ _ => noCfg_lm
noncomputable def m12 (a0 : T26) : Option ((List T35)) :=
  (m9 a0).bind fun r1 =>
  bif (!r1) then
    some []
  else
    asrt true (bounds true (List.length a0.1) a0.2.1 (List.length a0.1 : Int)) (
      (cloneM (subl a0.1 a0.2.1 (List.length a0.1 : Int))).bind fun r2 =>
      some r2)
noncomputable def e12 : PmE := entry 12 [G26] false (.sl G35) (fun x => m12 x.1)
theorem q12 (x : tyL [G26]) : execF E12 C12 Try.f12 (datL [G26] x) [] (retK false (.sl G35)) = m12 x.1 := by kernel_rfl
theorem p12 : PmOk Try.prog e12 := pm_ok (E := E12) ok12 ord lm12 Try.func12 ca12 q12

noncomputable def cK12 : CmE := konE 12 [G26] false (.sl G35) (fun x => m12 x.1)
theorem dK12 : CmOk Try.prog cK12 := kon_ok p12

/-! 7: consol/consollaw43.small -/
theorem ca7 : callable Try.prog 7 := ⟨Try.f7, Try.func7, by kernel_rfl, by kernel_rfl⟩
noncomputable def E7 : Env := mkEnv2 Try.prog [e9, e10, e11, e12, e13, e16, e18, e21] [] [114, 133]
theorem ok7 : EnvOk E7 := mkEnv2_ok (by simp only [List.mem_cons, List.not_mem_nil, or_false, forall_eq_or_imp, forall_eq]; exact ⟨p9, p10, p11, p12, p13, p16, p18, p21⟩) (by simp)
noncomputable def C7 : Cfg := mkCfg [] [] (([] : List (Nat × LE)).map (·.2)) [] [(2, [(1, [], G26)])]
theorem lm7 : ∀ c, Try.f7.body = some c → LmOk E7 C7 Try.f7.ntmps c := lmOk_of (ps := []) (by kernel_rfl) (by kernel_rfl) trivial
noncomputable def m7  : Option (Bool) :=
  (m21 0).bind fun r1 =>
  (m21 1).bind fun r2 =>
  (m21 2).bind fun r3 =>
  (m21 3).bind fun r4 =>
  (m11 ([r1, r2, r3, r4], 0, [], ()) 1).bind fun r5 =>
  (m11 r5.1 2).bind fun r6 =>
  (m11 r6.1 1).bind fun r7 =>
  (m11 r6.1 0).bind fun r8 =>
  (m11 r8.1 0).bind fun r9 =>
  (m11 r8.1 9).bind fun r10 =>
  (m21 5).bind fun r11 =>
  (m10 ([], 0, [], ()) r11).bind fun r12 =>
  asrt true (bounds true (List.length [r1, r2, r3, r4]) 0 3) (
    (m16 r8.2.1 (subl [r1, r2, r3, r4] 0 3)).bind fun r13 =>
    (bif (r13 == true) then (m13 r6.1) else some ([] : (List Int))).bind fun r14 =>
    bif (r13 == true) then
      (bif (r13 == true) then (m18 r14 [0, 3]) else some false).bind fun r15 =>
      (bif ((r13 && r15) == true) then (m12 r6.1) else some ([] : (List T35))).bind fun r16 =>
      (bif (((r13 && r15) && ((List.length r16 : Int) == 4)) == true) then (m12 r8.1) else some ([] : (List T35))).bind fun r17 =>
      asrt (((r13 && r15) && ((List.length r16 : Int) == 4)) == true) (bounds true (List.length [r1, r2, r3, r4]) 3 (List.length [r1, r2, r3, r4] : Int)) (
        (bif (((r13 && r15) && ((List.length r16 : Int) == 4)) == true) then (m16 r17 (subl [r1, r2, r3, r4] 3 (List.length [r1, r2, r3, r4] : Int))) else some false).bind fun r18 =>
        (bif ((((r13 && r15) && ((List.length r16 : Int) == 4)) && r18) == true) then (m13 r8.1) else some ([] : (List Int))).bind fun r19 =>
        bif ((((r13 && r15) && ((List.length r16 : Int) == 4)) && r18) == true) then
          (bif ((((r13 && r15) && ((List.length r16 : Int) == 4)) && r18) == true) then (m18 r19 [3]) else some false).bind fun r20 =>
          (bif (((((((((((r5.2.2.1 == 0) && (r6.2.2.1 == 0)) && (r7.2.2.1 == 5)) && (r8.2.2.1 == 0)) && (r9.2.2.1 == 5)) && (r10.2.2.1 == 4)) && (r12.2.1 == 0)) && ((IntKind.i64.wrap ((List.length r5.2.1 : Int) + (List.length r6.2.1 : Int))) == 0)) && ((List.length r12.1.1 : Int) == 1)) && ((((r13 && r15) && ((List.length r16 : Int) == 4)) && r18) && r20)) == true) then (m9 r8.1) else some false).bind fun r21 =>
          (bif ((((((((((((r5.2.2.1 == 0) && (r6.2.2.1 == 0)) && (r7.2.2.1 == 5)) && (r8.2.2.1 == 0)) && (r9.2.2.1 == 5)) && (r10.2.2.1 == 4)) && (r12.2.1 == 0)) && ((IntKind.i64.wrap ((List.length r5.2.1 : Int) + (List.length r6.2.1 : Int))) == 0)) && ((List.length r12.1.1 : Int) == 1)) && ((((r13 && r15) && ((List.length r16 : Int) == 4)) && r18) && r20)) && r21) == true) then (m9 ([], 1, [], ())) else some false).bind fun r22 =>
          some ((((((((((((r5.2.2.1 == 0) && (r6.2.2.1 == 0)) && (r7.2.2.1 == 5)) && (r8.2.2.1 == 0)) && (r9.2.2.1 == 5)) && (r10.2.2.1 == 4)) && (r12.2.1 == 0)) && ((IntKind.i64.wrap ((List.length r5.2.1 : Int) + (List.length r6.2.1 : Int))) == 0)) && ((List.length r12.1.1 : Int) == 1)) && ((((r13 && r15) && ((List.length r16 : Int) == 4)) && r18) && r20)) && r21) && (!r22))
        else
          (bif ((((r13 && r15) && ((List.length r16 : Int) == 4)) && r18) == true) then (m18 r19 []) else some false).bind fun r23 =>
          (bif (((((((((((r5.2.2.1 == 0) && (r6.2.2.1 == 0)) && (r7.2.2.1 == 5)) && (r8.2.2.1 == 0)) && (r9.2.2.1 == 5)) && (r10.2.2.1 == 4)) && (r12.2.1 == 0)) && ((IntKind.i64.wrap ((List.length r5.2.1 : Int) + (List.length r6.2.1 : Int))) == 0)) && ((List.length r12.1.1 : Int) == 1)) && ((((r13 && r15) && ((List.length r16 : Int) == 4)) && r18) && r23)) == true) then (m9 r8.1) else some false).bind fun r24 =>
          (bif ((((((((((((r5.2.2.1 == 0) && (r6.2.2.1 == 0)) && (r7.2.2.1 == 5)) && (r8.2.2.1 == 0)) && (r9.2.2.1 == 5)) && (r10.2.2.1 == 4)) && (r12.2.1 == 0)) && ((IntKind.i64.wrap ((List.length r5.2.1 : Int) + (List.length r6.2.1 : Int))) == 0)) && ((List.length r12.1.1 : Int) == 1)) && ((((r13 && r15) && ((List.length r16 : Int) == 4)) && r18) && r23)) && r24) == true) then (m9 ([], 1, [], ())) else some false).bind fun r25 =>
          some ((((((((((((r5.2.2.1 == 0) && (r6.2.2.1 == 0)) && (r7.2.2.1 == 5)) && (r8.2.2.1 == 0)) && (r9.2.2.1 == 5)) && (r10.2.2.1 == 4)) && (r12.2.1 == 0)) && ((IntKind.i64.wrap ((List.length r5.2.1 : Int) + (List.length r6.2.1 : Int))) == 0)) && ((List.length r12.1.1 : Int) == 1)) && ((((r13 && r15) && ((List.length r16 : Int) == 4)) && r18) && r23)) && r24) && (!r25)))
    else
      (bif (r13 == true) then (m18 r14 []) else some false).bind fun r26 =>
      (bif ((r13 && r26) == true) then (m12 r6.1) else some ([] : (List T35))).bind fun r27 =>
      (bif (((r13 && r26) && ((List.length r27 : Int) == 4)) == true) then (m12 r8.1) else some ([] : (List T35))).bind fun r28 =>
      asrt (((r13 && r26) && ((List.length r27 : Int) == 4)) == true) (bounds true (List.length [r1, r2, r3, r4]) 3 (List.length [r1, r2, r3, r4] : Int)) (
        (bif (((r13 && r26) && ((List.length r27 : Int) == 4)) == true) then (m16 r28 (subl [r1, r2, r3, r4] 3 (List.length [r1, r2, r3, r4] : Int))) else some false).bind fun r29 =>
        (bif ((((r13 && r26) && ((List.length r27 : Int) == 4)) && r29) == true) then (m13 r8.1) else some ([] : (List Int))).bind fun r30 =>
        bif ((((r13 && r26) && ((List.length r27 : Int) == 4)) && r29) == true) then
          (bif ((((r13 && r26) && ((List.length r27 : Int) == 4)) && r29) == true) then (m18 r30 [3]) else some false).bind fun r31 =>
          (bif (((((((((((r5.2.2.1 == 0) && (r6.2.2.1 == 0)) && (r7.2.2.1 == 5)) && (r8.2.2.1 == 0)) && (r9.2.2.1 == 5)) && (r10.2.2.1 == 4)) && (r12.2.1 == 0)) && ((IntKind.i64.wrap ((List.length r5.2.1 : Int) + (List.length r6.2.1 : Int))) == 0)) && ((List.length r12.1.1 : Int) == 1)) && ((((r13 && r26) && ((List.length r27 : Int) == 4)) && r29) && r31)) == true) then (m9 r8.1) else some false).bind fun r32 =>
          (bif ((((((((((((r5.2.2.1 == 0) && (r6.2.2.1 == 0)) && (r7.2.2.1 == 5)) && (r8.2.2.1 == 0)) && (r9.2.2.1 == 5)) && (r10.2.2.1 == 4)) && (r12.2.1 == 0)) && ((IntKind.i64.wrap ((List.length r5.2.1 : Int) + (List.length r6.2.1 : Int))) == 0)) && ((List.length r12.1.1 : Int) == 1)) && ((((r13 && r26) && ((List.length r27 : Int) == 4)) && r29) && r31)) && r32) == true) then (m9 ([], 1, [], ())) else some false).bind fun r33 =>
          some ((((((((((((r5.2.2.1 == 0) && (r6.2.2.1 == 0)) && (r7.2.2.1 == 5)) && (r8.2.2.1 == 0)) && (r9.2.2.1 == 5)) && (r10.2.2.1 == 4)) && (r12.2.1 == 0)) && ((IntKind.i64.wrap ((List.length r5.2.1 : Int) + (List.length r6.2.1 : Int))) == 0)) && ((List.length r12.1.1 : Int) == 1)) && ((((r13 && r26) && ((List.length r27 : Int) == 4)) && r29) && r31)) && r32) && (!r33))
        else
          (bif ((((r13 && r26) && ((List.length r27 : Int) == 4)) && r29) == true) then (m18 r30 []) else some false).bind fun r34 =>
          (bif (((((((((((r5.2.2.1 == 0) && (r6.2.2.1 == 0)) && (r7.2.2.1 == 5)) && (r8.2.2.1 == 0)) && (r9.2.2.1 == 5)) && (r10.2.2.1 == 4)) && (r12.2.1 == 0)) && ((IntKind.i64.wrap ((List.length r5.2.1 : Int) + (List.length r6.2.1 : Int))) == 0)) && ((List.length r12.1.1 : Int) == 1)) && ((((r13 && r26) && ((List.length r27 : Int) == 4)) && r29) && r34)) == true) then (m9 r8.1) else some false).bind fun r35 =>
          (bif ((((((((((((r5.2.2.1 == 0) && (r6.2.2.1 == 0)) && (r7.2.2.1 == 5)) && (r8.2.2.1 == 0)) && (r9.2.2.1 == 5)) && (r10.2.2.1 == 4)) && (r12.2.1 == 0)) && ((IntKind.i64.wrap ((List.length r5.2.1 : Int) + (List.length r6.2.1 : Int))) == 0)) && ((List.length r12.1.1 : Int) == 1)) && ((((r13 && r26) && ((List.length r27 : Int) == 4)) && r29) && r34)) && r35) == true) then (m9 ([], 1, [], ())) else some false).bind fun r36 =>
          some ((((((((((((r5.2.2.1 == 0) && (r6.2.2.1 == 0)) && (r7.2.2.1 == 5)) && (r8.2.2.1 == 0)) && (r9.2.2.1 == 5)) && (r10.2.2.1 == 4)) && (r12.2.1 == 0)) && ((IntKind.i64.wrap ((List.length r5.2.1 : Int) + (List.length r6.2.1 : Int))) == 0)) && ((List.length r12.1.1 : Int) == 1)) && ((((r13 && r26) && ((List.length r27 : Int) == 4)) && r29) && r34)) && r35) && (!r36))))
noncomputable def e7 : PmE := entry 7 [] false .bool (fun x => m7 )
theorem q7 (x : tyL []) : execF E7 C7 Try.f7 (datL [] x) [] (retK false .bool) = m7  := by kernel_rfl
theorem p7 : PmOk Try.prog e7 := pm_ok (E := E7) ok7 ord lm7 Try.func7 ca7 q7

/-! 17: (*consol/consolref43.Way).Next -/
theorem ca17 : callable Try.prog 17 := ⟨Try.f17, Try.func17, by kernel_rfl, by kernel_rfl⟩
noncomputable def E17 : Env := mkEnv2 Try.prog [] []
theorem ok17 : EnvOk E17 := mkEnv2_ok (by simp) (by simp)
/-- a round of a loop of (*consol/consolref43.Way).Next -/
noncomputable def s17_1 {R : Type} (t0 : T48) (kn : Int → Option R) (k1 : Int → Option R) (t3 : Int) : Option R :=
  (idxG ((decide (t3 < (List.length t0.1 : Int))) == true) false t0.2.1 t3).bind fun x1 =>
  bif ((decide (t3 < (List.length t0.1 : Int))) && x1) then
    kn (IntKind.i64.wrap (t3 + 1))
  else
    k1 t3
noncomputable def l17_1 {R : Type} (t0 : T48) (k1 : Int → Option R) : Nat → Int → Option R
  | 0, _ => none
  | n + 1, t3 => s17_1 t0 (l17_1 t0 k1 n) k1 t3
noncomputable def L17_1 : LE := ⟨3, 0, ⟨[(0, (.rd G48)), (3, (.dat (.int .i64)))], []⟩, fun R n x k => l17_1 x.1.1 (fun y0 => k (.exit 0) ⟨[(3, (.dat (.int .i64) y0))], []⟩) n x.1.2.1⟩
noncomputable def C17 : Cfg := mkCfg [(3, ⟨[0, 3], [], []⟩)] [(3, (⟨[3], [], []⟩, ⟨[2], [], []⟩))] (([(0, L17_1)] : List (Nat × LE)).map (·.2))
theorem ek17_1 : EOk E17 C17 Try.f17.ntmps (bodyL Try.f17 0) L17_1 := eok_of (e := L17_1) (fun R x Kn k => s17_1 x.1.1 (fun v0 => Kn ((x.1.1, v0, ()), (()))) (fun y0 => k (.exit 0) ⟨[(3, (.dat (.int .i64) y0))], []⟩) x.1.2.1) (fun _ _ _ => rfl) (fun _ _ _ _ => rfl) (fun R x Kn k => by kernel_rfl)
theorem lm17 : ∀ c, Try.f17.body = some c → LmOk E17 C17 Try.f17.ntmps c := lmOk_of (ps := [(0, L17_1)]) (by kernel_rfl) (by kernel_rfl) ⟨ek17_1, trivial⟩
noncomputable def m17 (a0 : T48) : Option (Int) :=
  l17_1 a0 (fun y2 =>
      some y2) FUEL 0
noncomputable def e17 : PmE := entryP 17 [true] [G48] false (.int .i64) (fun x => m17 x.1)
theorem q17 (x : tyL [G48]) : execF E17 C17 Try.f17 (datP [true] [G48] x) [] (retK false (.int .i64)) = m17 x.1 := by kernel_rfl
theorem p17 : PmOk Try.prog e17 := pmP_ok (E := E17) ok17 ord lm17 Try.func17 ca17 q17

/-! 19: (*consol/consolref43.Way).Early -/
theorem ca19 : callable Try.prog 19 := ⟨Try.f19, Try.func19, by kernel_rfl, by kernel_rfl⟩
noncomputable def E19 : Env := mkEnv2 Try.prog [e17] []
theorem ok19 : EnvOk E19 := mkEnv2_ok (by simp only [List.mem_cons, List.not_mem_nil, or_false, forall_eq]; exact p17) (by simp)
/-- a round of a loop of (*consol/consolref43.Way).Early -/
noncomputable def s19_1 {R : Type} (t0 : T48) (kn : Int → (List Int) → Option R) (k1 : (List Int) → Option R) (t4 : Int) (o0 : (List Int)) : Option R :=
  bif (decide (t4 < (List.length t0.1 : Int))) then
    cont (fun (k3 : (List Int) → _) =>
      (idx t0.2.1 t4).bind fun x2 =>
      bif x2 then
        asrt true (decide (List.length (α := Int) o0 + List.length (α := Int) [t4] ≤ LIM)) (
          k3 (o0 ++ [t4]))
      else
        k3 o0) fun y3 =>
    kn (IntKind.i64.wrap (t4 + 1)) y3
  else
    k1 o0
noncomputable def l19_1 {R : Type} (t0 : T48) (k1 : (List Int) → Option R) : Nat → Int → (List Int) → Option R
  | 0, _, _ => none
  | n + 1, t4, o0 => s19_1 t0 (l19_1 t0 k1 n) k1 t4 o0
noncomputable def L19_1 : LE := ⟨4, 0, ⟨[(0, (.rd G48)), (3, (.own 0)), (4, (.dat (.int .i64)))], [(.arr (.int .i64))]⟩, fun R n x k => l19_1 x.1.1 (fun y0 => k (.exit 0) ⟨[(3, (.own 0))], [(.arr (.int .i64) y0)]⟩) n x.1.2.2.1 x.2.1⟩
noncomputable def C19 : Cfg := mkCfg [(4, ⟨[0, 3, 4], [(3, [], (.int .i64))], []⟩), (5, ⟨[0, 3, 4], [(3, [], (.int .i64))], []⟩)] [(4, (⟨[3], [], []⟩, ⟨[2], [], []⟩))] (([(0, L19_1)] : List (Nat × LE)).map (·.2))
theorem ek19_1 : EOk E19 C19 Try.f19.ntmps (bodyL Try.f19 0) L19_1 := eok_of (e := L19_1) (fun R x Kn k => s19_1 x.1.1 (fun v0 v1 => Kn ((x.1.1, (), v0, ()), (v1, ()))) (fun y0 => k (.exit 0) ⟨[(3, (.own 0))], [(.arr (.int .i64) y0)]⟩) x.1.2.2.1 x.2.1) (fun _ _ _ => rfl) (fun _ _ _ _ => rfl) (fun R x Kn k => by kernel_rfl)
theorem lm19 : ∀ c, Try.f19.body = some c → LmOk E19 C19 Try.f19.ntmps c := lmOk_of (ps := [(0, L19_1)]) (by kernel_rfl) (by kernel_rfl) ⟨ek19_1, trivial⟩
noncomputable def m19 (a0 : T48) : Option ((List Int)) :=
  (m17 a0).bind fun r1 =>
  l19_1 a0 (fun y4 =>
      some y4) FUEL r1 []
noncomputable def e19 : PmE := entryF 19 [true] [G48] (.int .i64) (fun x => m19 x.1)
theorem q19 (x : tyL [G48]) : execF E19 C19 Try.f19 (datP [true] [G48] x) [] (retOwn (.int .i64)) = m19 x.1 := by kernel_rfl
theorem p19 : PmOk Try.prog e19 := pmF_ok (E := E19) ok19 ord lm19 Try.func19 ca19 q19

/-! 20: (*consol/consolref43.Way).Again -/
theorem ca20 : callable Try.prog 20 := ⟨Try.f20, Try.func20, by kernel_rfl, by kernel_rfl⟩
noncomputable def E20 : Env := mkEnv2 Try.prog [] []
theorem ok20 : EnvOk E20 := mkEnv2_ok (by simp) (by simp)
/-- a round of a loop of (*consol/consolref43.Way).Again -/
noncomputable def s20_1 {R : Type} (t0 : T48) (kn : Int → (List Int) → Option R) (k1 : (List Int) → Option R) (t4 : Int) (o0 : (List Int)) : Option R :=
  bif (decide (t4 < (List.length t0.1 : Int))) then
    cont (fun (k2 : (List Int) → _) =>
      (idx t0.2.1 t4).bind fun x1 =>
      bif (!x1) then
        asrt true (decide (List.length (α := Int) o0 + List.length (α := Int) [t4] ≤ LIM)) (
          k2 (o0 ++ [t4]))
      else
        k2 o0) fun y2 =>
    kn (IntKind.i64.wrap (t4 + 1)) y2
  else
    k1 o0
noncomputable def l20_1 {R : Type} (t0 : T48) (k1 : (List Int) → Option R) : Nat → Int → (List Int) → Option R
  | 0, _, _ => none
  | n + 1, t4, o0 => s20_1 t0 (l20_1 t0 k1 n) k1 t4 o0
noncomputable def L20_1 : LE := ⟨4, 0, ⟨[(0, (.rd G48)), (3, (.own 0)), (4, (.dat (.int .i64)))], [(.arr (.int .i64))]⟩, fun R n x k => l20_1 x.1.1 (fun y0 => k (.exit 0) ⟨[(3, (.own 0))], [(.arr (.int .i64) y0)]⟩) n x.1.2.2.1 x.2.1⟩
noncomputable def C20 : Cfg := mkCfg [(4, ⟨[0, 3, 4], [(3, [], (.int .i64))], []⟩), (5, ⟨[0, 3, 4], [(3, [], (.int .i64))], []⟩)] [(4, (⟨[3], [], []⟩, ⟨[2], [], []⟩))] (([(0, L20_1)] : List (Nat × LE)).map (·.2))
theorem ek20_1 : EOk E20 C20 Try.f20.ntmps (bodyL Try.f20 0) L20_1 := eok_of (e := L20_1) (fun R x Kn k => s20_1 x.1.1 (fun v0 v1 => Kn ((x.1.1, (), v0, ()), (v1, ()))) (fun y0 => k (.exit 0) ⟨[(3, (.own 0))], [(.arr (.int .i64) y0)]⟩) x.1.2.2.1 x.2.1) (fun _ _ _ => rfl) (fun _ _ _ _ => rfl) (fun R x Kn k => by kernel_rfl)
theorem lm20 : ∀ c, Try.f20.body = some c → LmOk E20 C20 Try.f20.ntmps c := lmOk_of (ps := [(0, L20_1)]) (by kernel_rfl) (by kernel_rfl) ⟨ek20_1, trivial⟩
noncomputable def m20 (a0 : T48) : Option ((List Int)) :=
  l20_1 a0 (fun y3 =>
      some y3) FUEL 0 []
noncomputable def e20 : PmE := entryF 20 [true] [G48] (.int .i64) (fun x => m20 x.1)
theorem q20 (x : tyL [G48]) : execF E20 C20 Try.f20 (datP [true] [G48] x) [] (retOwn (.int .i64)) = m20 x.1 := by kernel_rfl
theorem p20 : PmOk Try.prog e20 := pmF_ok (E := E20) ok20 ord lm20 Try.func20 ca20 q20

/-! 3: consol/consollaw43.PostTells -/
theorem ca8 : callable Try.prog 8 := ⟨Try.f8, Try.func8, by kernel_rfl, by kernel_rfl⟩
noncomputable def E3i8 : Env := mkEnv2 Try.prog [] []
theorem ok3i8 : EnvOk E3i8 := mkEnv2_ok (by simp) (by simp)
/-- a round of a loop of consol/consolref43.Open -/
noncomputable def s3_1 {R : Type} (t1 : Int) (kn : Int → (List Bool) → Option R) (k1 : (List Bool) → Option R) (t9 : Int) (o3 : (List Bool)) : Option R :=
  bif (decide (t9 < t1)) then
    asrt true (decide (0 ≤ t9) && decide (t9 < (List.length o3 : Int))) (
      ((o3)[(t9 : Int).toNat]?).bind fun x7 =>
      kn (IntKind.i64.wrap (t9 + 1)) (List.set o3 (t9 : Int).toNat true))
  else
    k1 o3
noncomputable def l3_1 {R : Type} (t1 : Int) (k1 : (List Bool) → Option R) : Nat → Int → (List Bool) → Option R
  | 0, _, _ => none
  | n + 1, t9, o3 => s3_1 t1 (l3_1 t1 k1 n) k1 t9 o3
noncomputable def L3_1 : LE := ⟨6, 1, ⟨[(0, (.dat (.sl G35))), (1, (.dat (.int .i64))), (2, (.dat (.sl (.int .i64)))), (8, (.box 1 [] 0)), (9, (.dat (.int .i64)))], [.dead, (.box (.agg (.scons (.own 2) (.scons (.own 3) .snil)))), (.arr G35), (.arr .bool)]⟩, fun R n x k => l3_1 x.1.2.1 (fun y0 => k (.exit 0) ⟨[(0, (.dat (.sl G35) x.1.1)), (1, (.dat (.int .i64) x.1.2.1)), (2, (.dat (.sl (.int .i64)) x.1.2.2.1)), (8, (.box 1 [] 0))], [.dead, (.box (.agg (.scons (.own 2) (.scons (.own 3) .snil)))), (.arr G35 x.2.2.2.1), (.arr .bool y0)]⟩) n x.1.2.2.2.2.1 x.2.2.2.2.1⟩
/-- a round of a loop of consol/consolref43.Open -/
noncomputable def s3_2 {R : Type} (t0 : (List T35)) (t1 : Int) (t2 : (List Int)) (kn : Int → (List Bool) → Option R) (k1 : (List Bool) → Option R) (k2 : Option R) (t10 : Int) (o3 : (List Bool)) : Option R :=
  bif (decide (t10 < (List.length t2 : Int))) then
    (idx t2 t10).bind fun x9 =>
    (idxG ((decide (x9 ≤ t1)) == false) 0 t2 t10).bind fun x10 =>
    (idxG ((((decide (x9 ≤ t1)) || (decide (x10 ≥ (List.length t0 : Int)))) == false) && ((decide (t10 > 0)) == true)) 0 t2 (bif decide (0 > (IntKind.i64.wrap (t10 - 1))) then 0 else (IntKind.i64.wrap (t10 - 1)))).bind fun x11 =>
    (idxG ((((decide (x9 ≤ t1)) || (decide (x10 ≥ (List.length t0 : Int)))) == false) && ((decide (t10 > 0)) == true)) 0 t2 t10).bind fun x12 =>
    bif (((decide (x9 ≤ t1)) || (decide (x10 ≥ (List.length t0 : Int)))) || ((decide (t10 > 0)) && (decide (x11 ≥ x12)))) then
      k2
    else
      (idx t2 t10).bind fun x13 =>
      asrt true (decide (0 ≤ x13) && decide (x13 < (List.length o3 : Int))) (
        ((o3)[(x13 : Int).toNat]?).bind fun x14 =>
        kn (IntKind.i64.wrap (t10 + 1)) (List.set o3 (x13 : Int).toNat true))
  else
    k1 o3
noncomputable def l3_2 {R : Type} (t0 : (List T35)) (t1 : Int) (t2 : (List Int)) (k1 : (List Bool) → Option R) (k2 : Option R) : Nat → Int → (List Bool) → Option R
  | 0, _, _ => none
  | n + 1, t10, o3 => s3_2 t0 t1 t2 (l3_2 t0 t1 t2 k1 k2 n) k1 k2 t10 o3
noncomputable def L3_2 : LE := ⟨10, 1, ⟨[(0, (.dat (.sl G35))), (1, (.dat (.int .i64))), (2, (.dat (.sl (.int .i64)))), (8, (.box 1 [] 0)), (10, (.dat (.int .i64)))], [.dead, (.box (.agg (.scons (.own 2) (.scons (.own 3) .snil)))), (.arr G35), (.arr .bool)]⟩, fun R n x k => l3_2 x.1.1 x.1.2.1 x.1.2.2.1 (fun y0 => k (.exit 2) ⟨[(8, (.box 1 [] 0))], [.dead, (.box (.agg (.scons (.own 2) (.scons (.own 3) .snil)))), (.arr G35 x.2.2.2.1), (.arr .bool y0)]⟩) (k .ret ⟨[(6, .nilp), (7, (.dat .bool false))], [.dead]⟩) n x.1.2.2.2.2.1 x.2.2.2.2.1⟩
noncomputable def C3i8 : Cfg := mkCfg [(6, ⟨[0, 1, 2, 8, 9], [], []⟩), (10, ⟨[0, 1, 2, 8, 10], [], []⟩)] [(6, (⟨[0, 1, 2, 8], [], []⟩, ⟨[6, 7], [], []⟩)), (10, (⟨[8], [], []⟩, ⟨[6, 7], [], []⟩))] (([(0, L3_1), (1, L3_2)] : List (Nat × LE)).map (·.2))
theorem ek3_1 : EOk E3i8 C3i8 Try.f8.ntmps (bodyL Try.f8 0) L3_1 := eok_of (e := L3_1) (fun R x Kn k => s3_1 x.1.2.1 (fun v0 v1 => Kn ((x.1.1, x.1.2.1, x.1.2.2.1, (), v0, ()), ((), ((), (), ()), x.2.2.2.1, v1, ()))) (fun y0 => k (.exit 0) ⟨[(0, (.dat (.sl G35) x.1.1)), (1, (.dat (.int .i64) x.1.2.1)), (2, (.dat (.sl (.int .i64)) x.1.2.2.1)), (8, (.box 1 [] 0))], [.dead, (.box (.agg (.scons (.own 2) (.scons (.own 3) .snil)))), (.arr G35 x.2.2.2.1), (.arr .bool y0)]⟩) x.1.2.2.2.2.1 x.2.2.2.2.1) (fun _ _ _ => rfl) (fun _ _ _ _ => rfl) (fun R x Kn k => by kernel_rfl)
theorem ek3_2 : EOk E3i8 C3i8 Try.f8.ntmps (bodyL Try.f8 1) L3_2 := eok_of (e := L3_2) (fun R x Kn k => s3_2 x.1.1 x.1.2.1 x.1.2.2.1 (fun v0 v1 => Kn ((x.1.1, x.1.2.1, x.1.2.2.1, (), v0, ()), ((), ((), (), ()), x.2.2.2.1, v1, ()))) (fun y0 => k (.exit 2) ⟨[(8, (.box 1 [] 0))], [.dead, (.box (.agg (.scons (.own 2) (.scons (.own 3) .snil)))), (.arr G35 x.2.2.2.1), (.arr .bool y0)]⟩) (k .ret ⟨[(6, .nilp), (7, (.dat .bool false))], [.dead]⟩) x.1.2.2.2.2.1 x.2.2.2.2.1) (fun _ _ _ => rfl) (fun _ _ _ _ => rfl) (fun R x Kn k => by kernel_rfl)
theorem lm3i8 : ∀ c, Try.f8.body = some c → LmOk E3i8 C3i8 Try.f8.ntmps c := lmOk_of (ps := [(0, L3_1), (1, L3_2)]) (by kernel_rfl) (by kernel_rfl) ⟨ek3_1, ek3_2, trivial⟩
noncomputable def c3i8 : CmE := inl E3i8 C3i8 8 Try.f8
theorem d3i8 : CmOk Try.prog c3i8 := inl_ok (E := E3i8) ok3i8 ord lm3i8 Try.func8 ca8

theorem ca14 : callable Try.prog 14 := ⟨Try.f14, Try.func14, by kernel_rfl, by kernel_rfl⟩
noncomputable def E3i14 : Env := mkEnv2 Try.prog [] []
theorem ok3i14 : EnvOk E3i14 := mkEnv2_ok (by simp) (by simp)
noncomputable def C3i14 : Cfg := noCfg
theorem lm3i14 : ∀ c, Try.f14.body = some c → LmOk E3i14 C3i14 Try.f14.ntmps c := fun _ _ => noCfg_lm
noncomputable def c3i14 : CmE := inl E3i14 C3i14 14 Try.f14
theorem d3i14 : CmOk Try.prog c3i14 := inl_ok (E := E3i14) ok3i14 ord lm3i14 Try.func14 ca14

theorem ca15 : callable Try.prog 15 := ⟨Try.f15, Try.func15, by kernel_rfl, by kernel_rfl⟩
noncomputable def E3i15 : Env := mkEnv2 Try.prog [e17] [] [37]
theorem ok3i15 : EnvOk E3i15 := mkEnv2_ok (by simp only [List.mem_cons, List.not_mem_nil, or_false, forall_eq]; exact p17) (by simp)
noncomputable def C3i15 : Cfg := noCfg
theorem lm3i15 : ∀ c, Try.f15.body = some c → LmOk E3i15 C3i15 Try.f15.ntmps c := fun _ _ => noCfg_lm
noncomputable def c3i15 : CmE := inl E3i15 C3i15 15 Try.f15
theorem d3i15 : CmOk Try.prog c3i15 := inl_ok (E := E3i15) ok3i15 ord lm3i15 Try.func15 ca15

theorem ca3 : callable Try.prog 3 := ⟨Try.f3, Try.func3, by kernel_rfl, by kernel_rfl⟩
noncomputable def E3 : Env := mkEnv2 Try.prog [e7, e9, e10, e11, e12, e13, e16, e17, e18, e19, e20] [c3i8, c3i14, c3i15] [194]
theorem ok3 : EnvOk E3 := mkEnv2_ok (by simp only [List.mem_cons, List.not_mem_nil, or_false, forall_eq_or_imp, forall_eq]; exact ⟨p7, p9, p10, p11, p12, p13, p16, p17, p18, p19, p20⟩) (by simp only [List.mem_cons, List.not_mem_nil, or_false, forall_eq_or_imp, forall_eq]; exact ⟨d3i8, d3i14, d3i15⟩)
/-- a round of a loop of consol/consollaw43.PostTells -/
noncomputable def s3_3 {R : Type} (t3 : (List T41)) (kn : Int → T26 → (List T35) → (List Bool) → Option R) (k1 : Option R) (k2 : Option R) (t18 : Int) (o0 : T26) (o2 : (List T35)) (o3 : (List Bool)) : Option R :=
  bif (decide (t18 < (List.length t3 : Int))) then
    cont (fun (k36 : (T26 × (List T35) × (List Bool)) → _) =>
      (idx t3 t18).bind fun x22 =>
      bif (x22.1 == 0) then
        (idx t3 t18).bind fun x23 =>
        (m10 o0 x23.2.2.1).bind fun r24 =>
        (idx t3 t18).bind fun x25 =>
        bif (decide ((List.length o2 : Int) ≥ 10000)) then
          bif (r24.2.1 != 6) then
            k2
          else
            k36 (r24.1, o2, o3)
        else
          asrt true (decide (List.length (α := T35) o2 + List.length (α := T35) [x25.2.2.1] ≤ LIM)) (
            asrt true (decide (List.length (α := Bool) o3 + List.length (α := Bool) [false] ≤ LIM)) (
              bif (r24.2.1 != 0) then
                k2
              else
                k36 (r24.1, (o2 ++ [x25.2.2.1]), (o3 ++ [false]))))
      else
        (idx t3 t18).bind fun x26 =>
        (m11 o0 x26.2.1).bind fun r27 =>
        (idx t3 t18).bind fun x28 =>
        bif ((decide (x28.2.1 < 0)) || (decide (x28.2.1 ≥ (List.length o2 : Int)))) then
          (bif ((r27.2.2.1 != 4) == false) then (m16 r27.2.1 []) else some false).bind fun r29 =>
          bif ((r27.2.2.1 != 4) || (!r29)) then
            k2
          else
            bif (r27.2.2.1 == 0) then
              k36 (r27.1, o2, o3)
            else
              k36 (o0, o2, o3)
        else
          asrt true (decide (0 ≤ x28.2.1) && decide (x28.2.1 < (List.length o3 : Int))) (
            ((o3)[(x28.2.1 : Int).toNat]?).bind fun x30 =>
            bif x30 then
              (bif ((r27.2.2.1 != 5) == false) then (m16 r27.2.1 []) else some false).bind fun r31 =>
              bif ((r27.2.2.1 != 5) || (!r31)) then
                k2
              else
                bif (r27.2.2.1 == 0) then
                  k36 (r27.1, o2, o3)
                else
                  k36 (o0, o2, o3)
            else
              (m17 (o2, o3, ())).bind fun r32 =>
              asrt true (decide (0 ≤ x28.2.1) && decide (x28.2.1 < (List.length o3 : Int))) (
                ((o3)[(x28.2.1 : Int).toNat]?).bind fun x33 =>
                (m17 (o2, (List.set o3 (x28.2.1 : Int).toNat true), ())).bind fun r34 =>
                asrt true (bounds true (List.length (α := T35) o2) r32 r34) (
                  asrt true (decide (List.length (α := T35) (List.take ((Int.toNat r34) - (Int.toNat r32)) (List.drop (Int.toNat r32) o2)) ≤ LIM)) (
                    (bif ((r27.2.2.1 != 0) == false) then (m16 r27.2.1 (List.take ((Int.toNat r34) - (Int.toNat r32)) (List.drop (Int.toNat r32) o2))) else some false).bind fun r35 =>
                    bif ((r27.2.2.1 != 0) || (!r35)) then
                      k2
                    else
                      bif (r27.2.2.1 == 0) then
                        k36 (r27.1, o2, (List.set o3 (x28.2.1 : Int).toNat true))
                      else
                        k36 (o0, o2, (List.set o3 (x28.2.1 : Int).toNat true))))))) fun y36 =>
    (m16 y36.1.1 y36.2.1).bind fun r37 =>
    (bif ((!r37) == false) then (m17 (y36.2.1, y36.2.2, ())) else some 0).bind fun r38 =>
    (bif (((!r37) || (y36.1.2.1 != r38)) == false) then (m19 (y36.2.1, y36.2.2, ())) else some ([] : (List Int))).bind fun r39 =>
    (bif (((!r37) || (y36.1.2.1 != r38)) == false) then (m18 y36.1.2.2.1 r39) else some false).bind fun r40 =>
    (bif ((((!r37) || (y36.1.2.1 != r38)) || (!r40)) == false) then (m13 y36.1) else some ([] : (List Int))).bind fun r41 =>
    (bif ((((!r37) || (y36.1.2.1 != r38)) || (!r40)) == false) then (m20 (y36.2.1, y36.2.2, ())) else some ([] : (List Int))).bind fun r42 =>
    (bif ((((!r37) || (y36.1.2.1 != r38)) || (!r40)) == false) then (m18 r41 r42) else some false).bind fun r43 =>
    (bif (((((!r37) || (y36.1.2.1 != r38)) || (!r40)) || (!r43)) == false) then (m12 y36.1) else some ([] : (List T35))).bind fun r44 =>
    (bif (((((!r37) || (y36.1.2.1 != r38)) || (!r40)) || (!r43)) == false) then (m17 (y36.2.1, y36.2.2, ())) else some 0).bind fun r45 =>
    asrt (((((!r37) || (y36.1.2.1 != r38)) || (!r40)) || (!r43)) == false) (bounds true (List.length (α := T35) y36.2.1) r45 ((List.length (α := T35) y36.2.1) : Int)) (
      (bif (((((!r37) || (y36.1.2.1 != r38)) || (!r40)) || (!r43)) == false) then (m16 r44 (List.take ((List.length (α := T35) y36.2.1) - (Int.toNat r45)) (List.drop (Int.toNat r45) y36.2.1))) else some false).bind fun r46 =>
      bif (((((!r37) || (y36.1.2.1 != r38)) || (!r40)) || (!r43)) || (!r46)) then
        k2
      else
        kn (IntKind.i64.wrap (t18 + 1)) y36.1 y36.2.1 y36.2.2)
  else
    k1
noncomputable def l3_3 {R : Type} (t3 : (List T41)) (k1 : Option R) (k2 : Option R) : Nat → Int → T26 → (List T35) → (List Bool) → Option R
  | 0, _, _, _, _ => none
  | n + 1, t18, o0, o2, o3 => s3_3 t3 (l3_3 t3 k1 k2 n) k1 k2 t18 o0 o2 o3
noncomputable def L3_3 : LE := ⟨14, 0, ⟨[(3, (.dat (.sl G41))), (9, (.dat .bool)), (10, (.box 0 [] 0)), (11, (.box 1 [] 0)), (18, (.dat (.int .i64)))], [(.box (.dat G26)), (.box (.agg (.scons (.own 2) (.scons (.own 3) .snil)))), (.arr G35), (.arr .bool)]⟩, fun R n x k => l3_3 x.1.1 (k (.exit 0) ⟨[(9, (.dat .bool x.1.2.1))], []⟩) (k .ret ⟨[(8, (.dat .bool false))], []⟩) n x.1.2.2.2.2.1 x.2.1 x.2.2.2.1 x.2.2.2.2.1⟩
noncomputable def C3 : Cfg := mkCfg [(14, ⟨[3, 9, 10, 11, 18], [], []⟩), (15, ⟨[3, 9, 10, 11, 18], [], []⟩), (27, ⟨[3, 9, 10, 11, 18], [], []⟩)] [(14, (⟨[9], [], []⟩, ⟨[8], [], []⟩))] (([(0, L3_3)] : List (Nat × LE)).map (·.2))
theorem ek3_3 : EOk E3 C3 Try.f3.ntmps (bodyL Try.f3 0) L3_3 := eok_of (e := L3_3) (fun R x Kn k => s3_3 x.1.1 (fun v0 v1 v2 v3 => Kn ((x.1.1, x.1.2.1, (), (), v0, ()), (v1, ((), (), ()), v2, v3, ()))) (k (.exit 0) ⟨[(9, (.dat .bool x.1.2.1))], []⟩) (k .ret ⟨[(8, (.dat .bool false))], []⟩) x.1.2.2.2.2.1 x.2.1 x.2.2.2.1 x.2.2.2.2.1) (fun _ _ _ => rfl) (fun _ _ _ _ => rfl) (fun R x Kn k => by kernel_rfl)
theorem lm3 : ∀ c, Try.f3.body = some c → LmOk E3 C3 Try.f3.ntmps c := lmOk_of (ps := [(0, L3_3)]) (by kernel_rfl) (by kernel_rfl) ⟨ek3_3, trivial⟩
noncomputable def m3 (a0 : (List T35)) (a1 : Int) (a2 : (List Int)) (a3 : (List T41)) : Option (Bool) :=
  (m7).bind fun r1 =>
  bif (((decide ((List.length a0 : Int) > 30)) || (decide ((List.length a2 : Int) > 30))) || (decide ((List.length a3 : Int) > 40))) then
    some r1
  else
    bif (((decide ((List.length a0 : Int) > 10000)) || (decide (a1 < 0))) || (decide (a1 > (List.length a0 : Int)))) then
      (m9 (a0, a1, a2, ())).bind fun r2 =>
      bif (!(r2 == false)) then
        some false
      else
        (m10 (a0, a1, a2, ()) (0, 0, 0, 0, 0, ())).bind fun r3 =>
        (m11 (a0, a1, a2, ()) 0).bind fun r4 =>
        (bif (((r1 && (r3.2.1 == 1)) && (r4.2.2.1 == 1)) == true) then (m12 (a0, a1, a2, ())) else some ([] : (List T35))).bind fun r5 =>
        (bif (((r1 && (r3.2.1 == 1)) && (r4.2.2.1 == 1)) == true) then (m13 (a0, a1, a2, ())) else some ([] : (List Int))).bind fun r6 =>
        some (((r1 && (r3.2.1 == 1)) && (r4.2.2.1 == 1)) && ((IntKind.i64.wrap ((IntKind.i64.wrap ((List.length r4.2.1 : Int) + (List.length r5 : Int))) + (List.length r6 : Int))) == 0))
    else
      asrt true (decide (List.length (α := T35) a0 ≤ LIM)) (
        asrt true (decide (0 ≤ (List.length a0 : Int)) && decide ((List.length a0 : Int) ≤ (List.length a0 : Int)) && decide ((List.length a0 : Int) ≤ (LIM : Int))) (
          l3_1 a1 (fun y8 =>
              l3_2 a0 a1 a2 (fun y15 =>
                  (m9 (a0, a1, a2, ())).bind fun r21 =>
                  bif (!(r21 == true)) then
                    some false
                  else
                    l3_3 a3 (
                        some r1) (
                        some false) FUEL 0 (a0, a1, a2, ()) a0 y15) (
                  (m9 (a0, a1, a2, ())).bind fun r16 =>
                  bif (!(r16 == false)) then
                    some false
                  else
                    (m10 (a0, a1, a2, ()) (0, 0, 0, 0, 0, ())).bind fun r17 =>
                    (m11 (a0, a1, a2, ()) 0).bind fun r18 =>
                    (bif (((r1 && (r17.2.1 == 1)) && (r18.2.2.1 == 1)) == true) then (m12 (a0, a1, a2, ())) else some ([] : (List T35))).bind fun r19 =>
                    (bif (((r1 && (r17.2.1 == 1)) && (r18.2.2.1 == 1)) == true) then (m13 (a0, a1, a2, ())) else some ([] : (List Int))).bind fun r20 =>
                    some (((r1 && (r17.2.1 == 1)) && (r18.2.2.1 == 1)) && ((IntKind.i64.wrap ((IntKind.i64.wrap ((List.length r18.2.1 : Int) + (List.length r19 : Int))) + (List.length r20 : Int))) == 0))) FUEL 0 y8) FUEL 0 (List.replicate ((List.length a0 : Int) : Int).toNat false)))
noncomputable def e3 : PmE := entry 3 [(.sl G35), (.int .i64), (.sl (.int .i64)), (.sl G41)] false .bool (fun x => m3 x.1 x.2.1 x.2.2.1 x.2.2.2.1)
noncomputable def V3 (mo7 : Option (Bool)) : Env := mkEnv2 Try.prog [(entry 7 [] false .bool (fun _ => mo7)), e9, e10, e11, e12, e13, e16, e17, e18, e19, e20] [c3i8, c3i14, c3i15] [194]
theorem qv3 (mo7 : Option (Bool)) (x : tyL [(.sl G35), (.int .i64), (.sl (.int .i64)), (.sl G41)]) : execF (V3 mo7) C3 Try.f3 (datL [(.sl G35), (.int .i64), (.sl (.int .i64)), (.sl G41)] x) [] (retK false .bool) = (fun (a0 : (List T35)) (a1 : Int) (a2 : (List Int)) (a3 : (List T41)) =>
  (mo7).bind fun r1 =>
  bif (((decide ((List.length a0 : Int) > 30)) || (decide ((List.length a2 : Int) > 30))) || (decide ((List.length a3 : Int) > 40))) then
    some r1
  else
    bif (((decide ((List.length a0 : Int) > 10000)) || (decide (a1 < 0))) || (decide (a1 > (List.length a0 : Int)))) then
      (m9 (a0, a1, a2, ())).bind fun r2 =>
      bif (!(r2 == false)) then
        some false
      else
        (m10 (a0, a1, a2, ()) (0, 0, 0, 0, 0, ())).bind fun r3 =>
        (m11 (a0, a1, a2, ()) 0).bind fun r4 =>
        (bif (((r1 && (r3.2.1 == 1)) && (r4.2.2.1 == 1)) == true) then (m12 (a0, a1, a2, ())) else some ([] : (List T35))).bind fun r5 =>
        (bif (((r1 && (r3.2.1 == 1)) && (r4.2.2.1 == 1)) == true) then (m13 (a0, a1, a2, ())) else some ([] : (List Int))).bind fun r6 =>
        some (((r1 && (r3.2.1 == 1)) && (r4.2.2.1 == 1)) && ((IntKind.i64.wrap ((IntKind.i64.wrap ((List.length r4.2.1 : Int) + (List.length r5 : Int))) + (List.length r6 : Int))) == 0))
    else
      asrt true (decide (List.length (α := T35) a0 ≤ LIM)) (
        asrt true (decide (0 ≤ (List.length a0 : Int)) && decide ((List.length a0 : Int) ≤ (List.length a0 : Int)) && decide ((List.length a0 : Int) ≤ (LIM : Int))) (
          l3_1 a1 (fun y8 =>
              l3_2 a0 a1 a2 (fun y15 =>
                  (m9 (a0, a1, a2, ())).bind fun r21 =>
                  bif (!(r21 == true)) then
                    some false
                  else
                    l3_3 a3 (
                        some r1) (
                        some false) FUEL 0 (a0, a1, a2, ()) a0 y15) (
                  (m9 (a0, a1, a2, ())).bind fun r16 =>
                  bif (!(r16 == false)) then
                    some false
                  else
                    (m10 (a0, a1, a2, ()) (0, 0, 0, 0, 0, ())).bind fun r17 =>
                    (m11 (a0, a1, a2, ()) 0).bind fun r18 =>
                    (bif (((r1 && (r17.2.1 == 1)) && (r18.2.2.1 == 1)) == true) then (m12 (a0, a1, a2, ())) else some ([] : (List T35))).bind fun r19 =>
                    (bif (((r1 && (r17.2.1 == 1)) && (r18.2.2.1 == 1)) == true) then (m13 (a0, a1, a2, ())) else some ([] : (List Int))).bind fun r20 =>
                    some (((r1 && (r17.2.1 == 1)) && (r18.2.2.1 == 1)) && ((IntKind.i64.wrap ((IntKind.i64.wrap ((List.length r18.2.1 : Int) + (List.length r19 : Int))) + (List.length r20 : Int))) == 0))) FUEL 0 y8) FUEL 0 (List.replicate ((List.length a0 : Int) : Int).toNat false)))) x.1 x.2.1 x.2.2.1 x.2.2.2.1 := by kernel_rfl
theorem q3 (x : tyL [(.sl G35), (.int .i64), (.sl (.int .i64)), (.sl G41)]) : execF E3 C3 Try.f3 (datL [(.sl G35), (.int .i64), (.sl (.int .i64)), (.sl G41)] x) [] (retK false .bool) = m3 x.1 x.2.1 x.2.2.1 x.2.2.2.1 := qv3 m7 x
theorem p3 : PmOk Try.prog e3 := pm_ok (E := E3) ok3 ord lm3 Try.func3 ca3 q3

/-! 4: consol/consollaw43.PostOnce -/
theorem ca4 : callable Try.prog 4 := ⟨Try.f4, Try.func4, by kernel_rfl, by kernel_rfl⟩
noncomputable def E4 : Env := mkEnv2 Try.prog [e7, e9, e10, e11, e12, e16] [] [116, 125]
theorem ok4 : EnvOk E4 := mkEnv2_ok (by simp only [List.mem_cons, List.not_mem_nil, or_false, forall_eq_or_imp, forall_eq]; exact ⟨p7, p9, p10, p11, p12, p16⟩) (by simp)
/-- a round of a loop of consol/consollaw43.PostOnce -/
noncomputable def s4_1 {R : Type} (t0 : (List T41)) (kn : Int → T26 → (List T35) → (List T35) → Option R) (k1 : Option R) (k2 : Option R) (t7 : Int) (o0 : T26) (o1 : (List T35)) (o2 : (List T35)) : Option R :=
  bif (decide (t7 < (List.length t0 : Int))) then
    cont (fun (k15 : (T26 × (List T35) × (List T35)) → _) =>
      (idx t0 t7).bind fun x2 =>
      bif (x2.1 == 0) then
        (idx t0 t7).bind fun x3 =>
        (m10 o0 x3.2.2.1).bind fun r4 =>
        bif (r4.2.1 != 0) then
          k2
        else
          (idx t0 t7).bind fun x5 =>
          asrt true (decide (List.length (α := T35) o1 + List.length (α := T35) [x5.2.2.1] ≤ LIM)) (
            k15 (r4.1, (o1 ++ [x5.2.2.1]), o2))
      else
        (idx t0 t7).bind fun x6 =>
        (m11 o0 x6.2.1).bind fun r7 =>
        (idxG (((r7.2.2.1 != 0) == true) && (((decide ((List.length r7.2.1 : Int) > 0)) || ((r7.2.2.1 != 4) && (r7.2.2.1 != 5))) == false)) (0, 0, (0, 0, 0, 0, 0, ()), ()) t0 t7).bind fun x8 =>
        (idxG ((((r7.2.2.1 != 0) == true) && (((decide ((List.length r7.2.1 : Int) > 0)) || ((r7.2.2.1 != 4) && (r7.2.2.1 != 5))) == false)) && ((decide (x8.2.1 < 0)) == false)) (0, 0, (0, 0, 0, 0, 0, ()), ()) t0 t7).bind fun x9 =>
        bif ((r7.2.2.1 != 0) && (((decide ((List.length r7.2.1 : Int) > 0)) || ((r7.2.2.1 != 4) && (r7.2.2.1 != 5))) || (!((r7.2.2.1 == 4) == ((decide (x8.2.1 < 0)) || (decide (x9.2.1 ≥ (List.length o1 : Int)))))))) then
          k2
        else
          cont (fun (k10 : (T26 × (List T35)) → _) =>
            bif (r7.2.2.1 == 0) then
              asrt true (decide (List.length (α := T35) o2 + List.length (α := T35) r7.2.1 ≤ LIM)) (
                k10 (r7.1, (o2 ++ r7.2.1)))
            else
              k10 (o0, o2)) fun y10 =>
          (bif ((decide ((List.length y10.2 : Int) > (List.length o1 : Int))) == false) then (m9 y10.1) else some false).bind fun r11 =>
          bif ((decide ((List.length y10.2 : Int) > (List.length o1 : Int))) || (!r11)) then
            k2
          else
            asrt true (bounds true (List.length (α := T35) o1) 0 (List.length y10.2 : Int)) (
              (m16 y10.2 (List.take (Int.toNat (List.length y10.2 : Int)) (List.drop 0 o1))).bind fun r12 =>
              (bif ((!r12) == false) then (m12 y10.1) else some ([] : (List T35))).bind fun r13 =>
              asrt ((!r12) == false) (bounds true (List.length (α := T35) o1) (List.length y10.2 : Int) ((List.length (α := T35) o1) : Int)) (
                (bif ((!r12) == false) then (m16 r13 (List.take ((List.length (α := T35) o1) - (Int.toNat (List.length y10.2 : Int))) (List.drop (Int.toNat (List.length y10.2 : Int)) o1))) else some false).bind fun r14 =>
                bif ((!r12) || (!r14)) then
                  k2
                else
                  k15 (y10.1, o1, y10.2)))) fun y15 =>
    kn (IntKind.i64.wrap (t7 + 1)) y15.1 y15.2.1 y15.2.2
  else
    k1
noncomputable def l4_1 {R : Type} (t0 : (List T41)) (k1 : Option R) (k2 : Option R) : Nat → Int → T26 → (List T35) → (List T35) → Option R
  | 0, _, _, _, _ => none
  | n + 1, t7, o0, o1, o2 => s4_1 t0 (l4_1 t0 k1 k2 n) k1 k2 t7 o0 o1 o2
noncomputable def L4_1 : LE := ⟨9, 0, ⟨[(0, (.dat (.sl G41))), (3, (.dat .bool)), (4, (.box 0 [] 0)), (5, (.own 1)), (6, (.own 2)), (7, (.dat (.int .i64)))], [(.box (.dat G26)), (.arr G35), (.arr G35)]⟩, fun R n x k => l4_1 x.1.1 (k (.exit 0) ⟨[(3, (.dat .bool x.1.2.1))], []⟩) (k .ret ⟨[(2, (.dat .bool false))], []⟩) n x.1.2.2.2.2.2.1 x.2.1 x.2.2.1 x.2.2.2.1⟩
noncomputable def C4 : Cfg := mkCfg [(9, ⟨[0, 3, 4, 5, 6, 7], [(5, [], G35), (6, [], G35)], [(4, [], G26)]⟩), (10, ⟨[0, 3, 4, 5, 6, 7], [(6, [], G35), (5, [], G35)], []⟩), (23, ⟨[0, 3, 4, 5, 6, 7], [(6, [], G35)], [(4, [], G26)]⟩)] [(9, (⟨[3], [], []⟩, ⟨[2], [], []⟩))] (([(0, L4_1)] : List (Nat × LE)).map (·.2))
theorem ek4_1 : EOk E4 C4 Try.f4.ntmps (bodyL Try.f4 0) L4_1 := eok_of (e := L4_1) (fun R x Kn k => s4_1 x.1.1 (fun v0 v1 v2 v3 => Kn ((x.1.1, x.1.2.1, (), (), (), v0, ()), (v1, v2, v3, ()))) (k (.exit 0) ⟨[(3, (.dat .bool x.1.2.1))], []⟩) (k .ret ⟨[(2, (.dat .bool false))], []⟩) x.1.2.2.2.2.2.1 x.2.1 x.2.2.1 x.2.2.2.1) (fun _ _ _ => rfl) (fun _ _ _ _ => rfl) (fun R x Kn k => by kernel_rfl)
theorem lm4 : ∀ c, Try.f4.body = some c → LmOk E4 C4 Try.f4.ntmps c := lmOk_of (ps := [(0, L4_1)]) (by kernel_rfl) (by kernel_rfl) ⟨ek4_1, trivial⟩
noncomputable def m4 (a0 : (List T41)) : Option (Bool) :=
  (m7).bind fun r1 =>
  bif (decide ((List.length a0 : Int) > 60)) then
    some r1
  else
    l4_1 a0 (
        some r1) (
        some false) FUEL 0 ([], 0, [], ()) [] []
noncomputable def e4 : PmE := entry 4 [(.sl G41)] false .bool (fun x => m4 x.1)
noncomputable def V4 (mo7 : Option (Bool)) : Env := mkEnv2 Try.prog [(entry 7 [] false .bool (fun _ => mo7)), e9, e10, e11, e12, e16] [] [116, 125]
theorem qv4 (mo7 : Option (Bool)) (x : tyL [(.sl G41)]) : execF (V4 mo7) C4 Try.f4 (datL [(.sl G41)] x) [] (retK false .bool) = (fun (a0 : (List T41)) =>
  (mo7).bind fun r1 =>
  bif (decide ((List.length a0 : Int) > 60)) then
    some r1
  else
    l4_1 a0 (
        some r1) (
        some false) FUEL 0 ([], 0, [], ()) [] []) x.1 := by kernel_rfl
theorem q4 (x : tyL [(.sl G41)]) : execF E4 C4 Try.f4 (datL [(.sl G41)] x) [] (retK false .bool) = m4 x.1 := qv4 m7 x
theorem p4 : PmOk Try.prog e4 := pm_ok (E := E4) ok4 ord lm4 Try.func4 ca4 q4

/-! 5: consol/consollaw43.PostAgain -/
theorem ca5 : callable Try.prog 5 := ⟨Try.f5, Try.func5, by kernel_rfl, by kernel_rfl⟩
noncomputable def E5 : Env := mkEnv2 Try.prog [e7, e10, e11, e12, e13, e16] []
theorem ok5 : EnvOk E5 := mkEnv2_ok (by simp only [List.mem_cons, List.not_mem_nil, or_false, forall_eq_or_imp, forall_eq]; exact ⟨p7, p10, p11, p12, p13, p16⟩) (by simp)
/-- a round of a loop of consol/consollaw43.PostAgain -/
noncomputable def s5_1 {R : Type} (t0 : (List T41)) (kn : Int → T26 → Option R) (k1 : T26 → Option R) (k2 : Option R) (t7 : Int) (o0 : T26) : Option R :=
  bif (decide (t7 < (List.length t0 : Int))) then
    cont (fun (k7 : T26 → _) =>
      (idx t0 t7).bind fun x2 =>
      bif (x2.1 == 0) then
        (idx t0 t7).bind fun x3 =>
        (m10 o0 x3.2.2.1).bind fun r4 =>
        bif (r4.2.1 != 0) then
          k2
        else
          k7 r4.1
      else
        (idx t0 t7).bind fun x5 =>
        (m11 o0 x5.2.1).bind fun r6 =>
        bif (r6.2.2.1 == 0) then
          k7 r6.1
        else
          k7 o0) fun y7 =>
    kn (IntKind.i64.wrap (t7 + 1)) y7
  else
    k1 o0
noncomputable def l5_1 {R : Type} (t0 : (List T41)) (k1 : T26 → Option R) (k2 : Option R) : Nat → Int → T26 → Option R
  | 0, _, _ => none
  | n + 1, t7, o0 => s5_1 t0 (l5_1 t0 k1 k2 n) k1 k2 t7 o0
noncomputable def L5_1 : LE := ⟨7, 0, ⟨[(0, (.dat (.sl G41))), (1, (.dat (.int .u8))), (5, (.dat .bool)), (6, (.box 0 [] 0)), (7, (.dat (.int .i64)))], [(.box (.dat G26))]⟩, fun R n x k => l5_1 x.1.1 (fun y0 => k (.exit 0) ⟨[(1, (.dat (.int .u8) x.1.2.1)), (5, (.dat .bool x.1.2.2.1)), (6, (.box 0 [] 0))], [(.box (.dat G26 y0))]⟩) (k .ret ⟨[(4, (.dat .bool false))], []⟩) n x.1.2.2.2.2.1 x.2.1⟩
/-- a round of a loop of consol/consollaw43.PostAgain -/
noncomputable def s5_2 {R : Type} (t1 : Int) (t13 : (List Int)) (kn : Int → T26 → (List T35) → Option R) (k1 : T26 → (List T35) → Option R) (k2 : Option R) (t16 : Int) (o0 : T26) (o1 : (List T35)) : Option R :=
  bif (decide (t16 < (List.length t13 : Int))) then
    asrt true ((List.length t13 : Int) != 0) (
      (idx t13 (Int.tmod (IntKind.i64.wrap (t16 + (IntKind.i64.wrap t1))) (List.length t13 : Int))).bind fun x11 =>
      (m11 o0 x11).bind fun r12 =>
      (m11 r12.1 x11).bind fun r13 =>
      bif (((r12.2.2.1 != 0) || (r13.2.2.1 != 5)) || (decide ((List.length r13.2.1 : Int) > 0))) then
        k2
      else
        asrt true (decide (List.length (α := T35) o1 + List.length (α := T35) r12.2.1 ≤ LIM)) (
          kn (IntKind.i64.wrap (t16 + 1)) r12.1 (o1 ++ r12.2.1)))
  else
    k1 o0 o1
noncomputable def l5_2 {R : Type} (t1 : Int) (t13 : (List Int)) (k1 : T26 → (List T35) → Option R) (k2 : Option R) : Nat → Int → T26 → (List T35) → Option R
  | 0, _, _, _ => none
  | n + 1, t16, o0, o1 => s5_2 t1 t13 (l5_2 t1 t13 k1 k2 n) k1 k2 t16 o0 o1
noncomputable def L5_2 : LE := ⟨21, 0, ⟨[(1, (.dat (.int .u8))), (5, (.dat .bool)), (6, (.box 0 [] 0)), (13, (.dat (.sl (.int .i64)))), (14, (.dat (.sl G35))), (15, (.own 1)), (16, (.dat (.int .i64)))], [(.box (.dat G26)), (.arr G35)]⟩, fun R n x k => l5_2 x.1.1 x.1.2.2.2.1 (fun y0 y1 => k (.exit 2) ⟨[(5, (.dat .bool x.1.2.1)), (6, (.box 0 [] 0)), (14, (.dat (.sl G35) x.1.2.2.2.2.1)), (15, (.own 1))], [(.box (.dat G26 y0)), (.arr G35 y1)]⟩) (k .ret ⟨[(4, (.dat .bool false))], []⟩) n x.1.2.2.2.2.2.2.1 x.2.1 x.2.2.1⟩
noncomputable def C5 : Cfg := mkCfg [(7, ⟨[0, 1, 5, 6, 7], [], [(6, [], G26)]⟩), (8, ⟨[0, 1, 5, 6, 7], [], [(6, [], G26)]⟩), (21, ⟨[1, 5, 6, 13, 14, 15, 16], [(15, [], G35)], []⟩)] [(7, (⟨[1, 5, 6], [], []⟩, ⟨[4], [], []⟩)), (21, (⟨[5, 6, 14, 15], [], []⟩, ⟨[4], [], []⟩))] (([(0, L5_1), (1, L5_2)] : List (Nat × LE)).map (·.2))
theorem ek5_1 : EOk E5 C5 Try.f5.ntmps (bodyL Try.f5 0) L5_1 := eok_of (e := L5_1) (fun R x Kn k => s5_1 x.1.1 (fun v0 v1 => Kn ((x.1.1, x.1.2.1, x.1.2.2.1, (), v0, ()), (v1, ()))) (fun y0 => k (.exit 0) ⟨[(1, (.dat (.int .u8) x.1.2.1)), (5, (.dat .bool x.1.2.2.1)), (6, (.box 0 [] 0))], [(.box (.dat G26 y0))]⟩) (k .ret ⟨[(4, (.dat .bool false))], []⟩) x.1.2.2.2.2.1 x.2.1) (fun _ _ _ => rfl) (fun _ _ _ _ => rfl) (fun R x Kn k => by kernel_rfl)
theorem ek5_2 : EOk E5 C5 Try.f5.ntmps (bodyL Try.f5 1) L5_2 := eok_of (e := L5_2) (fun R x Kn k => s5_2 x.1.1 x.1.2.2.2.1 (fun v0 v1 v2 => Kn ((x.1.1, x.1.2.1, (), x.1.2.2.2.1, x.1.2.2.2.2.1, (), v0, ()), (v1, v2, ()))) (fun y0 y1 => k (.exit 2) ⟨[(5, (.dat .bool x.1.2.1)), (6, (.box 0 [] 0)), (14, (.dat (.sl G35) x.1.2.2.2.2.1)), (15, (.own 1))], [(.box (.dat G26 y0)), (.arr G35 y1)]⟩) (k .ret ⟨[(4, (.dat .bool false))], []⟩) x.1.2.2.2.2.2.2.1 x.2.1 x.2.2.1) (fun _ _ _ => rfl) (fun _ _ _ _ => rfl) (fun R x Kn k => by kernel_rfl)
theorem lm5 : ∀ c, Try.f5.body = some c → LmOk E5 C5 Try.f5.ntmps c := lmOk_of (ps := [(0, L5_1), (1, L5_2)]) (by kernel_rfl) (by kernel_rfl) ⟨ek5_1, ek5_2, trivial⟩
noncomputable def m5 (a0 : (List T41)) (a1 : Int) : Option (Bool) :=
  (m7).bind fun r1 =>
  bif (decide ((List.length a0 : Int) > 40)) then
    some r1
  else
    l5_1 a0 (fun y8 =>
        (m13 y8).bind fun r9 =>
        (m12 y8).bind fun r10 =>
        l5_2 a1 r9 (fun y14 y15 =>
            (bif (r1 == true) then (m16 y15 r10) else some false).bind fun r16 =>
            (bif ((r1 && r16) == true) then (m12 y14) else some ([] : (List T35))).bind fun r17 =>
            (bif ((r1 && r16) == true) then (m13 y14) else some ([] : (List Int))).bind fun r18 =>
            some (((r1 && r16) && ((IntKind.i64.wrap ((List.length r17 : Int) + (List.length r18 : Int))) == 0)) && (y14.2.1 == (List.length y14.1 : Int)))) (
            some false) FUEL 0 y8 []) (
        some false) FUEL 0 ([], 0, [], ())
noncomputable def e5 : PmE := entry 5 [(.sl G41), (.int .u8)] false .bool (fun x => m5 x.1 x.2.1)
noncomputable def V5 (mo7 : Option (Bool)) : Env := mkEnv2 Try.prog [(entry 7 [] false .bool (fun _ => mo7)), e10, e11, e12, e13, e16] []
theorem qv5 (mo7 : Option (Bool)) (x : tyL [(.sl G41), (.int .u8)]) : execF (V5 mo7) C5 Try.f5 (datL [(.sl G41), (.int .u8)] x) [] (retK false .bool) = (fun (a0 : (List T41)) (a1 : Int) =>
  (mo7).bind fun r1 =>
  bif (decide ((List.length a0 : Int) > 40)) then
    some r1
  else
    l5_1 a0 (fun y8 =>
        (m13 y8).bind fun r9 =>
        (m12 y8).bind fun r10 =>
        l5_2 a1 r9 (fun y14 y15 =>
            (bif (r1 == true) then (m16 y15 r10) else some false).bind fun r16 =>
            (bif ((r1 && r16) == true) then (m12 y14) else some ([] : (List T35))).bind fun r17 =>
            (bif ((r1 && r16) == true) then (m13 y14) else some ([] : (List Int))).bind fun r18 =>
            some (((r1 && r16) && ((IntKind.i64.wrap ((List.length r17 : Int) + (List.length r18 : Int))) == 0)) && (y14.2.1 == (List.length y14.1 : Int)))) (
            some false) FUEL 0 y8 []) (
        some false) FUEL 0 ([], 0, [], ())) x.1 x.2.1 := by kernel_rfl
theorem q5 (x : tyL [(.sl G41), (.int .u8)]) : execF E5 C5 Try.f5 (datL [(.sl G41), (.int .u8)] x) [] (retK false .bool) = m5 x.1 x.2.1 := qv5 m7 x
theorem p5 : PmOk Try.prog e5 := pm_ok (E := E5) ok5 ord lm5 Try.func5 ca5 q5

/-! 6: consol/consollaw43.PostLater -/
theorem ca6 : callable Try.prog 6 := ⟨Try.f6, Try.func6, by kernel_rfl, by kernel_rfl⟩
noncomputable def E6 : Env := mkEnv2 Try.prog [e7, e11, e12, e16, e18] []
theorem ok6 : EnvOk E6 := mkEnv2_ok (by simp only [List.mem_cons, List.not_mem_nil, or_false, forall_eq_or_imp, forall_eq]; exact ⟨p7, p11, p12, p16, p18⟩) (by simp)
/-- a round of a loop of consol/consollaw43.PostLater -/
noncomputable def s6_1 {R : Type} (t0 : (List T35)) (t1 : (List Int)) (kn : Int → Int → T26 → T26 → Option R) (k1 : Int → T26 → T26 → Option R) (k2 : Option R) (t10 : Int) (t11 : Int) (o0 : T26) (o1 : T26) : Option R :=
  bif (decide (t11 < (List.length t1 : Int))) then
    cont (fun (k9 : (Int × T26 × T26) → _) =>
      (idx t1 t11).bind fun x2 =>
      bif (decide (x2 ≥ (List.length t0 : Int))) then
        k9 (t10, o0, o1)
      else
        (idx t1 t11).bind fun x3 =>
        (m11 o0 x3).bind fun r4 =>
        (idx t1 t11).bind fun x5 =>
        (m11 o1 x5).bind fun r6 =>
        (bif ((r4.2.2.1 != r6.2.2.1) == false) then (m16 r4.2.1 r6.2.1) else some false).bind fun r7 =>
        bif ((r4.2.2.1 != r6.2.2.1) || (!r7)) then
          k2
        else
          cont (fun (k8 : (T26 × T26) → _) =>
            bif (r4.2.2.1 == 0) then
              k8 (r4.1, r6.1)
            else
              k8 (o0, o1)) fun y8 =>
          k9 ((IntKind.i64.wrap (t10 + (List.length r4.2.1 : Int))), y8.1, y8.2)) fun y9 =>
    kn y9.1 (IntKind.i64.wrap (t11 + 1)) y9.2.1 y9.2.2
  else
    k1 t10 o0 o1
noncomputable def l6_1 {R : Type} (t0 : (List T35)) (t1 : (List Int)) (k1 : Int → T26 → T26 → Option R) (k2 : Option R) : Nat → Int → Int → T26 → T26 → Option R
  | 0, _, _, _, _ => none
  | n + 1, t10, t11, o0, o1 => s6_1 t0 t1 (l6_1 t0 t1 k1 k2 n) k1 k2 t10 t11 o0 o1
noncomputable def L6_1 : LE := ⟨9, 0, ⟨[(0, (.dat (.sl G35))), (1, (.dat (.sl (.int .i64)))), (2, (.dat (.sl G35))), (7, (.dat .bool)), (8, (.box 0 [] 0)), (9, (.box 1 [] 0)), (10, (.dat (.int .i64))), (11, (.dat (.int .i64)))], [(.box (.dat G26)), (.box (.dat G26))]⟩, fun R n x k => l6_1 x.1.1 x.1.2.1 (fun y0 y1 y2 => k (.exit 0) ⟨[(0, (.dat (.sl G35) x.1.1)), (2, (.dat (.sl G35) x.1.2.2.1)), (7, (.dat .bool x.1.2.2.2.1)), (8, (.box 0 [] 0)), (9, (.box 1 [] 0)), (10, (.dat (.int .i64) y0))], [(.box (.dat G26 y1)), (.box (.dat G26 y2))]⟩) (k .ret ⟨[(6, (.dat .bool false))], []⟩) n x.1.2.2.2.2.2.2.1 x.1.2.2.2.2.2.2.2.1 x.2.1 x.2.2.1⟩
noncomputable def C6 : Cfg := mkCfg [(9, ⟨[0, 1, 2, 7, 8, 9, 10, 11], [], [(8, [], G26), (9, [], G26)]⟩), (10, ⟨[0, 1, 2, 7, 8, 9, 10, 11], [], [(8, [], G26), (9, [], G26)]⟩), (19, ⟨[0, 1, 2, 7, 8, 9, 10, 11, 13], [], [(8, [], G26)]⟩)] [(9, (⟨[0, 2, 7, 8, 9, 10], [], []⟩, ⟨[6], [], []⟩))] (([(0, L6_1)] : List (Nat × LE)).map (·.2)) [] [(12, [(9, [], G26)])]
theorem ek6_1 : EOk E6 C6 Try.f6.ntmps (bodyL Try.f6 0) L6_1 := eok_of (e := L6_1) (fun R x Kn k => s6_1 x.1.1 x.1.2.1 (fun v0 v1 v2 v3 => Kn ((x.1.1, x.1.2.1, x.1.2.2.1, x.1.2.2.2.1, (), (), v0, v1, ()), (v2, v3, ()))) (fun y0 y1 y2 => k (.exit 0) ⟨[(0, (.dat (.sl G35) x.1.1)), (2, (.dat (.sl G35) x.1.2.2.1)), (7, (.dat .bool x.1.2.2.2.1)), (8, (.box 0 [] 0)), (9, (.box 1 [] 0)), (10, (.dat (.int .i64) y0))], [(.box (.dat G26 y1)), (.box (.dat G26 y2))]⟩) (k .ret ⟨[(6, (.dat .bool false))], []⟩) x.1.2.2.2.2.2.2.1 x.1.2.2.2.2.2.2.2.1 x.2.1 x.2.2.1) (fun _ _ _ => rfl) (fun _ _ _ _ => rfl) (fun R x Kn k => by kernel_rfl)
theorem lm6 : ∀ c, Try.f6.body = some c → LmOk E6 C6 Try.f6.ntmps c := lmOk_of (ps := [(0, L6_1)]) (by kernel_rfl) (by kernel_rfl) ⟨ek6_1, trivial⟩
noncomputable def m6 (a0 : (List T35)) (a1 : (List Int)) (a2 : (List T35)) : Option (Bool) :=
  (m7).bind fun r1 =>
  bif (((decide ((List.length a0 : Int) > 30)) || (decide ((List.length a1 : Int) > 30))) || (decide ((List.length a2 : Int) > 10))) then
    some r1
  else
    asrt true (decide (List.length (α := T35) a0 ≤ LIM)) (
      asrt true (decide (List.length (α := T35) a0 + List.length (α := T35) a2 ≤ LIM)) (
        l6_1 a0 a1 (fun y10 y11 y12 =>
            (bif (r1 == true) then (m12 y11) else some ([] : (List T35))).bind fun r13 =>
            (bif ((r1 && ((IntKind.i64.wrap (y10 + (List.length r13 : Int))) == (List.length a0 : Int))) == true) then (m12 y12) else some ([] : (List T35))).bind fun r14 =>
            (bif ((r1 && ((IntKind.i64.wrap (y10 + (List.length r13 : Int))) == (List.length a0 : Int))) == true) then (m12 y11) else some ([] : (List T35))).bind fun r15 =>
            (bif ((((r1 && ((IntKind.i64.wrap (y10 + (List.length r13 : Int))) == (List.length a0 : Int))) && ((List.length r14 : Int) == (IntKind.i64.wrap ((List.length r15 : Int) + (List.length a2 : Int))))) && (y11.2.1 == y12.2.1)) == true) then (m18 y11.2.2.1 y12.2.2.1) else some false).bind fun r16 =>
            some ((((r1 && ((IntKind.i64.wrap (y10 + (List.length r13 : Int))) == (List.length a0 : Int))) && ((List.length r14 : Int) == (IntKind.i64.wrap ((List.length r15 : Int) + (List.length a2 : Int))))) && (y11.2.1 == y12.2.1)) && r16)) (
            some false) FUEL 0 0 (a0, 0, [], ()) ((a0 ++ a2), 0, [], ())))
noncomputable def e6 : PmE := entry 6 [(.sl G35), (.sl (.int .i64)), (.sl G35)] false .bool (fun x => m6 x.1 x.2.1 x.2.2.1)
noncomputable def V6 (mo7 : Option (Bool)) : Env := mkEnv2 Try.prog [(entry 7 [] false .bool (fun _ => mo7)), e11, e12, e16, e18] []
theorem qv6 (mo7 : Option (Bool)) (x : tyL [(.sl G35), (.sl (.int .i64)), (.sl G35)]) : execF (V6 mo7) C6 Try.f6 (datL [(.sl G35), (.sl (.int .i64)), (.sl G35)] x) [] (retK false .bool) = (fun (a0 : (List T35)) (a1 : (List Int)) (a2 : (List T35)) =>
  (mo7).bind fun r1 =>
  bif (((decide ((List.length a0 : Int) > 30)) || (decide ((List.length a1 : Int) > 30))) || (decide ((List.length a2 : Int) > 10))) then
    some r1
  else
    asrt true (decide (List.length (α := T35) a0 ≤ LIM)) (
      asrt true (decide (List.length (α := T35) a0 + List.length (α := T35) a2 ≤ LIM)) (
        l6_1 a0 a1 (fun y10 y11 y12 =>
            (bif (r1 == true) then (m12 y11) else some ([] : (List T35))).bind fun r13 =>
            (bif ((r1 && ((IntKind.i64.wrap (y10 + (List.length r13 : Int))) == (List.length a0 : Int))) == true) then (m12 y12) else some ([] : (List T35))).bind fun r14 =>
            (bif ((r1 && ((IntKind.i64.wrap (y10 + (List.length r13 : Int))) == (List.length a0 : Int))) == true) then (m12 y11) else some ([] : (List T35))).bind fun r15 =>
            (bif ((((r1 && ((IntKind.i64.wrap (y10 + (List.length r13 : Int))) == (List.length a0 : Int))) && ((List.length r14 : Int) == (IntKind.i64.wrap ((List.length r15 : Int) + (List.length a2 : Int))))) && (y11.2.1 == y12.2.1)) == true) then (m18 y11.2.2.1 y12.2.2.1) else some false).bind fun r16 =>
            some ((((r1 && ((IntKind.i64.wrap (y10 + (List.length r13 : Int))) == (List.length a0 : Int))) && ((List.length r14 : Int) == (IntKind.i64.wrap ((List.length r15 : Int) + (List.length a2 : Int))))) && (y11.2.1 == y12.2.1)) && r16)) (
            some false) FUEL 0 0 (a0, 0, [], ()) ((a0 ++ a2), 0, [], ())))) x.1 x.2.1 x.2.2.1 := by kernel_rfl
theorem q6 (x : tyL [(.sl G35), (.sl (.int .i64)), (.sl G35)]) : execF E6 C6 Try.f6 (datL [(.sl G35), (.sl (.int .i64)), (.sl G35)] x) [] (retK false .bool) = m6 x.1 x.2.1 x.2.2.1 := qv6 m7 x
theorem p6 : PmOk Try.prog e6 := pm_ok (E := E6) ok6 ord lm6 Try.func6 ca6 q6

end Go.Proofs.Ytblgheellobhcaa
