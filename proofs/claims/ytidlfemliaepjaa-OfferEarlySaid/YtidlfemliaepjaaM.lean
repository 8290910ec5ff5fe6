/- Models of the functions that the statements reach. -/
import Derived.Test.YtidlfemliaepjaaE32
import Derived.Test.YtidlfemliaepjaaChecked
import Derived.KernelRfl
namespace Go.Proofs.Ytidlfemliaepjaa
open Go Go.Eng
set_option linter.unusedVariables false

/-- x, y, signed, code -/
abbrev G7 : GT := .cons (.int .i64) (.cons (.int .i64) (.cons .bool (.cons (.int .u8) (.nil))))
abbrev T7 : Type := Int × Int × Bool × Int × Unit
/-- msg, addr -/
abbrev G13 : GT := .cons .str (.cons (.int .u64) (.nil))
abbrev T13 : Type := (List UInt8) × Int × Unit
/-- Issue, To, Early, Late, New, Less, Least, Most -/
abbrev G22 : GT := .cons (.int .i64) (.cons (.int .i64) (.cons (.int .i64) (.cons (.int .i64) (.cons (.int .i64) (.cons (.int .i64) (.cons (.int .i64) (.cons (.int .i64) (.nil))))))))
abbrev T22 : Type := Int × Int × Int × Int × Int × Int × Int × Int × Unit
/-- Seat, Units, Day -/
abbrev G38 : GT := .cons (.int .i64) (.cons (.int .i64) (.cons (.int .i64) (.nil)))
abbrev T38 : Type := Int × Int × Int × Unit
/-- Seat, Amount -/
abbrev G40 : GT := .cons (.int .i64) (.cons (.int .i64) (.nil))
abbrev T40 : Type := Int × Int × Unit

theorem ord : Try.prog.follows .mixedOrders = true := by kernel_rfl

/-! 27: consol/consollaw36.some -/
theorem ca27 : callable Try.prog 27 := ⟨Try.f27, Try.func27, by kernel_rfl, by kernel_rfl⟩
noncomputable def E27 : Env := mkEnv2 Try.prog [] []
theorem ok27 : EnvOk E27 := mkEnv2_ok (by simp) (by simp)
noncomputable def C27 : Cfg := noCfg
theorem lm27 : ∀ c, Try.f27.body = some c → LmOk E27 C27 Try.f27.ntmps c := fun _ _ => noCfg_lm
noncomputable def m27  : Option (T22) :=
  some (1, 2, 5, 9, 1000, 900, 6, 10, ())
noncomputable def e27 : PmE := entry 27 [] false G22 (fun x => m27 )
theorem q27 (x : tyL []) : execF E27 C27 Try.f27 (datL [] x) [] (retK false G22) = m27  := by kernel_rfl
theorem p27 : PmOk Try.prog e27 := pm_ok (E := E27) ok27 ord lm27 Try.func27 ca27 q27

/-! 28: consol/offer.in -/
theorem ca38 : callable Try.prog 38 := ⟨Try.f38, Try.func38, by kernel_rfl, by kernel_rfl⟩
noncomputable def E28i38 : Env := mkEnv2 Try.prog [] []
theorem ok28i38 : EnvOk E28i38 := mkEnv2_ok (by simp) (by simp)
noncomputable def C28i38 : Cfg := noCfg
theorem lm28i38 : ∀ c, Try.f38.body = some c → LmOk E28i38 C28i38 Try.f38.ntmps c := fun _ _ => noCfg_lm
noncomputable def c28i38 : CmE := inl E28i38 C28i38 38 Try.f38
theorem d28i38 : CmOk Try.prog c28i38 := inl_ok (E := E28i38) ok28i38 ord lm28i38 Try.func38 ca38

theorem ca42 : callable Try.prog 42 := ⟨Try.f42, Try.func42, by kernel_rfl, by kernel_rfl⟩
noncomputable def E28i42 : Env := mkEnv2 Try.prog [] [c28i38]
theorem ok28i42 : EnvOk E28i42 := mkEnv2_ok (by simp) (by simp only [List.mem_cons, List.not_mem_nil, or_false, forall_eq]; exact d28i38)
/-- a round of a loop of slices.IndexFunc[[]int,int] -/
noncomputable def s28_1 {R : Type} (t0 : (List Int)) (t7 : Int) (o0 : Int) (o1 : Int) (kn : Int → Option R) (k1 : Option R) (k2 : Int → Option R) (t8 : Int) : Option R :=
  bif (decide (t8 < t7)) then
    (idx t0 t8).bind fun x1 =>
    bif ((decide (x1 < o0)) || (decide (x1 > o1))) then
      k2 t8
    else
      kn (IntKind.i64.wrap (t8 + 1))
  else
    k1
noncomputable def l28_1 {R : Type} (t0 : (List Int)) (t7 : Int) (o0 : Int) (o1 : Int) (k1 : Option R) (k2 : Int → Option R) : Nat → Int → Option R
  | 0, _ => none
  | n + 1, t8 => s28_1 t0 t7 o0 o1 (l28_1 t0 t7 o0 o1 k1 k2 n) k1 k2 t8
noncomputable def L28_1 : LE := ⟨3, 2, ⟨[(0, (.dat (.sl (.int .i64)))), (1, (.fn 38 (.scons (.box 0 [] 0) (.scons (.box 1 [] 0) .snil)))), (7, (.dat (.int .i64))), (8, (.dat (.int .i64)))], [(.box (.dat (.int .i64))), (.box (.dat (.int .i64)))]⟩, fun R n x k => l28_1 x.1.1 x.1.2.2.1 x.2.1 x.2.2.1 (k (.exit 0) ⟨[], [(.box (.dat (.int .i64) x.2.1)), (.box (.dat (.int .i64) x.2.2.1))]⟩) (fun y0 => k .ret ⟨[(4, (.dat (.int .i64) y0))], [(.box (.dat (.int .i64) x.2.1)), (.box (.dat (.int .i64) x.2.2.1))]⟩) n x.1.2.2.2.1⟩
noncomputable def C28i42 : Cfg := mkCfg [(3, ⟨[0, 1, 7, 8], []⟩)] [(3, (⟨[], []⟩, ⟨[4], []⟩))] (([(0, L28_1)] : List (Nat × LE)).map (·.2))
theorem ek28_1 : EOk E28i42 C28i42 Try.f42.ntmps (bodyL Try.f42 0) L28_1 := eok_of (e := L28_1) (fun R x Kn k => s28_1 x.1.1 x.1.2.2.1 x.2.1 x.2.2.1 (fun v0 => Kn ((x.1.1, ((), (), ()), x.1.2.2.1, v0, ()), (x.2.1, x.2.2.1, ()))) (k (.exit 0) ⟨[], [(.box (.dat (.int .i64) x.2.1)), (.box (.dat (.int .i64) x.2.2.1))]⟩) (fun y0 => k .ret ⟨[(4, (.dat (.int .i64) y0))], [(.box (.dat (.int .i64) x.2.1)), (.box (.dat (.int .i64) x.2.2.1))]⟩) x.1.2.2.2.1) (fun _ _ _ => rfl) (fun _ _ _ _ => rfl) (fun R x Kn k => by kernel_rfl)
theorem lm28i42 : ∀ c, Try.f42.body = some c → LmOk E28i42 C28i42 Try.f42.ntmps c := lmOk_of (ps := [(0, L28_1)]) (by kernel_rfl) (by kernel_rfl) ⟨ek28_1, trivial⟩
noncomputable def c28i42 : CmE := inl E28i42 C28i42 42 Try.f42
theorem d28i42 : CmOk Try.prog c28i42 := inl_ok (E := E28i42) ok28i42 ord lm28i42 Try.func42 ca42

theorem ca37 : callable Try.prog 37 := ⟨Try.f37, Try.func37, by kernel_rfl, by kernel_rfl⟩
noncomputable def E28i37 : Env := mkEnv2 Try.prog [] [c28i42]
theorem ok28i37 : EnvOk E28i37 := mkEnv2_ok (by simp) (by simp only [List.mem_cons, List.not_mem_nil, or_false, forall_eq]; exact d28i42)
noncomputable def C28i37 : Cfg := noCfg
theorem lm28i37 : ∀ c, Try.f37.body = some c → LmOk E28i37 C28i37 Try.f37.ntmps c := fun _ _ => noCfg_lm
noncomputable def c28i37 : CmE := inl E28i37 C28i37 37 Try.f37
theorem d28i37 : CmOk Try.prog c28i37 := inl_ok (E := E28i37) ok28i37 ord lm28i37 Try.func37 ca37

theorem ca28 : callable Try.prog 28 := ⟨Try.f28, Try.func28, by kernel_rfl, by kernel_rfl⟩
noncomputable def E28 : Env := mkEnv2 Try.prog [] [c28i37]
theorem ok28 : EnvOk E28 := mkEnv2_ok (by simp) (by simp only [List.mem_cons, List.not_mem_nil, or_false, forall_eq]; exact d28i37)
noncomputable def C28 : Cfg := noCfg
theorem lm28 : ∀ c, Try.f28.body = some c → LmOk E28 C28 Try.f28.ntmps c := fun _ _ => noCfg_lm
noncomputable def m28 (a0 : Int) (a1 : Int) (a2 : (List Int)) : Option (Bool) :=
  l28_1 a2 (List.length a2 : Int) a0 a1 (
      some true) (fun y2 =>
      some (!(decide (y2 ≥ 0)))) FUEL 0
noncomputable def e28 : PmE := entry 28 [(.int .i64), (.int .i64), (.sl (.int .i64))] false .bool (fun x => m28 x.1 x.2.1 x.2.2.1)
theorem q28 (x : tyL [(.int .i64), (.int .i64), (.sl (.int .i64))]) : execF E28 C28 Try.f28 (datL [(.int .i64), (.int .i64), (.sl (.int .i64))] x) [] (retK false .bool) = m28 x.1 x.2.1 x.2.2.1 := by kernel_rfl
theorem p28 : PmOk Try.prog e28 := pm_ok (E := E28) ok28 ord lm28 Try.func28 ca28 q28

/-! 19: consol/offer.right -/
theorem ca29 : callable Try.prog 29 := ⟨Try.f29, Try.func29, by kernel_rfl, by kernel_rfl⟩
noncomputable def E19i29 : Env := mkEnv2 Try.prog [e28] []
theorem ok19i29 : EnvOk E19i29 := mkEnv2_ok (by simp only [List.mem_cons, List.not_mem_nil, or_false, forall_eq]; exact p28) (by simp)
noncomputable def C19i29 : Cfg := noCfg
theorem lm19i29 : ∀ c, Try.f29.body = some c → LmOk E19i29 C19i29 Try.f29.ntmps c := fun _ _ => noCfg_lm
noncomputable def c19i29 : CmE := inl E19i29 C19i29 29 Try.f29
theorem d19i29 : CmOk Try.prog c19i29 := inl_ok (E := E19i29) ok19i29 ord lm19i29 Try.func29 ca29

theorem ca39 : callable Try.prog 39 := ⟨Try.f39, Try.func39, by kernel_rfl, by kernel_rfl⟩
noncomputable def E19i39 : Env := mkEnv2 Try.prog [] [c19i29]
theorem ok19i39 : EnvOk E19i39 := mkEnv2_ok (by simp) (by simp only [List.mem_cons, List.not_mem_nil, or_false, forall_eq]; exact d19i29)
/-- a round of a loop of slices.IndexFunc[[]consol/api.Tender,consol/api.Tender] -/
noncomputable def s19_2 {R : Type} (t0 : (List T38)) (t7 : Int) (o0 : (List Int)) (kn : Int → Option R) (k1 : Option R) (k2 : Int → Option R) (t8 : Int) : Option R :=
  bif (decide (t8 < t7)) then
    (idx t0 t8).bind fun x11 =>
    (m28 0 (IntKind.i64.wrap ((List.length o0 : Int) - 1)) [x11.1]).bind fun r12 =>
    bif ((!r12) == false) then
      (bif ((!r12) == false) then (m28 1 1000000000 [x11.2.1]) else some false).bind fun r13 =>
      bif (((!r12) || (!r13)) == false) then
        (bif (((!r12) || (!r13)) == false) then (m28 0 200000 [x11.2.2.1]) else some false).bind fun r14 =>
        bif (((!r12) || (!r13)) || (!r14)) then
          k2 t8
        else
          kn (IntKind.i64.wrap (t8 + 1))
      else
        (bif (((!r12) || (!r13)) == false) then (m28 0 200000 []) else some false).bind fun r15 =>
        bif (((!r12) || (!r13)) || (!r15)) then
          k2 t8
        else
          kn (IntKind.i64.wrap (t8 + 1))
    else
      (bif ((!r12) == false) then (m28 1 1000000000 []) else some false).bind fun r16 =>
      bif (((!r12) || (!r16)) == false) then
        (bif (((!r12) || (!r16)) == false) then (m28 0 200000 [x11.2.2.1]) else some false).bind fun r17 =>
        bif (((!r12) || (!r16)) || (!r17)) then
          k2 t8
        else
          kn (IntKind.i64.wrap (t8 + 1))
      else
        (bif (((!r12) || (!r16)) == false) then (m28 0 200000 []) else some false).bind fun r18 =>
        bif (((!r12) || (!r16)) || (!r18)) then
          k2 t8
        else
          kn (IntKind.i64.wrap (t8 + 1))
  else
    k1
noncomputable def l19_2 {R : Type} (t0 : (List T38)) (t7 : Int) (o0 : (List Int)) (k1 : Option R) (k2 : Int → Option R) : Nat → Int → Option R
  | 0, _ => none
  | n + 1, t8 => s19_2 t0 t7 o0 (l19_2 t0 t7 o0 k1 k2 n) k1 k2 t8
noncomputable def L19_2 : LE := ⟨3, 1, ⟨[(0, (.dat (.sl G38))), (1, (.fn 29 (.scons (.box 0 [] 0) .snil))), (7, (.dat (.int .i64))), (8, (.dat (.int .i64)))], [(.box (.dat (.sl (.int .i64))))]⟩, fun R n x k => l19_2 x.1.1 x.1.2.2.1 x.2.1 (k (.exit 0) ⟨[], [(.box (.dat (.sl (.int .i64)) x.2.1))]⟩) (fun y0 => k .ret ⟨[(4, (.dat (.int .i64) y0))], [(.box (.dat (.sl (.int .i64)) x.2.1))]⟩) n x.1.2.2.2.1⟩
noncomputable def C19i39 : Cfg := mkCfg [(3, ⟨[0, 1, 7, 8], []⟩)] [(3, (⟨[], []⟩, ⟨[4], []⟩))] (([(0, L19_2)] : List (Nat × LE)).map (·.2))
theorem ek19_2 : EOk E19i39 C19i39 Try.f39.ntmps (bodyL Try.f39 0) L19_2 := eok_of (e := L19_2) (fun R x Kn k => s19_2 x.1.1 x.1.2.2.1 x.2.1 (fun v0 => Kn ((x.1.1, ((), ()), x.1.2.2.1, v0, ()), (x.2.1, ()))) (k (.exit 0) ⟨[], [(.box (.dat (.sl (.int .i64)) x.2.1))]⟩) (fun y0 => k .ret ⟨[(4, (.dat (.int .i64) y0))], [(.box (.dat (.sl (.int .i64)) x.2.1))]⟩) x.1.2.2.2.1) (fun _ _ _ => rfl) (fun _ _ _ _ => rfl) (fun R x Kn k => by kernel_rfl)
theorem lm19i39 : ∀ c, Try.f39.body = some c → LmOk E19i39 C19i39 Try.f39.ntmps c := lmOk_of (ps := [(0, L19_2)]) (by kernel_rfl) (by kernel_rfl) ⟨ek19_2, trivial⟩
noncomputable def c19i39 : CmE := inl E19i39 C19i39 39 Try.f39
theorem d19i39 : CmOk Try.prog c19i39 := inl_ok (E := E19i39) ok19i39 ord lm19i39 Try.func39 ca39

theorem ca30 : callable Try.prog 30 := ⟨Try.f30, Try.func30, by kernel_rfl, by kernel_rfl⟩
noncomputable def E19i30 : Env := mkEnv2 Try.prog [] [c19i39]
theorem ok19i30 : EnvOk E19i30 := mkEnv2_ok (by simp) (by simp only [List.mem_cons, List.not_mem_nil, or_false, forall_eq]; exact d19i39)
noncomputable def C19i30 : Cfg := noCfg
theorem lm19i30 : ∀ c, Try.f30.body = some c → LmOk E19i30 C19i30 Try.f30.ntmps c := fun _ _ => noCfg_lm
noncomputable def c19i30 : CmE := inl E19i30 C19i30 30 Try.f30
theorem d19i30 : CmOk Try.prog c19i30 := inl_ok (E := E19i30) ok19i30 ord lm19i30 Try.func30 ca30

theorem ca19 : callable Try.prog 19 := ⟨Try.f19, Try.func19, by kernel_rfl, by kernel_rfl⟩
noncomputable def E19 : Env := mkEnv2 Try.prog [e28] [c19i30]
theorem ok19 : EnvOk E19 := mkEnv2_ok (by simp only [List.mem_cons, List.not_mem_nil, or_false, forall_eq]; exact p28) (by simp only [List.mem_cons, List.not_mem_nil, or_false, forall_eq]; exact d19i30)
/-- a round of a loop of consol/offer.right -/
noncomputable def s19_1 {R : Type} (t73 : (List Int)) (t74 : Int) (kn : Int → Int → Option R) (k1 : Option R) (k2 : Option R) (t9 : Int) (t75 : Int) : Option R :=
  bif (decide (t75 < t74)) then
    (idx t73 t75).bind fun x9 =>
    (m28 0 (IntKind.i64.wrap (1000000000 - t9)) [x9]).bind fun r10 =>
    bif (!r10) then
      k2
    else
      kn (IntKind.i64.wrap (t9 + x9)) (IntKind.i64.wrap (t75 + 1))
  else
    k1
noncomputable def l19_1 {R : Type} (t73 : (List Int)) (t74 : Int) (k1 : Option R) (k2 : Option R) : Nat → Int → Int → Option R
  | 0, _, _ => none
  | n + 1, t9, t75 => s19_1 t73 t74 (l19_1 t73 t74 k1 k2 n) k1 k2 t9 t75
noncomputable def L19_1 : LE := ⟨8, 0, ⟨[(1, (.dat (.sl G38))), (5, (.box 0 [] 0)), (9, (.dat (.int .i64))), (73, (.dat (.sl (.int .i64)))), (74, (.dat (.int .i64))), (75, (.dat (.int .i64)))], [(.box (.dat (.sl (.int .i64))))]⟩, fun R n x k => l19_1 x.1.2.2.2.1 x.1.2.2.2.2.1 (k (.exit 0) ⟨[(1, (.dat (.sl G38) x.1.1)), (5, (.box 0 [] 0))], [(.box (.dat (.sl (.int .i64)) x.2.1))]⟩) (k .ret ⟨[(6, (.dat .bool false))], []⟩) n x.1.2.2.1 x.1.2.2.2.2.2.1⟩
noncomputable def C19 : Cfg := mkCfg [(8, ⟨[1, 5, 9, 73, 74, 75], []⟩)] [(8, (⟨[1, 5], []⟩, ⟨[6], []⟩))] (([(0, L19_1)] : List (Nat × LE)).map (·.2))
theorem ek19_1 : EOk E19 C19 Try.f19.ntmps (bodyL Try.f19 0) L19_1 := eok_of (e := L19_1) (fun R x Kn k => s19_1 x.1.2.2.2.1 x.1.2.2.2.2.1 (fun v0 v1 => Kn ((x.1.1, (), v0, x.1.2.2.2.1, x.1.2.2.2.2.1, v1, ()), (x.2.1, ()))) (k (.exit 0) ⟨[(1, (.dat (.sl G38) x.1.1)), (5, (.box 0 [] 0))], [(.box (.dat (.sl (.int .i64)) x.2.1))]⟩) (k .ret ⟨[(6, (.dat .bool false))], []⟩) x.1.2.2.1 x.1.2.2.2.2.2.1) (fun _ _ _ => rfl) (fun _ _ _ _ => rfl) (fun R x Kn k => by kernel_rfl)
theorem lm19 : ∀ c, Try.f19.body = some c → LmOk E19 C19 Try.f19.ntmps c := lmOk_of (ps := [(0, L19_1)]) (by kernel_rfl) (by kernel_rfl) ⟨ek19_1, trivial⟩
noncomputable def m19 (a0 : T22) (a1 : (List T38)) (a2 : (List Int)) : Option (Bool) :=
  (m28 0 399 [a0.1, a0.2.1]).bind fun r1 =>
  (m28 0 200000 [a0.2.2.1, a0.2.2.2.1]).bind fun r2 =>
  bif (((!r1) || (!(r2 && (decide (a0.2.2.1 ≤ a0.2.2.2.1))))) == false) then
    (bif (((!r1) || (!(r2 && (decide (a0.2.2.1 ≤ a0.2.2.2.1))))) == false) then (m28 0 10000 [a0.2.2.2.2.1, a0.2.2.2.2.2.1]) else some false).bind fun r3 =>
    bif ((((!r1) || (!(r2 && (decide (a0.2.2.1 ≤ a0.2.2.2.1))))) || (!r3)) == false) then
      (bif ((((!r1) || (!(r2 && (decide (a0.2.2.1 ≤ a0.2.2.2.1))))) || (!r3)) == false) then (m28 0 1000000000 [a0.2.2.2.2.2.2.1, a0.2.2.2.2.2.2.2.1]) else some false).bind fun r4 =>
      bif (((((((!r1) || (!(r2 && (decide (a0.2.2.1 ≤ a0.2.2.2.1))))) || (!r3)) || (!r4)) || (decide (a0.2.2.2.2.2.2.1 > a0.2.2.2.2.2.2.2.1))) || (decide ((List.length a2 : Int) > 20000))) || (decide ((List.length a1 : Int) > 2000))) then
        some false
      else
        l19_1 a2 (List.length a2 : Int) (
            l19_2 a1 (List.length a1 : Int) a2 (
                some true) (fun y19 =>
                some (!(decide (y19 ≥ 0)))) FUEL 0) (
            some false) FUEL 0 0
    else
      (bif ((((!r1) || (!(r2 && (decide (a0.2.2.1 ≤ a0.2.2.2.1))))) || (!r3)) == false) then (m28 0 1000000000 []) else some false).bind fun r5 =>
      bif (((((((!r1) || (!(r2 && (decide (a0.2.2.1 ≤ a0.2.2.2.1))))) || (!r3)) || (!r5)) || (decide (a0.2.2.2.2.2.2.1 > a0.2.2.2.2.2.2.2.1))) || (decide ((List.length a2 : Int) > 20000))) || (decide ((List.length a1 : Int) > 2000))) then
        some false
      else
        l19_1 a2 (List.length a2 : Int) (
            l19_2 a1 (List.length a1 : Int) a2 (
                some true) (fun y20 =>
                some (!(decide (y20 ≥ 0)))) FUEL 0) (
            some false) FUEL 0 0
  else
    (bif (((!r1) || (!(r2 && (decide (a0.2.2.1 ≤ a0.2.2.2.1))))) == false) then (m28 0 10000 []) else some false).bind fun r6 =>
    bif ((((!r1) || (!(r2 && (decide (a0.2.2.1 ≤ a0.2.2.2.1))))) || (!r6)) == false) then
      (bif ((((!r1) || (!(r2 && (decide (a0.2.2.1 ≤ a0.2.2.2.1))))) || (!r6)) == false) then (m28 0 1000000000 [a0.2.2.2.2.2.2.1, a0.2.2.2.2.2.2.2.1]) else some false).bind fun r7 =>
      bif (((((((!r1) || (!(r2 && (decide (a0.2.2.1 ≤ a0.2.2.2.1))))) || (!r6)) || (!r7)) || (decide (a0.2.2.2.2.2.2.1 > a0.2.2.2.2.2.2.2.1))) || (decide ((List.length a2 : Int) > 20000))) || (decide ((List.length a1 : Int) > 2000))) then
        some false
      else
        l19_1 a2 (List.length a2 : Int) (
            l19_2 a1 (List.length a1 : Int) a2 (
                some true) (fun y21 =>
                some (!(decide (y21 ≥ 0)))) FUEL 0) (
            some false) FUEL 0 0
    else
      (bif ((((!r1) || (!(r2 && (decide (a0.2.2.1 ≤ a0.2.2.2.1))))) || (!r6)) == false) then (m28 0 1000000000 []) else some false).bind fun r8 =>
      bif (((((((!r1) || (!(r2 && (decide (a0.2.2.1 ≤ a0.2.2.2.1))))) || (!r6)) || (!r8)) || (decide (a0.2.2.2.2.2.2.1 > a0.2.2.2.2.2.2.2.1))) || (decide ((List.length a2 : Int) > 20000))) || (decide ((List.length a1 : Int) > 2000))) then
        some false
      else
        l19_1 a2 (List.length a2 : Int) (
            l19_2 a1 (List.length a1 : Int) a2 (
                some true) (fun y22 =>
                some (!(decide (y22 ≥ 0)))) FUEL 0) (
            some false) FUEL 0 0
noncomputable def e19 : PmE := entry 19 [G22, (.sl G38), (.sl (.int .i64))] false .bool (fun x => m19 x.1 x.2.1 x.2.2.1)
theorem q19 (x : tyL [G22, (.sl G38), (.sl (.int .i64))]) : execF E19 C19 Try.f19 (datL [G22, (.sl G38), (.sl (.int .i64))] x) [] (retK false .bool) = m19 x.1 x.2.1 x.2.2.1 := by kernel_rfl
theorem p19 : PmOk Try.prog e19 := pm_ok (E := E19) ok19 ord lm19 Try.func19 ca19 q19

theorem ca20 : callable Try.prog 20 := ⟨Try.f20, Try.func20, by kernel_rfl, by kernel_rfl⟩
/-! 20: slices.Clone[[]int,int] -/
noncomputable def c20 : CmE := ownE 20 [(.sl (.int .i64))] (.int .i64) (fun x => cloneM x.1)
theorem d20 : CmOk Try.prog c20 := own_ok ca20 (clone_run (g := (.int .i64)) ord Try.func20 Try.underlying25 rfl (by kernel_rfl) (fun _ => by kernel_rfl) (by kernel_rfl) (fun _ => by kernel_rfl))

/-! 41: cmp.isNaN[int] -/
theorem ca41 : callable Try.prog 41 := ⟨Try.f41, Try.func41, by kernel_rfl, by kernel_rfl⟩
noncomputable def E41 : Env := mkEnv2 Try.prog [] []
theorem ok41 : EnvOk E41 := mkEnv2_ok (by simp) (by simp)
noncomputable def C41 : Cfg := noCfg
theorem lm41 : ∀ c, Try.f41.body = some c → LmOk E41 C41 Try.f41.ntmps c := fun _ _ => noCfg_lm
noncomputable def m41 (a0 : Int) : Option (Bool) :=
  some (a0 != a0)
noncomputable def e41 : PmE := entry 41 [(.int .i64)] false .bool (fun x => m41 x.1)
theorem q41 (x : tyL [(.int .i64)]) : execF E41 C41 Try.f41 (datL [(.int .i64)] x) [] (retK false .bool) = m41 x.1 := by kernel_rfl
theorem p41 : PmOk Try.prog e41 := pm_ok (E := E41) ok41 ord lm41 Try.func41 ca41 q41

/-! 34: cmp.Compare[int] -/
theorem ca34 : callable Try.prog 34 := ⟨Try.f34, Try.func34, by kernel_rfl, by kernel_rfl⟩
noncomputable def E34 : Env := mkEnv2 Try.prog [e41] []
theorem ok34 : EnvOk E34 := mkEnv2_ok (by simp only [List.mem_cons, List.not_mem_nil, or_false, forall_eq]; exact p41) (by simp)
noncomputable def C34 : Cfg := noCfg
theorem lm34 : ∀ c, Try.f34.body = some c → LmOk E34 C34 Try.f34.ntmps c := fun _ _ => noCfg_lm
noncomputable def m34 (a0 : Int) (a1 : Int) : Option (Int) :=
  (m41 a0).bind fun r1 =>
  (m41 a1).bind fun r2 =>
  bif r1 then
    bif r2 then
      some 0
    else
      some (-1)
  else
    bif r2 then
      some 1
    else
      bif (decide (a0 < a1)) then
        some (-1)
      else
        bif (decide (a0 > a1)) then
          some 1
        else
          some 0
noncomputable def e34 : PmE := entry 34 [(.int .i64), (.int .i64)] false (.int .i64) (fun x => m34 x.1 x.2.1)
theorem q34 (x : tyL [(.int .i64), (.int .i64)]) : execF E34 C34 Try.f34 (datL [(.int .i64), (.int .i64)] x) [] (retK false (.int .i64)) = m34 x.1 x.2.1 := by kernel_rfl
theorem p34 : PmOk Try.prog e34 := pm_ok (E := E34) ok34 ord lm34 Try.func34 ca34 q34

/-! 21: consol/offer.share -/
theorem ca31 : callable Try.prog 31 := ⟨Try.f31, Try.func31, by kernel_rfl, by kernel_rfl⟩
noncomputable def E21i31 : Env := mkEnv2 Try.prog [] []
theorem ok21i31 : EnvOk E21i31 := mkEnv2_ok (by simp) (by simp)
noncomputable def C21i31 : Cfg := noCfg
theorem lm21i31 : ∀ c, Try.f31.body = some c → LmOk E21i31 C21i31 Try.f31.ntmps c := fun _ _ => noCfg_lm
noncomputable def c21i31 : CmE := inl E21i31 C21i31 31 Try.f31
theorem d21i31 : CmOk Try.prog c21i31 := inl_ok (E := E21i31) ok21i31 ord lm21i31 Try.func31 ca31

theorem ca33 : callable Try.prog 33 := ⟨Try.f33, Try.func33, by kernel_rfl, by kernel_rfl⟩
noncomputable def E21i33 : Env := mkEnv2 Try.prog [e34] [c21i31]
theorem ok21i33 : EnvOk E21i33 := mkEnv2_ok (by simp only [List.mem_cons, List.not_mem_nil, or_false, forall_eq]; exact p34) (by simp only [List.mem_cons, List.not_mem_nil, or_false, forall_eq]; exact d21i31)
noncomputable def C21i33 : Cfg := noCfg
theorem lm21i33 : ∀ c, Try.f33.body = some c → LmOk E21i33 C21i33 Try.f33.ntmps c := fun _ _ => noCfg_lm
noncomputable def c21i33 : CmE := inl E21i33 C21i33 33 Try.f33
theorem d21i33 : CmOk Try.prog c21i33 := inl_ok (E := E21i33) ok21i33 ord lm21i33 Try.func33 ca33

theorem ca43 : callable Try.prog 43 := ⟨Try.f43, Try.func43, by kernel_rfl, by kernel_rfl⟩
noncomputable def E21i43 : Env := mkEnv2 Try.prog [] [c21i33]
theorem ok21i43 : EnvOk E21i43 := mkEnv2_ok (by simp) (by simp only [List.mem_cons, List.not_mem_nil, or_false, forall_eq]; exact d21i33)
/-- a round of a loop of slices.insertionSortCmpFunc[int] -/
noncomputable def s21_3 {R : Type} (t1 : Int) (o0 : (List Int)) (o1 : Int) (o2 : Int) (kn : Int → (List Int) → Option R) (k1 : (List Int) → Option R) (t9 : Int) (o4 : (List Int)) : Option R :=
  asrt ((decide (t9 > t1)) == true) (decide (0 ≤ t9) && decide (t9 < (List.length o4 : Int))) (
    ((bif ((decide (t9 > t1)) == true) then (o4)[(t9 : Int).toNat]? else some 0)).bind fun x8 =>
    asrt ((decide (t9 > t1)) == true) (decide (0 ≤ (IntKind.i64.wrap (t9 - 1))) && decide ((IntKind.i64.wrap (t9 - 1)) < (List.length o4 : Int))) (
      ((bif ((decide (t9 > t1)) == true) then (o4)[((IntKind.i64.wrap (t9 - 1)) : Int).toNat]? else some 0)).bind fun x9 =>
      bif ((decide (t9 > t1)) == true) then
        (idx o0 x9).bind fun x10 =>
        asrt true (o1 != 0) (
          (idx o0 x8).bind fun x11 =>
          asrt true (o1 != 0) (
            (m34 (Int.tmod (IntKind.i64.wrap (x10 * o2)) o1) (Int.tmod (IntKind.i64.wrap (x11 * o2)) o1)).bind fun r12 =>
            bif ((decide (t9 > t1)) && (decide (r12 < 0))) then
              asrt true (decide (0 ≤ (IntKind.i64.wrap (t9 - 1))) && decide ((IntKind.i64.wrap (t9 - 1)) < (List.length o4 : Int))) (
                ((o4)[((IntKind.i64.wrap (t9 - 1)) : Int).toNat]?).bind fun x13 =>
                asrt true (decide (0 ≤ t9) && decide (t9 < (List.length o4 : Int))) (
                  ((o4)[(t9 : Int).toNat]?).bind fun x14 =>
                  asrt true (decide (0 ≤ t9) && decide (t9 < (List.length o4 : Int))) (
                    ((o4)[(t9 : Int).toNat]?).bind fun x15 =>
                    asrt true (decide (0 ≤ (IntKind.i64.wrap (t9 - 1))) && decide ((IntKind.i64.wrap (t9 - 1)) < (List.length (List.set o4 (t9 : Int).toNat x13) : Int))) (
                      (((List.set o4 (t9 : Int).toNat x13))[((IntKind.i64.wrap (t9 - 1)) : Int).toNat]?).bind fun x16 =>
                      kn (IntKind.i64.wrap (t9 - 1)) (List.set (List.set o4 (t9 : Int).toNat x13) ((IntKind.i64.wrap (t9 - 1)) : Int).toNat x14)))))
            else
              k1 o4))
      else
        bif ((decide (t9 > t1)) && false) then
          asrt true (decide (0 ≤ (IntKind.i64.wrap (t9 - 1))) && decide ((IntKind.i64.wrap (t9 - 1)) < (List.length o4 : Int))) (
            ((o4)[((IntKind.i64.wrap (t9 - 1)) : Int).toNat]?).bind fun x17 =>
            asrt true (decide (0 ≤ t9) && decide (t9 < (List.length o4 : Int))) (
              ((o4)[(t9 : Int).toNat]?).bind fun x18 =>
              asrt true (decide (0 ≤ t9) && decide (t9 < (List.length o4 : Int))) (
                ((o4)[(t9 : Int).toNat]?).bind fun x19 =>
                asrt true (decide (0 ≤ (IntKind.i64.wrap (t9 - 1))) && decide ((IntKind.i64.wrap (t9 - 1)) < (List.length (List.set o4 (t9 : Int).toNat x17) : Int))) (
                  (((List.set o4 (t9 : Int).toNat x17))[((IntKind.i64.wrap (t9 - 1)) : Int).toNat]?).bind fun x20 =>
                  kn (IntKind.i64.wrap (t9 - 1)) (List.set (List.set o4 (t9 : Int).toNat x17) ((IntKind.i64.wrap (t9 - 1)) : Int).toNat x18)))))
        else
          k1 o4))
noncomputable def l21_3 {R : Type} (t1 : Int) (o0 : (List Int)) (o1 : Int) (o2 : Int) (k1 : (List Int) → Option R) : Nat → Int → (List Int) → Option R
  | 0, _, _ => none
  | n + 1, t9, o4 => s21_3 t1 o0 o1 o2 (l21_3 t1 o0 o1 o2 k1 n) k1 t9 o4
noncomputable def L21_3 : LE := ⟨5, 6, ⟨[(0, (.own 4)), (1, (.dat (.int .i64))), (2, (.dat (.int .i64))), (3, (.fn 33 (.scons (.box 5 [] 0) .snil))), (8, (.dat (.int .i64))), (9, (.dat (.int .i64)))], [(.box (.dat (.sl (.int .i64)))), (.box (.dat (.int .i64))), (.box (.dat (.int .i64))), .dead, (.arr (.int .i64)), (.box (.fn 31 (.scons (.box 0 [] 0) (.scons (.box 2 [] 0) (.scons (.box 1 [] 0) .snil)))))]⟩, fun R n x k => l21_3 x.1.2.1 x.2.1 x.2.2.1 x.2.2.2.1 (fun y0 => k (.exit 2) ⟨[(0, (.own 4)), (1, (.dat (.int .i64) x.1.2.1)), (2, (.dat (.int .i64) x.1.2.2.1)), (3, (.fn 33 (.scons (.box 5 [] 0) .snil))), (8, (.dat (.int .i64) x.1.2.2.2.2.1))], [(.box (.dat (.sl (.int .i64)) x.2.1)), (.box (.dat (.int .i64) x.2.2.1)), (.box (.dat (.int .i64) x.2.2.2.1)), .dead, (.arr (.int .i64) y0), (.box (.fn 31 (.scons (.box 0 [] 0) (.scons (.box 2 [] 0) (.scons (.box 1 [] 0) .snil)))))]⟩) n x.1.2.2.2.2.2.1 x.2.2.2.2.2.1⟩
/-- a round of a loop of slices.insertionSortCmpFunc[int] -/
noncomputable def s21_4 {R : Type} (t1 : Int) (t2 : Int) (o0 : (List Int)) (o1 : Int) (o2 : Int) (kn : Int → (List Int) → Option R) (k1 : (List Int) → Option R) (t8 : Int) (o4 : (List Int)) : Option R :=
  bif (decide (t8 < t2)) then
    l21_3 t1 o0 o1 o2 (fun y21 =>
        kn (IntKind.i64.wrap (t8 + 1)) y21) FUEL t8 o4
  else
    k1 o4
noncomputable def l21_4 {R : Type} (t1 : Int) (t2 : Int) (o0 : (List Int)) (o1 : Int) (o2 : Int) (k1 : (List Int) → Option R) : Nat → Int → (List Int) → Option R
  | 0, _, _ => none
  | n + 1, t8, o4 => s21_4 t1 t2 o0 o1 o2 (l21_4 t1 t2 o0 o1 o2 k1 n) k1 t8 o4
noncomputable def L21_4 : LE := ⟨2, 6, ⟨[(0, (.own 4)), (1, (.dat (.int .i64))), (2, (.dat (.int .i64))), (3, (.fn 33 (.scons (.box 5 [] 0) .snil))), (8, (.dat (.int .i64)))], [(.box (.dat (.sl (.int .i64)))), (.box (.dat (.int .i64))), (.box (.dat (.int .i64))), .dead, (.arr (.int .i64)), (.box (.fn 31 (.scons (.box 0 [] 0) (.scons (.box 2 [] 0) (.scons (.box 1 [] 0) .snil)))))]⟩, fun R n x k => l21_4 x.1.2.1 x.1.2.2.1 x.2.1 x.2.2.1 x.2.2.2.1 (fun y0 => k (.exit 0) ⟨[], [(.box (.dat (.sl (.int .i64)) x.2.1)), (.box (.dat (.int .i64) x.2.2.1)), (.box (.dat (.int .i64) x.2.2.2.1)), .dead, (.arr (.int .i64) y0), (.box (.fn 31 (.scons (.box 0 [] 0) (.scons (.box 2 [] 0) (.scons (.box 1 [] 0) .snil)))))]⟩) n x.1.2.2.2.2.1 x.2.2.2.2.2.1⟩
noncomputable def C21i43 : Cfg := mkCfg [(2, ⟨[0, 1, 2, 3, 8], []⟩), (5, ⟨[0, 1, 2, 3, 8, 9], []⟩)] [(2, (⟨[], []⟩, ⟨[], []⟩)), (5, (⟨[0, 1, 2, 3, 8], []⟩, ⟨[], []⟩))] (([(1, L21_3), (0, L21_4)] : List (Nat × LE)).map (·.2))
theorem ek21_3 : EOk E21i43 C21i43 Try.f43.ntmps (bodyL Try.f43 1) L21_3 := eok_of (e := L21_3) (fun R x Kn k => s21_3 x.1.2.1 x.2.1 x.2.2.1 x.2.2.2.1 (fun v0 v1 => Kn (((), x.1.2.1, x.1.2.2.1, ((), ()), x.1.2.2.2.2.1, v0, ()), (x.2.1, x.2.2.1, x.2.2.2.1, (), v1, ((), (), (), ()), ()))) (fun y0 => k (.exit 2) ⟨[(0, (.own 4)), (1, (.dat (.int .i64) x.1.2.1)), (2, (.dat (.int .i64) x.1.2.2.1)), (3, (.fn 33 (.scons (.box 5 [] 0) .snil))), (8, (.dat (.int .i64) x.1.2.2.2.2.1))], [(.box (.dat (.sl (.int .i64)) x.2.1)), (.box (.dat (.int .i64) x.2.2.1)), (.box (.dat (.int .i64) x.2.2.2.1)), .dead, (.arr (.int .i64) y0), (.box (.fn 31 (.scons (.box 0 [] 0) (.scons (.box 2 [] 0) (.scons (.box 1 [] 0) .snil)))))]⟩) x.1.2.2.2.2.2.1 x.2.2.2.2.2.1) (fun _ _ _ => rfl) (fun _ _ _ _ => rfl) (fun R x Kn k => by kernel_rfl)
theorem ek21_4 : EOk E21i43 C21i43 Try.f43.ntmps (bodyL Try.f43 0) L21_4 := eok_of (e := L21_4) (fun R x Kn k => s21_4 x.1.2.1 x.1.2.2.1 x.2.1 x.2.2.1 x.2.2.2.1 (fun v0 v1 => Kn (((), x.1.2.1, x.1.2.2.1, ((), ()), v0, ()), (x.2.1, x.2.2.1, x.2.2.2.1, (), v1, ((), (), (), ()), ()))) (fun y0 => k (.exit 0) ⟨[], [(.box (.dat (.sl (.int .i64)) x.2.1)), (.box (.dat (.int .i64) x.2.2.1)), (.box (.dat (.int .i64) x.2.2.2.1)), .dead, (.arr (.int .i64) y0), (.box (.fn 31 (.scons (.box 0 [] 0) (.scons (.box 2 [] 0) (.scons (.box 1 [] 0) .snil)))))]⟩) x.1.2.2.2.2.1 x.2.2.2.2.2.1) (fun _ _ _ => rfl) (fun _ _ _ _ => rfl) (fun R x Kn k => by kernel_rfl)
theorem lm21i43 : ∀ c, Try.f43.body = some c → LmOk E21i43 C21i43 Try.f43.ntmps c := lmOk_of (ps := [(1, L21_3), (0, L21_4)]) (by kernel_rfl) (by kernel_rfl) ⟨ek21_3, ek21_4, trivial⟩
noncomputable def c21i43 : CmE := inl E21i43 C21i43 43 Try.f43
theorem d21i43 : CmOk Try.prog c21i43 := inl_ok (E := E21i43) ok21i43 ord lm21i43 Try.func43 ca43

theorem ca40 : callable Try.prog 40 := ⟨Try.f40, Try.func40, by kernel_rfl, by kernel_rfl⟩
noncomputable def E21i40 : Env := mkEnv2 Try.prog [] [c21i43]
theorem ok21i40 : EnvOk E21i40 := mkEnv2_ok (by simp) (by simp only [List.mem_cons, List.not_mem_nil, or_false, forall_eq]; exact d21i43)
/-- a round of a loop of slices.stableCmpFunc[int] -/
noncomputable def s21_5 {R : Type} (t1 : Int) (t6 : Int) (o0 : (List Int)) (o1 : Int) (o2 : Int) (kn : Int → Int → (List Int) → Option R) (k1 : Int → (List Int) → Option R) (t7 : Int) (t8 : Int) (o4 : (List Int)) : Option R :=
  bif (decide (t8 ≤ t1)) then
    l21_4 t7 t8 o0 o1 o2 (fun y22 =>
        kn t8 (IntKind.i64.wrap (t8 + t6)) y22) FUEL (IntKind.i64.wrap (t7 + 1)) o4
  else
    k1 t7 o4
noncomputable def l21_5 {R : Type} (t1 : Int) (t6 : Int) (o0 : (List Int)) (o1 : Int) (o2 : Int) (k1 : Int → (List Int) → Option R) : Nat → Int → Int → (List Int) → Option R
  | 0, _, _, _ => none
  | n + 1, t7, t8, o4 => s21_5 t1 t6 o0 o1 o2 (l21_5 t1 t6 o0 o1 o2 k1 n) k1 t7 t8 o4
noncomputable def L21_5 : LE := ⟨3, 6, ⟨[(0, (.own 4)), (1, (.dat (.int .i64))), (2, (.fn 33 (.scons (.box 5 [] 0) .snil))), (6, (.dat (.int .i64))), (7, (.dat (.int .i64))), (8, (.dat (.int .i64)))], [(.box (.dat (.sl (.int .i64)))), (.box (.dat (.int .i64))), (.box (.dat (.int .i64))), .dead, (.arr (.int .i64)), (.box (.fn 31 (.scons (.box 0 [] 0) (.scons (.box 2 [] 0) (.scons (.box 1 [] 0) .snil)))))]⟩, fun R n x k => l21_5 x.1.2.1 x.1.2.2.2.1 x.2.1 x.2.2.1 x.2.2.2.1 (fun y0 y1 => k (.exit 0) ⟨[(0, (.own 4)), (1, (.dat (.int .i64) x.1.2.1)), (2, (.fn 33 (.scons (.box 5 [] 0) .snil))), (6, (.dat (.int .i64) x.1.2.2.2.1)), (7, (.dat (.int .i64) y0))], [(.box (.dat (.sl (.int .i64)) x.2.1)), (.box (.dat (.int .i64) x.2.2.1)), (.box (.dat (.int .i64) x.2.2.2.1)), .dead, (.arr (.int .i64) y1), (.box (.fn 31 (.scons (.box 0 [] 0) (.scons (.box 2 [] 0) (.scons (.box 1 [] 0) .snil)))))]⟩) n x.1.2.2.2.2.1 x.1.2.2.2.2.2.1 x.2.2.2.2.2.1⟩
/-- a round of a loop of slices.stableCmpFunc[int] -/
noncomputable def s21_6 {R : Type} (t1 : Int) (t8 : Int) (kn : Option R) (k1 : Option R) : Option R :=
  bif (decide (t8 ≤ t1)) then
    none
  else
    k1
noncomputable def l21_6 {R : Type} (t1 : Int) (t8 : Int) (k1 : Option R) : Nat → Option R
  | 0 => none
  | n + 1 => s21_6 t1 t8 (l21_6 t1 t8 k1 n) k1
noncomputable def L21_6 : LE := ⟨10, 6, ⟨[(0, (.own 4)), (1, (.dat (.int .i64))), (2, (.fn 33 (.scons (.box 5 [] 0) .snil))), (6, (.dat (.int .i64))), (7, (.dat (.int .i64))), (8, (.dat (.int .i64)))], [(.box (.dat (.sl (.int .i64)))), (.box (.dat (.int .i64))), (.box (.dat (.int .i64))), .dead, (.arr (.int .i64)), (.box (.fn 31 (.scons (.box 0 [] 0) (.scons (.box 2 [] 0) (.scons (.box 1 [] 0) .snil)))))]⟩, fun R n x k => l21_6 x.1.2.1 x.1.2.2.2.2.2.1 (k (.exit 4) ⟨[(0, (.own 4)), (1, (.dat (.int .i64) x.1.2.1)), (2, (.fn 33 (.scons (.box 5 [] 0) .snil))), (6, (.dat (.int .i64) x.1.2.2.2.1)), (7, (.dat (.int .i64) x.1.2.2.2.2.1))], [(.box (.dat (.sl (.int .i64)) x.2.1)), (.box (.dat (.int .i64) x.2.2.1)), (.box (.dat (.int .i64) x.2.2.2.1)), .dead, (.arr (.int .i64) x.2.2.2.2.2.1), (.box (.fn 31 (.scons (.box 0 [] 0) (.scons (.box 2 [] 0) (.scons (.box 1 [] 0) .snil)))))]⟩) n⟩
/-- a round of a loop of slices.stableCmpFunc[int] -/
noncomputable def s21_7 {R : Type} (t1 : Int) (kn : Int → Option R) (k1 : Option R) (t6 : Int) : Option R :=
  bif (decide (t6 < t1)) then
    l21_6 t1 (IntKind.i64.wrap (2 * t6)) (
        bif (decide ((IntKind.i64.wrap (0 + t6)) < t1)) then
          none
        else
          kn (IntKind.i64.wrap (t6 * 2))) FUEL
  else
    k1
noncomputable def l21_7 {R : Type} (t1 : Int) (k1 : Option R) : Nat → Int → Option R
  | 0, _ => none
  | n + 1, t6 => s21_7 t1 (l21_7 t1 k1 n) k1 t6
noncomputable def L21_7 : LE := ⟨8, 6, ⟨[(0, (.own 4)), (1, (.dat (.int .i64))), (2, (.fn 33 (.scons (.box 5 [] 0) .snil))), (6, (.dat (.int .i64)))], [(.box (.dat (.sl (.int .i64)))), (.box (.dat (.int .i64))), (.box (.dat (.int .i64))), .dead, (.arr (.int .i64)), (.box (.fn 31 (.scons (.box 0 [] 0) (.scons (.box 2 [] 0) (.scons (.box 1 [] 0) .snil)))))]⟩, fun R n x k => l21_7 x.1.2.1 (k (.exit 2) ⟨[], [(.box (.dat (.sl (.int .i64)) x.2.1)), (.box (.dat (.int .i64) x.2.2.1)), (.box (.dat (.int .i64) x.2.2.2.1)), .dead, (.arr (.int .i64) x.2.2.2.2.2.1), (.box (.fn 31 (.scons (.box 0 [] 0) (.scons (.box 2 [] 0) (.scons (.box 1 [] 0) .snil)))))]⟩) n x.1.2.2.2.1⟩
noncomputable def C21i40 : Cfg := mkCfg [(3, ⟨[0, 1, 2, 6, 7, 8], []⟩), (8, ⟨[0, 1, 2, 6], []⟩), (10, ⟨[0, 1, 2, 6, 7, 8], []⟩), (17, ⟨[0, 1, 2, 6], []⟩)] [(3, (⟨[0, 1, 2, 6, 7], []⟩, ⟨[], []⟩)), (8, (⟨[], []⟩, ⟨[], []⟩)), (10, (⟨[0, 1, 2, 6, 7], []⟩, ⟨[], []⟩))] (([(0, L21_5), (2, L21_6), (1, L21_7)] : List (Nat × LE)).map (·.2))
theorem ek21_5 : EOk E21i40 C21i40 Try.f40.ntmps (bodyL Try.f40 0) L21_5 := eok_of (e := L21_5) (fun R x Kn k => s21_5 x.1.2.1 x.1.2.2.2.1 x.2.1 x.2.2.1 x.2.2.2.1 (fun v0 v1 v2 => Kn (((), x.1.2.1, ((), ()), x.1.2.2.2.1, v0, v1, ()), (x.2.1, x.2.2.1, x.2.2.2.1, (), v2, ((), (), (), ()), ()))) (fun y0 y1 => k (.exit 0) ⟨[(0, (.own 4)), (1, (.dat (.int .i64) x.1.2.1)), (2, (.fn 33 (.scons (.box 5 [] 0) .snil))), (6, (.dat (.int .i64) x.1.2.2.2.1)), (7, (.dat (.int .i64) y0))], [(.box (.dat (.sl (.int .i64)) x.2.1)), (.box (.dat (.int .i64) x.2.2.1)), (.box (.dat (.int .i64) x.2.2.2.1)), .dead, (.arr (.int .i64) y1), (.box (.fn 31 (.scons (.box 0 [] 0) (.scons (.box 2 [] 0) (.scons (.box 1 [] 0) .snil)))))]⟩) x.1.2.2.2.2.1 x.1.2.2.2.2.2.1 x.2.2.2.2.2.1) (fun _ _ _ => rfl) (fun _ _ _ _ => rfl) (fun R x Kn k => by kernel_rfl)
theorem ek21_6 : EOk E21i40 C21i40 Try.f40.ntmps (bodyL Try.f40 2) L21_6 := eok_of (e := L21_6) (fun R x Kn k => s21_6 x.1.2.1 x.1.2.2.2.2.2.1 (Kn (((), x.1.2.1, ((), ()), x.1.2.2.2.1, x.1.2.2.2.2.1, x.1.2.2.2.2.2.1, ()), (x.2.1, x.2.2.1, x.2.2.2.1, (), x.2.2.2.2.2.1, ((), (), (), ()), ()))) (k (.exit 4) ⟨[(0, (.own 4)), (1, (.dat (.int .i64) x.1.2.1)), (2, (.fn 33 (.scons (.box 5 [] 0) .snil))), (6, (.dat (.int .i64) x.1.2.2.2.1)), (7, (.dat (.int .i64) x.1.2.2.2.2.1))], [(.box (.dat (.sl (.int .i64)) x.2.1)), (.box (.dat (.int .i64) x.2.2.1)), (.box (.dat (.int .i64) x.2.2.2.1)), .dead, (.arr (.int .i64) x.2.2.2.2.2.1), (.box (.fn 31 (.scons (.box 0 [] 0) (.scons (.box 2 [] 0) (.scons (.box 1 [] 0) .snil)))))]⟩)) (fun _ _ _ => rfl) (fun _ _ _ _ => rfl) (fun R x Kn k => by kernel_rfl)
theorem ek21_7 : EOk E21i40 C21i40 Try.f40.ntmps (bodyL Try.f40 1) L21_7 := eok_of (e := L21_7) (fun R x Kn k => s21_7 x.1.2.1 (fun v0 => Kn (((), x.1.2.1, ((), ()), v0, ()), (x.2.1, x.2.2.1, x.2.2.2.1, (), x.2.2.2.2.2.1, ((), (), (), ()), ()))) (k (.exit 2) ⟨[], [(.box (.dat (.sl (.int .i64)) x.2.1)), (.box (.dat (.int .i64) x.2.2.1)), (.box (.dat (.int .i64) x.2.2.2.1)), .dead, (.arr (.int .i64) x.2.2.2.2.2.1), (.box (.fn 31 (.scons (.box 0 [] 0) (.scons (.box 2 [] 0) (.scons (.box 1 [] 0) .snil)))))]⟩) x.1.2.2.2.1) (fun _ _ _ => rfl) (fun _ _ _ _ => rfl) (fun R x Kn k => by kernel_rfl)
theorem lm21i40 : ∀ c, Try.f40.body = some c → LmOk E21i40 C21i40 Try.f40.ntmps c := lmOk_of (ps := [(0, L21_5), (2, L21_6), (1, L21_7)]) (by kernel_rfl) (by kernel_rfl) ⟨ek21_5, ek21_6, ek21_7, trivial⟩
noncomputable def c21i40 : CmE := inl E21i40 C21i40 40 Try.f40
theorem d21i40 : CmOk Try.prog c21i40 := inl_ok (E := E21i40) ok21i40 ord lm21i40 Try.func40 ca40

theorem ca32 : callable Try.prog 32 := ⟨Try.f32, Try.func32, by kernel_rfl, by kernel_rfl⟩
noncomputable def E21i32 : Env := mkEnv2 Try.prog [] [c21i40]
theorem ok21i32 : EnvOk E21i32 := mkEnv2_ok (by simp) (by simp only [List.mem_cons, List.not_mem_nil, or_false, forall_eq]; exact d21i40)
noncomputable def C21i32 : Cfg := noCfg
theorem lm21i32 : ∀ c, Try.f32.body = some c → LmOk E21i32 C21i32 Try.f32.ntmps c := fun _ _ => noCfg_lm
noncomputable def c21i32 : CmE := inl E21i32 C21i32 32 Try.f32
theorem d21i32 : CmOk Try.prog c21i32 := inl_ok (E := E21i32) ok21i32 ord lm21i32 Try.func32 ca32

theorem ca21 : callable Try.prog 21 := ⟨Try.f21, Try.func21, by kernel_rfl, by kernel_rfl⟩
noncomputable def E21 : Env := mkEnv2 Try.prog [] [c21i32] [58]
theorem ok21 : EnvOk E21 := mkEnv2_ok (by simp) (by simp only [List.mem_cons, List.not_mem_nil, or_false, forall_eq]; exact d21i32)
/-- a round of a loop of consol/offer.share -/
noncomputable def s21_1 {R : Type} (t23 : (List Int)) (t24 : Int) (o1 : Int) (o2 : Int) (kn : Int → (List Int) → (List Int) → Option R) (k1 : (List Int) → (List Int) → Option R) (t25 : Int) (o3 : (List Int)) (o4 : (List Int)) : Option R :=
  bif (decide (t25 < t24)) then
    (idx t23 t25).bind fun x1 =>
    asrt true (o1 != 0) (
      asrt true (decide (0 ≤ t25) && decide (t25 < (List.length o3 : Int))) (
        ((o3)[(t25 : Int).toNat]?).bind fun x2 =>
        asrt true (decide (0 ≤ t25) && decide (t25 < (List.length o4 : Int))) (
          ((o4)[(t25 : Int).toNat]?).bind fun x3 =>
          kn (IntKind.i64.wrap (t25 + 1)) (List.set o3 (t25 : Int).toNat (IntKind.i64.wrap (Int.tdiv (IntKind.i64.wrap (x1 * o2)) o1))) (List.set o4 (t25 : Int).toNat t25))))
  else
    k1 o3 o4
noncomputable def l21_1 {R : Type} (t23 : (List Int)) (t24 : Int) (o1 : Int) (o2 : Int) (k1 : (List Int) → (List Int) → Option R) : Nat → Int → (List Int) → (List Int) → Option R
  | 0, _, _, _ => none
  | n + 1, t25, o3, o4 => s21_1 t23 t24 o1 o2 (l21_1 t23 t24 o1 o2 k1 n) k1 t25 o3 o4
noncomputable def L21_1 : LE := ⟨5, 0, ⟨[(3, (.box 0 [] 0)), (4, (.box 1 [] 0)), (5, (.box 2 [] 0)), (7, (.own 3)), (8, (.own 4)), (23, (.dat (.sl (.int .i64)))), (24, (.dat (.int .i64))), (25, (.dat (.int .i64)))], [(.box (.dat (.sl (.int .i64)))), (.box (.dat (.int .i64))), (.box (.dat (.int .i64))), (.arr (.int .i64)), (.arr (.int .i64))]⟩, fun R n x k => l21_1 x.1.2.2.2.2.2.1 x.1.2.2.2.2.2.2.1 x.2.2.1 x.2.2.2.1 (fun y0 y1 => k (.exit 0) ⟨[(3, (.box 0 [] 0)), (4, (.box 1 [] 0)), (5, (.box 2 [] 0)), (7, (.own 3)), (8, (.own 4))], [(.box (.dat (.sl (.int .i64)) x.2.1)), (.box (.dat (.int .i64) x.2.2.1)), (.box (.dat (.int .i64) x.2.2.2.1)), (.arr (.int .i64) y0), (.arr (.int .i64) y1)]⟩) n x.1.2.2.2.2.2.2.2.1 x.2.2.2.2.1 x.2.2.2.2.2.1⟩
/-- a round of a loop of consol/offer.share -/
noncomputable def s21_2 {R : Type} (t45 : Int) (o3 : (List Int)) (kn : Int → Int → Option R) (k1 : Int → Option R) (t11 : Int) (t46 : Int) : Option R :=
  bif (decide (t46 < t45)) then
    asrt true (decide (0 ≤ t46) && decide (t46 < (List.length o3 : Int))) (
      ((o3)[(t46 : Int).toNat]?).bind fun x6 =>
      kn (IntKind.i64.wrap (t11 - x6)) (IntKind.i64.wrap (t46 + 1)))
  else
    k1 t11
noncomputable def l21_2 {R : Type} (t45 : Int) (o3 : (List Int)) (k1 : Int → Option R) : Nat → Int → Int → Option R
  | 0, _, _ => none
  | n + 1, t11, t46 => s21_2 t45 o3 (l21_2 t45 o3 k1 n) k1 t11 t46
noncomputable def L21_2 : LE := ⟨12, 0, ⟨[(3, (.box 0 [] 0)), (4, (.box 1 [] 0)), (5, (.box 2 [] 0)), (7, (.own 3)), (8, (.own 4)), (11, (.dat (.int .i64))), (44, (.own 3)), (45, (.dat (.int .i64))), (46, (.dat (.int .i64)))], [(.box (.dat (.sl (.int .i64)))), (.box (.dat (.int .i64))), (.box (.dat (.int .i64))), (.arr (.int .i64)), (.arr (.int .i64))]⟩, fun R n x k => l21_2 x.1.2.2.2.2.2.2.2.1 x.2.2.2.2.1 (fun y0 => k (.exit 2) ⟨[(3, (.box 0 [] 0)), (4, (.box 1 [] 0)), (5, (.box 2 [] 0)), (7, (.own 3)), (8, (.own 4)), (11, (.dat (.int .i64) y0))], [(.box (.dat (.sl (.int .i64)) x.2.1)), (.box (.dat (.int .i64) x.2.2.1)), (.box (.dat (.int .i64) x.2.2.2.1)), (.arr (.int .i64) x.2.2.2.2.1), (.arr (.int .i64) x.2.2.2.2.2.1)]⟩) n x.1.2.2.2.2.2.1 x.1.2.2.2.2.2.2.2.2.1⟩
/-- a round of a loop of consol/offer.share -/
noncomputable def s21_8 {R : Type} (t60 : Nat) (t60_2 : Nat) (t61 : Int) (o1 : (List Int)) (kn : Int → (List Int) → Option R) (k1 : (List Int) → Option R) (t62 : Int) (o0 : (List Int)) : Option R :=
  bif (decide (t62 < t61)) then
    asrt true (decide (0 ≤ t62) && decide (t62 < ((t60_2 : Nat) : Int))) (
      ((o1)[(t60 + (t62 : Int).toNat)]?).bind fun x26 =>
      asrt true (decide (0 ≤ x26) && decide (x26 < (List.length o0 : Int))) (
        ((o0)[(x26 : Int).toNat]?).bind fun x27 =>
        asrt true (decide (0 ≤ x26) && decide (x26 < (List.length o0 : Int))) (
          ((o0)[(x26 : Int).toNat]?).bind fun x28 =>
          kn (IntKind.i64.wrap (t62 + 1)) (List.set o0 (x26 : Int).toNat (IntKind.i64.wrap (x27 + 1))))))
  else
    k1 o0
noncomputable def l21_8 {R : Type} (t60 : Nat) (t60_2 : Nat) (t61 : Int) (o1 : (List Int)) (k1 : (List Int) → Option R) : Nat → Int → (List Int) → Option R
  | 0, _, _ => none
  | n + 1, t62, o0 => s21_8 t60 t60_2 t61 o1 (l21_8 t60 t60_2 t61 o1 k1 n) k1 t62 o0
noncomputable def L21_8 : LE := ⟨19, 0, ⟨[(7, (.own 0)), (60, (.vw 1 (.int .i64))), (61, (.dat (.int .i64))), (62, (.dat (.int .i64)))], [(.arr (.int .i64)), (.arr (.int .i64))]⟩, fun R n x k => l21_8 x.1.2.1.1 x.1.2.1.2 x.1.2.2.1 x.2.2.1 (fun y0 => k (.exit 4) ⟨[(7, (.own 0))], [(.arr (.int .i64) y0)]⟩) n x.1.2.2.2.1 x.2.1⟩
noncomputable def C21 : Cfg := mkCfg [(5, ⟨[3, 4, 5, 7, 8, 23, 24, 25], []⟩), (12, ⟨[3, 4, 5, 7, 8, 11, 44, 45, 46], []⟩), (19, ⟨[7, 60, 61, 62], []⟩)] [(5, (⟨[3, 4, 5, 7, 8], []⟩, ⟨[6], []⟩)), (12, (⟨[3, 4, 5, 7, 8, 11], []⟩, ⟨[6], []⟩)), (19, (⟨[7], []⟩, ⟨[6], []⟩))] (([(0, L21_1), (1, L21_2), (2, L21_8)] : List (Nat × LE)).map (·.2))
theorem ek21_1 : EOk E21 C21 Try.f21.ntmps (bodyL Try.f21 0) L21_1 := eok_of (e := L21_1) (fun R x Kn k => s21_1 x.1.2.2.2.2.2.1 x.1.2.2.2.2.2.2.1 x.2.2.1 x.2.2.2.1 (fun v0 v1 v2 => Kn (((), (), (), (), (), x.1.2.2.2.2.2.1, x.1.2.2.2.2.2.2.1, v0, ()), (x.2.1, x.2.2.1, x.2.2.2.1, v1, v2, ()))) (fun y0 y1 => k (.exit 0) ⟨[(3, (.box 0 [] 0)), (4, (.box 1 [] 0)), (5, (.box 2 [] 0)), (7, (.own 3)), (8, (.own 4))], [(.box (.dat (.sl (.int .i64)) x.2.1)), (.box (.dat (.int .i64) x.2.2.1)), (.box (.dat (.int .i64) x.2.2.2.1)), (.arr (.int .i64) y0), (.arr (.int .i64) y1)]⟩) x.1.2.2.2.2.2.2.2.1 x.2.2.2.2.1 x.2.2.2.2.2.1) (fun _ _ _ => rfl) (fun _ _ _ _ => rfl) (fun R x Kn k => by kernel_rfl)
theorem ek21_2 : EOk E21 C21 Try.f21.ntmps (bodyL Try.f21 1) L21_2 := eok_of (e := L21_2) (fun R x Kn k => s21_2 x.1.2.2.2.2.2.2.2.1 x.2.2.2.2.1 (fun v0 v1 => Kn (((), (), (), (), (), v0, (), x.1.2.2.2.2.2.2.2.1, v1, ()), (x.2.1, x.2.2.1, x.2.2.2.1, x.2.2.2.2.1, x.2.2.2.2.2.1, ()))) (fun y0 => k (.exit 2) ⟨[(3, (.box 0 [] 0)), (4, (.box 1 [] 0)), (5, (.box 2 [] 0)), (7, (.own 3)), (8, (.own 4)), (11, (.dat (.int .i64) y0))], [(.box (.dat (.sl (.int .i64)) x.2.1)), (.box (.dat (.int .i64) x.2.2.1)), (.box (.dat (.int .i64) x.2.2.2.1)), (.arr (.int .i64) x.2.2.2.2.1), (.arr (.int .i64) x.2.2.2.2.2.1)]⟩) x.1.2.2.2.2.2.1 x.1.2.2.2.2.2.2.2.2.1) (fun _ _ _ => rfl) (fun _ _ _ _ => rfl) (fun R x Kn k => by kernel_rfl)
theorem ek21_8 : EOk E21 C21 Try.f21.ntmps (bodyL Try.f21 2) L21_8 := eok_of (e := L21_8) (fun R x Kn k => s21_8 x.1.2.1.1 x.1.2.1.2 x.1.2.2.1 x.2.2.1 (fun v0 v1 => Kn (((), (x.1.2.1.1, x.1.2.1.2), x.1.2.2.1, v0, ()), (v1, x.2.2.1, ()))) (fun y0 => k (.exit 4) ⟨[(7, (.own 0))], [(.arr (.int .i64) y0)]⟩) x.1.2.2.2.1 x.2.1) (fun _ _ _ => rfl) (fun _ _ _ _ => rfl) (fun R x Kn k => by kernel_rfl)
theorem lm21 : ∀ c, Try.f21.body = some c → LmOk E21 C21 Try.f21.ntmps c := lmOk_of (ps := [(0, L21_1), (1, L21_2), (2, L21_8)]) (by kernel_rfl) (by kernel_rfl) ⟨ek21_1, ek21_2, ek21_8, trivial⟩
noncomputable def m21 (a0 : (List Int)) (a1 : Int) (a2 : Int) : Option ((List Int)) :=
  asrt true (decide (0 ≤ (List.length a0 : Int)) && decide ((List.length a0 : Int) ≤ (List.length a0 : Int)) && decide ((List.length a0 : Int) ≤ (LIM : Int))) (
    asrt true (decide (0 ≤ (List.length a0 : Int)) && decide ((List.length a0 : Int) ≤ (List.length a0 : Int)) && decide ((List.length a0 : Int) ≤ (LIM : Int))) (
      l21_1 a0 (List.length a0 : Int) a1 a2 (fun y4 y5 =>
          l21_2 (List.length y4 : Int) y4 (fun y7 =>
              l21_5 (List.length y5 : Int) 20 a0 a1 a2 (fun y23 y24 =>
                  l21_4 y23 (List.length y5 : Int) a0 a1 a2 (fun y25 =>
                      l21_7 (List.length y5 : Int) (
                          asrt true (bounds true (List.length (α := Int) y25) 0 y7) (
                            l21_8 0 (Int.toNat y7) (((Int.toNat y7) : Nat) : Int) y25 (fun y29 =>
                                some y29) FUEL 0 y4)) FUEL 20) FUEL (IntKind.i64.wrap (y23 + 1)) y24) FUEL 0 20 y5) FUEL a2 0) FUEL 0 (List.replicate ((List.length a0 : Int) : Int).toNat 0) (List.replicate ((List.length a0 : Int) : Int).toNat 0)))
theorem q21 (x : tyL [(.sl (.int .i64)), (.int .i64), (.int .i64)]) : execF E21 C21 Try.f21 (datL [(.sl (.int .i64)), (.int .i64), (.int .i64)] x) [] (retOwn (.int .i64)) = m21 x.1 x.2.1 x.2.2.1 := by kernel_rfl
noncomputable def c21 : CmE := ownE 21 [(.sl (.int .i64)), (.int .i64), (.int .i64)] (.int .i64) (fun x => m21 x.1 x.2.1 x.2.2.1)
theorem d21 : CmOk Try.prog c21 := own_ok ca21 (frun_of (E := E21) ok21 ord lm21 Try.func21 q21)

/-! 12: consol/offer.Taken -/
theorem ca12 : callable Try.prog 12 := ⟨Try.f12, Try.func12, by kernel_rfl, by kernel_rfl⟩
noncomputable def E12 : Env := mkEnv2 Try.prog [e19] [c20, c21]
theorem ok12 : EnvOk E12 := mkEnv2_ok (by simp only [List.mem_cons, List.not_mem_nil, or_false, forall_eq]; exact p19) (by simp only [List.mem_cons, List.not_mem_nil, or_false, forall_eq_or_imp, forall_eq]; exact ⟨d20, d21⟩)
/-- a round of a loop of consol/offer.Taken -/
noncomputable def s12_1 {R : Type} (t31 : (List T38)) (t32 : Int) (o0 : T22) (kn : Int → Int → Int → (List Int) → (List Int) → (List Int) → Option R) (k1 : Int → Int → (List Int) → (List Int) → Option R) (t10 : Int) (t11 : Int) (t33 : Int) (o1 : (List Int)) (o2 : (List Int)) (o3 : (List Int)) : Option R :=
  bif (decide (t33 < t32)) then
    cont (fun (k10 : (Int × Int × (List Int) × (List Int) × (List Int)) → _) =>
      (idx t31 t33).bind fun x3 =>
      asrt true (decide (0 ≤ x3.1) && decide (x3.1 < (List.length o3 : Int))) (
        ((o3)[(x3.1 : Int).toNat]?).bind fun x4 =>
        cont (fun (k7 : (Int × Int × (List Int) × (List Int)) → _) =>
          bif (decide (x3.2.2.1 ≤ o0.2.2.1)) then
            asrt true (decide (0 ≤ t33) && decide (t33 < (List.length o1 : Int))) (
              ((o1)[(t33 : Int).toNat]?).bind fun x5 =>
              k7 ((IntKind.i64.wrap (t10 + (bif decide (x4 < x3.2.1) then x4 else x3.2.1))), t11, (List.set o1 (t33 : Int).toNat (bif decide (x4 < x3.2.1) then x4 else x3.2.1)), o2))
          else
            bif (decide (x3.2.2.1 ≤ o0.2.2.2.1)) then
              asrt true (decide (0 ≤ t33) && decide (t33 < (List.length o2 : Int))) (
                ((o2)[(t33 : Int).toNat]?).bind fun x6 =>
                k7 (t10, (IntKind.i64.wrap (t11 + (bif decide (x4 < x3.2.1) then x4 else x3.2.1))), o1, (List.set o2 (t33 : Int).toNat (bif decide (x4 < x3.2.1) then x4 else x3.2.1))))
            else
              k10 (t10, t11, o1, o2, o3)) fun y7 =>
        asrt true (decide (0 ≤ x3.1) && decide (x3.1 < (List.length o3 : Int))) (
          ((o3)[(x3.1 : Int).toNat]?).bind fun x8 =>
          asrt true (decide (0 ≤ x3.1) && decide (x3.1 < (List.length o3 : Int))) (
            ((o3)[(x3.1 : Int).toNat]?).bind fun x9 =>
            k10 (y7.1, y7.2.1, y7.2.2.1, y7.2.2.2, (List.set o3 (x3.1 : Int).toNat (IntKind.i64.wrap (x8 - (bif decide (x4 < x3.2.1) then x4 else x3.2.1))))))))) fun y10 =>
    kn y10.1 y10.2.1 (IntKind.i64.wrap (t33 + 1)) y10.2.2.1 y10.2.2.2.1 y10.2.2.2.2
  else
    k1 t10 t11 o1 o2
noncomputable def l12_1 {R : Type} (t31 : (List T38)) (t32 : Int) (o0 : T22) (k1 : Int → Int → (List Int) → (List Int) → Option R) : Nat → Int → Int → Int → (List Int) → (List Int) → (List Int) → Option R
  | 0, _, _, _, _, _, _ => none
  | n + 1, t10, t11, t33, o1, o2, o3 => s12_1 t31 t32 o0 (l12_1 t31 t32 o0 k1 n) k1 t10 t11 t33 o1 o2 o3
noncomputable def L12_1 : LE := ⟨8, 0, ⟨[(1, (.dat (.sl G38))), (3, (.box 0 [] 0)), (8, (.own 1)), (9, (.own 2)), (10, (.dat (.int .i64))), (11, (.dat (.int .i64))), (12, (.own 3)), (31, (.dat (.sl G38))), (32, (.dat (.int .i64))), (33, (.dat (.int .i64)))], [(.box (.dat G22)), (.arr (.int .i64)), (.arr (.int .i64)), (.arr (.int .i64))]⟩, fun R n x k => l12_1 x.1.2.2.2.2.2.2.2.1 x.1.2.2.2.2.2.2.2.2.1 x.2.1 (fun y0 y1 y2 y3 => k (.exit 0) ⟨[(1, (.dat (.sl G38) x.1.1)), (3, (.box 0 [] 0)), (8, (.own 1)), (9, (.own 2)), (10, (.dat (.int .i64) y0)), (11, (.dat (.int .i64) y1))], [(.box (.dat G22 x.2.1)), (.arr (.int .i64) y2), (.arr (.int .i64) y3)]⟩) n x.1.2.2.2.2.1 x.1.2.2.2.2.2.1 x.1.2.2.2.2.2.2.2.2.2.1 x.2.2.1 x.2.2.2.1 x.2.2.2.2.1⟩
/-- a round of a loop of consol/offer.Taken -/
noncomputable def s12_2 {R : Type} (t126 : Int) (o1 : (List Int)) (kn : Int → (List Int) → Option R) (k1 : (List Int) → Option R) (t127 : Int) (o0 : (List Int)) : Option R :=
  bif (decide (t127 < t126)) then
    asrt true (decide (0 ≤ t127) && decide (t127 < (List.length o1 : Int))) (
      ((o1)[(t127 : Int).toNat]?).bind fun x18 =>
      asrt true (decide (0 ≤ t127) && decide (t127 < (List.length o0 : Int))) (
        ((o0)[(t127 : Int).toNat]?).bind fun x19 =>
        asrt true (decide (0 ≤ t127) && decide (t127 < (List.length o0 : Int))) (
          ((o0)[(t127 : Int).toNat]?).bind fun x20 =>
          kn (IntKind.i64.wrap (t127 + 1)) (List.set o0 (t127 : Int).toNat (IntKind.i64.wrap (x19 + x18))))))
  else
    k1 o0
noncomputable def l12_2 {R : Type} (t126 : Int) (o1 : (List Int)) (k1 : (List Int) → Option R) : Nat → Int → (List Int) → Option R
  | 0, _, _ => none
  | n + 1, t127, o0 => s12_2 t126 o1 (l12_2 t126 o1 k1 n) k1 t127 o0
noncomputable def L12_2 : LE := ⟨26, 0, ⟨[(9, (.own 0)), (125, (.own 1)), (126, (.dat (.int .i64))), (127, (.dat (.int .i64)))], [(.arr (.int .i64)), (.arr (.int .i64))]⟩, fun R n x k => l12_2 x.1.2.2.1 x.2.2.1 (fun y0 => k (.exit 4) ⟨[(9, (.own 0))], [(.arr (.int .i64) y0)]⟩) n x.1.2.2.2.1 x.2.1⟩
noncomputable def C12 : Cfg := mkCfg [(8, ⟨[1, 3, 8, 9, 10, 11, 12, 31, 32, 33], []⟩), (17, ⟨[1, 3, 8, 9, 10, 11, 12, 14, 15, 31, 32, 33], []⟩), (18, ⟨[1, 3, 8, 9, 10, 11, 12, 31, 32, 33], []⟩), (25, ⟨[8, 9], []⟩), (26, ⟨[9, 125, 126, 127], []⟩)] [(8, (⟨[1, 3, 8, 9, 10, 11], []⟩, ⟨[6, 7], []⟩)), (26, (⟨[9], []⟩, ⟨[6, 7], []⟩))] (([(0, L12_1), (1, L12_2)] : List (Nat × LE)).map (·.2))
theorem ek12_1 : EOk E12 C12 Try.f12.ntmps (bodyL Try.f12 0) L12_1 := eok_of (e := L12_1) (fun R x Kn k => s12_1 x.1.2.2.2.2.2.2.2.1 x.1.2.2.2.2.2.2.2.2.1 x.2.1 (fun v0 v1 v2 v3 v4 v5 => Kn ((x.1.1, (), (), (), v0, v1, (), x.1.2.2.2.2.2.2.2.1, x.1.2.2.2.2.2.2.2.2.1, v2, ()), (x.2.1, v3, v4, v5, ()))) (fun y0 y1 y2 y3 => k (.exit 0) ⟨[(1, (.dat (.sl G38) x.1.1)), (3, (.box 0 [] 0)), (8, (.own 1)), (9, (.own 2)), (10, (.dat (.int .i64) y0)), (11, (.dat (.int .i64) y1))], [(.box (.dat G22 x.2.1)), (.arr (.int .i64) y2), (.arr (.int .i64) y3)]⟩) x.1.2.2.2.2.1 x.1.2.2.2.2.2.1 x.1.2.2.2.2.2.2.2.2.2.1 x.2.2.1 x.2.2.2.1 x.2.2.2.2.1) (fun _ _ _ => rfl) (fun _ _ _ _ => rfl) (fun R x Kn k => by kernel_rfl)
theorem ek12_2 : EOk E12 C12 Try.f12.ntmps (bodyL Try.f12 1) L12_2 := eok_of (e := L12_2) (fun R x Kn k => s12_2 x.1.2.2.1 x.2.2.1 (fun v0 v1 => Kn (((), (), x.1.2.2.1, v0, ()), (v1, x.2.2.1, ()))) (fun y0 => k (.exit 4) ⟨[(9, (.own 0))], [(.arr (.int .i64) y0)]⟩) x.1.2.2.2.1 x.2.1) (fun _ _ _ => rfl) (fun _ _ _ _ => rfl) (fun R x Kn k => by kernel_rfl)
theorem lm12 : ∀ c, Try.f12.body = some c → LmOk E12 C12 Try.f12.ntmps c := lmOk_of (ps := [(0, L12_1), (1, L12_2)]) (by kernel_rfl) (by kernel_rfl) ⟨ek12_1, ek12_2, trivial⟩
noncomputable def m12 (a0 : T22) (a1 : (List T38)) (a2 : (List Int)) : Option (((List Int) × (Int × Unit))) :=
  (m19 a0 a1 a2).bind fun r1 =>
  bif (!r1) then
    some ([], 1, ())
  else
    asrt true (decide (0 ≤ (List.length a1 : Int)) && decide ((List.length a1 : Int) ≤ (List.length a1 : Int)) && decide ((List.length a1 : Int) ≤ (LIM : Int))) (
      asrt true (decide (0 ≤ (List.length a1 : Int)) && decide ((List.length a1 : Int) ≤ (List.length a1 : Int)) && decide ((List.length a1 : Int) ≤ (LIM : Int))) (
        (cloneM a2).bind fun r2 =>
        l12_1 a1 (List.length a1 : Int) a0 (fun y11 y12 y13 y14 =>
            cont (fun (k17 : (List Int) → _) =>
              bif (decide ((IntKind.i64.wrap (y11 + y12)) < a0.2.2.2.2.2.2.1)) then
                asrt true (decide (0 ≤ (List.length a1 : Int)) && decide ((List.length a1 : Int) ≤ (List.length a1 : Int)) && decide ((List.length a1 : Int) ≤ (LIM : Int))) (
                  some ((List.replicate ((List.length a1 : Int) : Int).toNat 0), 0, ()))
              else
                bif ((decide (y11 > a0.2.2.2.2.2.2.2.1)) || ((y11 == a0.2.2.2.2.2.2.2.1) && (decide (y11 > 0)))) then
                  (m21 y13 y11 a0.2.2.2.2.2.2.2.1).bind fun r15 =>
                  some (r15, 0, ())
                else
                  bif (decide ((IntKind.i64.wrap (y11 + y12)) > a0.2.2.2.2.2.2.2.1)) then
                    (m21 y14 y12 (IntKind.i64.wrap (a0.2.2.2.2.2.2.2.1 - y11))).bind fun r16 =>
                    k17 r16
                  else
                    k17 y14) fun y17 =>
            l12_2 (List.length y13 : Int) y13 (fun y21 =>
                some (y21, 0, ())) FUEL 0 y17) FUEL 0 0 0 (List.replicate ((List.length a1 : Int) : Int).toNat 0) (List.replicate ((List.length a1 : Int) : Int).toNat 0) r2))
theorem q12 (x : tyL [G22, (.sl G38), (.sl (.int .i64))]) : execF E12 C12 Try.f12 (datL [G22, (.sl G38), (.sl (.int .i64))] x) [] (retT [true, false] (.cons (.sl (.int .i64)) (.cons (.int .i64) .nil))) = m12 x.1 x.2.1 x.2.2.1 := by kernel_rfl
noncomputable def c12 : CmE := ownT 12 [G22, (.sl G38), (.sl (.int .i64))] [true, false] (.cons (.sl (.int .i64)) (.cons (.int .i64) .nil)) (fun x => m12 x.1 x.2.1 x.2.2.1)
theorem d12 : CmOk Try.prog c12 := ownT_ok ca12 (frun_of (E := E12) ok12 ord lm12 Try.func12 q12)

/-! 10: consol/offer.Result -/
theorem ca10 : callable Try.prog 10 := ⟨Try.f10, Try.func10, by kernel_rfl, by kernel_rfl⟩
noncomputable def E10 : Env := mkEnv2 Try.prog [] [c12]
theorem ok10 : EnvOk E10 := mkEnv2_ok (by simp) (by simp only [List.mem_cons, List.not_mem_nil, or_false, forall_eq]; exact d12)
/-- a round of a loop of consol/offer.Result -/
noncomputable def s10_1 {R : Type} (t35 : (List T38)) (t36 : Int) (o0 : T22) (o1 : (List Int)) (kn : Int → (List Int) → (List Int) → Option R) (k1 : (List Int) → (List Int) → Option R) (t37 : Int) (o2 : (List Int)) (o3 : (List Int)) : Option R :=
  bif (decide (t37 < t36)) then
    cont (fun (k12 : ((List Int) × (List Int)) → _) =>
      (idx t35 t37).bind fun x2 =>
      asrt true (decide (0 ≤ x2.1) && decide (x2.1 < (List.length o2 : Int))) (
        ((o2)[(x2.1 : Int).toNat]?).bind fun x3 =>
        asrt true (decide (0 ≤ t37) && decide (t37 < (List.length o1 : Int))) (
          ((o1)[(t37 : Int).toNat]?).bind fun x4 =>
          asrt true (decide (0 ≤ x2.1) && decide (x2.1 < (List.length o2 : Int))) (
            ((o2)[(x2.1 : Int).toNat]?).bind fun x5 =>
            bif (decide (x2.2.2.1 ≤ o0.2.2.1)) then
              asrt true (decide (0 ≤ x2.1) && decide (x2.1 < (List.length o3 : Int))) (
                ((o3)[(x2.1 : Int).toNat]?).bind fun x6 =>
                asrt true (decide (0 ≤ t37) && decide (t37 < (List.length o1 : Int))) (
                  ((o1)[(t37 : Int).toNat]?).bind fun x7 =>
                  asrt true (decide (0 ≤ x2.1) && decide (x2.1 < (List.length o3 : Int))) (
                    ((o3)[(x2.1 : Int).toNat]?).bind fun x8 =>
                    k12 ((List.set o2 (x2.1 : Int).toNat (IntKind.i64.wrap (x3 + x4))), (List.set o3 (x2.1 : Int).toNat (IntKind.i64.wrap (x6 + (IntKind.i64.wrap (x7 * o0.2.2.2.2.1)))))))))
            else
              asrt true (decide (0 ≤ x2.1) && decide (x2.1 < (List.length o3 : Int))) (
                ((o3)[(x2.1 : Int).toNat]?).bind fun x9 =>
                asrt true (decide (0 ≤ t37) && decide (t37 < (List.length o1 : Int))) (
                  ((o1)[(t37 : Int).toNat]?).bind fun x10 =>
                  asrt true (decide (0 ≤ x2.1) && decide (x2.1 < (List.length o3 : Int))) (
                    ((o3)[(x2.1 : Int).toNat]?).bind fun x11 =>
                    k12 ((List.set o2 (x2.1 : Int).toNat (IntKind.i64.wrap (x3 + x4))), (List.set o3 (x2.1 : Int).toNat (IntKind.i64.wrap (x9 + (IntKind.i64.wrap (x10 * o0.2.2.2.2.2.1))))))))))))) fun y12 =>
    kn (IntKind.i64.wrap (t37 + 1)) y12.1 y12.2
  else
    k1 o2 o3
noncomputable def l10_1 {R : Type} (t35 : (List T38)) (t36 : Int) (o0 : T22) (o1 : (List Int)) (k1 : (List Int) → (List Int) → Option R) : Nat → Int → (List Int) → (List Int) → Option R
  | 0, _, _, _ => none
  | n + 1, t37, o2, o3 => s10_1 t35 t36 o0 o1 (l10_1 t35 t36 o0 o1 k1 n) k1 t37 o2 o3
noncomputable def L10_1 : LE := ⟨7, 0, ⟨[(2, (.dat (.sl (.int .i64)))), (3, (.box 0 [] 0)), (9, (.own 1)), (11, (.own 2)), (12, (.own 3)), (35, (.dat (.sl G38))), (36, (.dat (.int .i64))), (37, (.dat (.int .i64)))], [(.box (.dat G22)), (.arr (.int .i64)), (.arr (.int .i64)), (.arr (.int .i64))]⟩, fun R n x k => l10_1 x.1.2.2.2.2.2.1 x.1.2.2.2.2.2.2.1 x.2.1 x.2.2.1 (fun y0 y1 => k (.exit 0) ⟨[(2, (.dat (.sl (.int .i64)) x.1.1)), (11, (.own 0)), (12, (.own 1))], [(.arr (.int .i64) y0), (.arr (.int .i64) y1)]⟩) n x.1.2.2.2.2.2.2.2.1 x.2.2.2.1 x.2.2.2.2.1⟩
/-- a round of a loop of consol/offer.Result -/
noncomputable def s10_2 {R : Type} (t88 : Int) (o0 : (List Int)) (o1 : (List Int)) (kn : Int → (List T40) → (List T40) → Option R) (k1 : (List T40) → (List T40) → Option R) (t89 : Int) (o2 : (List T40)) (o3 : (List T40)) : Option R :=
  bif (decide (t89 < t88)) then
    cont (fun (k19 : ((List T40) × (List T40)) → _) =>
      cont (fun (k17 : (List T40) → _) =>
        asrt true (decide (0 ≤ t89) && decide (t89 < (List.length o0 : Int))) (
          ((o0)[(t89 : Int).toNat]?).bind fun x15 =>
          bif (decide (x15 > 0)) then
            asrt true (decide (0 ≤ t89) && decide (t89 < (List.length o0 : Int))) (
              ((o0)[(t89 : Int).toNat]?).bind fun x16 =>
              asrt true (decide (List.length (α := T40) o2 + List.length (α := T40) [(t89, x16, ())] ≤ LIM)) (
                k17 (o2 ++ [(t89, x16, ())])))
          else
            k17 o2)) fun y17 =>
      asrt true (decide (0 ≤ t89) && decide (t89 < (List.length o1 : Int))) (
        ((o1)[(t89 : Int).toNat]?).bind fun x18 =>
        bif (decide ((IntKind.i64.wrap (Int.tdiv x18 1000)) > 0)) then
          asrt true (decide (List.length (α := T40) o3 + List.length (α := T40) [(t89, (IntKind.i64.wrap (Int.tdiv x18 1000)), ())] ≤ LIM)) (
            k19 (y17, (o3 ++ [(t89, (IntKind.i64.wrap (Int.tdiv x18 1000)), ())])))
        else
          k19 (y17, o3))) fun y19 =>
    kn (IntKind.i64.wrap (t89 + 1)) y19.1 y19.2
  else
    k1 o2 o3
noncomputable def l10_2 {R : Type} (t88 : Int) (o0 : (List Int)) (o1 : (List Int)) (k1 : (List T40) → (List T40) → Option R) : Nat → Int → (List T40) → (List T40) → Option R
  | 0, _, _, _ => none
  | n + 1, t89, o2, o3 => s10_2 t88 o0 o1 (l10_2 t88 o0 o1 k1 n) k1 t89 o2 o3
noncomputable def L10_2 : LE := ⟨16, 0, ⟨[(11, (.own 0)), (12, (.own 1)), (15, (.own 2)), (16, (.own 3)), (88, (.dat (.int .i64))), (89, (.dat (.int .i64)))], [(.arr (.int .i64)), (.arr (.int .i64)), (.arr G40), (.arr G40)]⟩, fun R n x k => l10_2 x.1.2.2.2.2.1 x.2.1 x.2.2.1 (fun y0 y1 => k (.exit 2) ⟨[(15, (.own 0)), (16, (.own 1))], [(.arr G40 y0), (.arr G40 y1)]⟩) n x.1.2.2.2.2.2.1 x.2.2.2.1 x.2.2.2.2.1⟩
noncomputable def C10 : Cfg := mkCfg [(7, ⟨[2, 3, 9, 11, 12, 35, 36, 37], []⟩), (13, ⟨[2, 3, 9, 11, 12, 35, 36, 37], []⟩), (16, ⟨[11, 12, 15, 16, 88, 89], [(15, [], G40), (16, [], G40)]⟩), (20, ⟨[11, 12, 15, 16, 17, 88, 89], [(15, [], G40)]⟩), (23, ⟨[11, 12, 15, 16, 88, 89], [(16, [], G40)]⟩)] [(7, (⟨[2, 11, 12], []⟩, ⟨[6, 7, 8], []⟩)), (16, (⟨[15, 16], []⟩, ⟨[6, 7, 8], []⟩))] (([(0, L10_1), (1, L10_2)] : List (Nat × LE)).map (·.2))
theorem ek10_1 : EOk E10 C10 Try.f10.ntmps (bodyL Try.f10 0) L10_1 := eok_of (e := L10_1) (fun R x Kn k => s10_1 x.1.2.2.2.2.2.1 x.1.2.2.2.2.2.2.1 x.2.1 x.2.2.1 (fun v0 v1 v2 => Kn ((x.1.1, (), (), (), (), x.1.2.2.2.2.2.1, x.1.2.2.2.2.2.2.1, v0, ()), (x.2.1, x.2.2.1, v1, v2, ()))) (fun y0 y1 => k (.exit 0) ⟨[(2, (.dat (.sl (.int .i64)) x.1.1)), (11, (.own 0)), (12, (.own 1))], [(.arr (.int .i64) y0), (.arr (.int .i64) y1)]⟩) x.1.2.2.2.2.2.2.2.1 x.2.2.2.1 x.2.2.2.2.1) (fun _ _ _ => rfl) (fun _ _ _ _ => rfl) (fun R x Kn k => by kernel_rfl)
theorem ek10_2 : EOk E10 C10 Try.f10.ntmps (bodyL Try.f10 1) L10_2 := eok_of (e := L10_2) (fun R x Kn k => s10_2 x.1.2.2.2.2.1 x.2.1 x.2.2.1 (fun v0 v1 v2 => Kn (((), (), (), (), x.1.2.2.2.2.1, v0, ()), (x.2.1, x.2.2.1, v1, v2, ()))) (fun y0 y1 => k (.exit 2) ⟨[(15, (.own 0)), (16, (.own 1))], [(.arr G40 y0), (.arr G40 y1)]⟩) x.1.2.2.2.2.2.1 x.2.2.2.1 x.2.2.2.2.1) (fun _ _ _ => rfl) (fun _ _ _ _ => rfl) (fun R x Kn k => by kernel_rfl)
theorem lm10 : ∀ c, Try.f10.body = some c → LmOk E10 C10 Try.f10.ntmps c := lmOk_of (ps := [(0, L10_1), (1, L10_2)]) (by kernel_rfl) (by kernel_rfl) ⟨ek10_1, ek10_2, trivial⟩
noncomputable def m10 (a0 : T22) (a1 : (List T38)) (a2 : (List Int)) : Option (((List T40) × ((List T40) × (Int × Unit)))) :=
  (m12 a0 a1 a2).bind fun r1 =>
  bif (r1.2.1 != 0) then
    some ([], [], r1.2.1, ())
  else
    asrt true (decide (0 ≤ (List.length a2 : Int)) && decide ((List.length a2 : Int) ≤ (List.length a2 : Int)) && decide ((List.length a2 : Int) ≤ (LIM : Int))) (
      asrt true (decide (0 ≤ (List.length a2 : Int)) && decide ((List.length a2 : Int) ≤ (List.length a2 : Int)) && decide ((List.length a2 : Int) ≤ (LIM : Int))) (
        l10_1 a1 (List.length a1 : Int) a0 r1.1 (fun y13 y14 =>
            l10_2 (List.length a2 : Int) y13 y14 (fun y20 y21 =>
                some (y20, y21, 0, ())) FUEL 0 [] []) FUEL 0 (List.replicate ((List.length a2 : Int) : Int).toNat 0) (List.replicate ((List.length a2 : Int) : Int).toNat 0)))
theorem q10 (x : tyL [G22, (.sl G38), (.sl (.int .i64))]) : execF E10 C10 Try.f10 (datL [G22, (.sl G38), (.sl (.int .i64))] x) [] (retT [true, true, false] (.cons (.sl G40) (.cons (.sl G40) (.cons (.int .i64) .nil)))) = m10 x.1 x.2.1 x.2.2.1 := by kernel_rfl
noncomputable def c10 : CmE := ownT 10 [G22, (.sl G38), (.sl (.int .i64))] [true, true, false] (.cons (.sl G40) (.cons (.sl G40) (.cons (.int .i64) .nil))) (fun x => m10 x.1 x.2.1 x.2.2.1)
theorem d10 : CmOk Try.prog c10 := ownT_ok ca10 (frun_of (E := E10) ok10 ord lm10 Try.func10 q10)

/-! 14: consol/consolref36.Same -/
theorem ca14 : callable Try.prog 14 := ⟨Try.f14, Try.func14, by kernel_rfl, by kernel_rfl⟩
noncomputable def E14 : Env := mkEnv2 Try.prog [] []
theorem ok14 : EnvOk E14 := mkEnv2_ok (by simp) (by simp)
/-- a round of a loop of consol/consolref36.Same -/
noncomputable def s14_1 {R : Type} (t0 : (List T40)) (t1 : (List T40)) (kn : Int → Option R) (k1 : Option R) (k2 : Option R) (t5 : Int) : Option R :=
  bif (decide (t5 < (List.length t0 : Int))) then
    (idx t0 t5).bind fun x1 =>
    (idx t1 t5).bind fun x2 =>
    bif (!((x1.1 == x2.1) && ((x1.2.1 == x2.2.1) && true))) then
      k2
    else
      kn (IntKind.i64.wrap (t5 + 1))
  else
    k1
noncomputable def l14_1 {R : Type} (t0 : (List T40)) (t1 : (List T40)) (k1 : Option R) (k2 : Option R) : Nat → Int → Option R
  | 0, _ => none
  | n + 1, t5 => s14_1 t0 t1 (l14_1 t0 t1 k1 k2 n) k1 k2 t5
noncomputable def L14_1 : LE := ⟨5, 0, ⟨[(0, (.dat (.sl G40))), (1, (.dat (.sl G40))), (5, (.dat (.int .i64)))], []⟩, fun R n x k => l14_1 x.1.1 x.1.2.1 (k (.exit 0) ⟨[], []⟩) (k .ret ⟨[(4, (.dat .bool false))], []⟩) n x.1.2.2.1⟩
noncomputable def C14 : Cfg := mkCfg [(5, ⟨[0, 1, 5], []⟩)] [(5, (⟨[], []⟩, ⟨[4], []⟩))] (([(0, L14_1)] : List (Nat × LE)).map (·.2))
theorem ek14_1 : EOk E14 C14 Try.f14.ntmps (bodyL Try.f14 0) L14_1 := eok_of (e := L14_1) (fun R x Kn k => s14_1 x.1.1 x.1.2.1 (fun v0 => Kn ((x.1.1, x.1.2.1, v0, ()), (()))) (k (.exit 0) ⟨[], []⟩) (k .ret ⟨[(4, (.dat .bool false))], []⟩) x.1.2.2.1) (fun _ _ _ => rfl) (fun _ _ _ _ => rfl) (fun R x Kn k => by kernel_rfl)
theorem lm14 : ∀ c, Try.f14.body = some c → LmOk E14 C14 Try.f14.ntmps c := lmOk_of (ps := [(0, L14_1)]) (by kernel_rfl) (by kernel_rfl) ⟨ek14_1, trivial⟩
noncomputable def m14 (a0 : (List T40)) (a1 : (List T40)) : Option (Bool) :=
  bif ((List.length a0 : Int) != (List.length a1 : Int)) then
    some false
  else
    l14_1 a0 a1 (
        some true) (
        some false) FUEL 0
noncomputable def e14 : PmE := entry 14 [(.sl G40), (.sl G40)] false .bool (fun x => m14 x.1 x.2.1)
theorem q14 (x : tyL [(.sl G40), (.sl G40)]) : execF E14 C14 Try.f14 (datL [(.sl G40), (.sl G40)] x) [] (retK false .bool) = m14 x.1 x.2.1 := by kernel_rfl
theorem p14 : PmOk Try.prog e14 := pm_ok (E := E14) ok14 ord lm14 Try.func14 ca14 q14

/-! 18: consol/consollaw36.says -/
theorem ca18 : callable Try.prog 18 := ⟨Try.f18, Try.func18, by kernel_rfl, by kernel_rfl⟩
noncomputable def E18 : Env := mkEnv2 Try.prog [e14, e27] [c10]
theorem ok18 : EnvOk E18 := mkEnv2_ok (by simp only [List.mem_cons, List.not_mem_nil, or_false, forall_eq_or_imp, forall_eq]; exact ⟨p14, p27⟩) (by simp only [List.mem_cons, List.not_mem_nil, or_false, forall_eq]; exact d10)
noncomputable def C18 : Cfg := noCfg
theorem lm18 : ∀ c, Try.f18.body = some c → LmOk E18 C18 Try.f18.ntmps c := fun _ _ => noCfg_lm
noncomputable def m18 (a0 : (List T38)) (a1 : (List T40)) (a2 : (List T40)) : Option (Bool) :=
  (m27).bind fun r1 =>
  (m10 r1 a0 [8, 4, 6]).bind fun r2 =>
  (bif ((r2.2.2.1 == 0) == true) then (m14 r2.1 a1) else some false).bind fun r3 =>
  (bif (((r2.2.2.1 == 0) && r3) == true) then (m14 r2.2.1 a2) else some false).bind fun r4 =>
  some (((r2.2.2.1 == 0) && r3) && r4)
noncomputable def e18 : PmE := entry 18 [(.sl G38), (.sl G40), (.sl G40)] false .bool (fun x => m18 x.1 x.2.1 x.2.2.1)
theorem q18 (x : tyL [(.sl G38), (.sl G40), (.sl G40)]) : execF E18 C18 Try.f18 (datL [(.sl G38), (.sl G40), (.sl G40)] x) [] (retK false .bool) = m18 x.1 x.2.1 x.2.2.1 := by kernel_rfl
theorem p18 : PmOk Try.prog e18 := pm_ok (E := E18) ok18 ord lm18 Try.func18 ca18 q18

/-! 8: consol/consollaw36.small -/
theorem ca8 : callable Try.prog 8 := ⟨Try.f8, Try.func8, by kernel_rfl, by kernel_rfl⟩
noncomputable def E8 : Env := mkEnv2 Try.prog [e18] [c10]
theorem ok8 : EnvOk E8 := mkEnv2_ok (by simp only [List.mem_cons, List.not_mem_nil, or_false, forall_eq]; exact p18) (by simp only [List.mem_cons, List.not_mem_nil, or_false, forall_eq]; exact d10)
noncomputable def C8 : Cfg := noCfg
theorem lm8 : ∀ c, Try.f8.body = some c → LmOk E8 C8 Try.f8.ntmps c := fun _ _ => noCfg_lm
noncomputable def m8  : Option (Bool) :=
  (m18 [(0, 5, 9, ())] [] []).bind fun r1 =>
  (m18 [(0, 20, 3, ()), (1, 1, 10, ())] [(0, 8, ())] [(0, 8, ())]).bind fun r2 =>
  (m18 [(0, 8, 6, ()), (1, 4, 5, ())] [(0, 6, ()), (1, 4, ())] [(0, 5, ()), (1, 4, ())]).bind fun r3 =>
  (m18 [(0, 8, 5, ()), (1, 4, 5, ()), (2, 6, 9, ())] [(0, 7, ()), (1, 3, ())] [(0, 7, ()), (1, 3, ())]).bind fun r4 =>
  (m10 (0, 0, 0, 0, 0, 0, 1, 0, ()) [] []).bind fun r5 =>
  some ((((r1 && r2) && r3) && r4) && (r5.2.2.1 == 1))
noncomputable def e8 : PmE := entry 8 [] false .bool (fun x => m8 )
theorem q8 (x : tyL []) : execF E8 C8 Try.f8 (datL [] x) [] (retK false .bool) = m8  := by kernel_rfl
theorem p8 : PmOk Try.prog e8 := pm_ok (E := E8) ok8 ord lm8 Try.func8 ca8 q8

/-! 9: consol/consolref36.Few -/
theorem ca9 : callable Try.prog 9 := ⟨Try.f9, Try.func9, by kernel_rfl, by kernel_rfl⟩
noncomputable def E9 : Env := mkEnv2 Try.prog [] []
theorem ok9 : EnvOk E9 := mkEnv2_ok (by simp) (by simp)
noncomputable def C9 : Cfg := noCfg
theorem lm9 : ∀ c, Try.f9.body = some c → LmOk E9 C9 Try.f9.ntmps c := fun _ _ => noCfg_lm
noncomputable def m9 (a0 : (List T38)) (a1 : (List Int)) : Option (Bool) :=
  some ((decide ((List.length a0 : Int) ≤ 14)) && (decide ((List.length a1 : Int) ≤ 10)))
noncomputable def e9 : PmE := entry 9 [(.sl G38), (.sl (.int .i64))] false .bool (fun x => m9 x.1 x.2.1)
theorem q9 (x : tyL [(.sl G38), (.sl (.int .i64))]) : execF E9 C9 Try.f9 (datL [(.sl G38), (.sl (.int .i64))] x) [] (retK false .bool) = m9 x.1 x.2.1 := by kernel_rfl
theorem p9 : PmOk Try.prog e9 := pm_ok (E := E9) ok9 ord lm9 Try.func9 ca9 q9

/-! 35: consol/consolref36.in -/
theorem ca35 : callable Try.prog 35 := ⟨Try.f35, Try.func35, by kernel_rfl, by kernel_rfl⟩
noncomputable def E35 : Env := mkEnv2 Try.prog [] []
theorem ok35 : EnvOk E35 := mkEnv2_ok (by simp) (by simp)
noncomputable def C35 : Cfg := noCfg
theorem lm35 : ∀ c, Try.f35.body = some c → LmOk E35 C35 Try.f35.ntmps c := fun _ _ => noCfg_lm
noncomputable def m35 (a0 : Int) (a1 : Int) (a2 : Int) : Option (Bool) :=
  some ((decide (a0 ≥ a1)) && (decide (a0 ≤ a2)))
noncomputable def e35 : PmE := entry 35 [(.int .i64), (.int .i64), (.int .i64)] false .bool (fun x => m35 x.1 x.2.1 x.2.2.1)
theorem q35 (x : tyL [(.int .i64), (.int .i64), (.int .i64)]) : execF E35 C35 Try.f35 (datL [(.int .i64), (.int .i64), (.int .i64)] x) [] (retK false .bool) = m35 x.1 x.2.1 x.2.2.1 := by kernel_rfl
theorem p35 : PmOk Try.prog e35 := pm_ok (E := E35) ok35 ord lm35 Try.func35 ca35 q35

/-! 36: consol/consolref36.day -/
theorem ca36 : callable Try.prog 36 := ⟨Try.f36, Try.func36, by kernel_rfl, by kernel_rfl⟩
noncomputable def E36 : Env := mkEnv2 Try.prog [e35] []
theorem ok36 : EnvOk E36 := mkEnv2_ok (by simp only [List.mem_cons, List.not_mem_nil, or_false, forall_eq]; exact p35) (by simp)
noncomputable def C36 : Cfg := noCfg
theorem lm36 : ∀ c, Try.f36.body = some c → LmOk E36 C36 Try.f36.ntmps c := fun _ _ => noCfg_lm
noncomputable def m36 (a0 : Int) : Option (Bool) :=
  (m35 a0 0 200000).bind fun r1 =>
  some r1
noncomputable def e36 : PmE := entry 36 [(.int .i64)] false .bool (fun x => m36 x.1)
theorem q36 (x : tyL [(.int .i64)]) : execF E36 C36 Try.f36 (datL [(.int .i64)] x) [] (retK false .bool) = m36 x.1 := by kernel_rfl
theorem p36 : PmOk Try.prog e36 := pm_ok (E := E36) ok36 ord lm36 Try.func36 ca36 q36

/-! 22: consol/consolref36.Right -/
theorem ca22 : callable Try.prog 22 := ⟨Try.f22, Try.func22, by kernel_rfl, by kernel_rfl⟩
noncomputable def E22 : Env := mkEnv2 Try.prog [e35, e36] []
theorem ok22 : EnvOk E22 := mkEnv2_ok (by simp only [List.mem_cons, List.not_mem_nil, or_false, forall_eq_or_imp, forall_eq]; exact ⟨p35, p36⟩) (by simp)
noncomputable def C22 : Cfg := noCfg
theorem lm22 : ∀ c, Try.f22.body = some c → LmOk E22 C22 Try.f22.ntmps c := fun _ _ => noCfg_lm
noncomputable def m22 (a0 : T22) : Option (Bool) :=
  (m35 a0.1 0 399).bind fun r1 =>
  (bif (r1 == true) then (m35 a0.2.1 0 399) else some false).bind fun r2 =>
  (bif ((r1 && r2) == true) then (m36 a0.2.2.1) else some false).bind fun r3 =>
  (bif (((r1 && r2) && r3) == true) then (m36 a0.2.2.2.1) else some false).bind fun r4 =>
  (bif (((((r1 && r2) && r3) && r4) && (decide (a0.2.2.1 ≤ a0.2.2.2.1))) == true) then (m35 a0.2.2.2.2.1 0 10000) else some false).bind fun r5 =>
  (bif ((((((r1 && r2) && r3) && r4) && (decide (a0.2.2.1 ≤ a0.2.2.2.1))) && r5) == true) then (m35 a0.2.2.2.2.2.1 0 10000) else some false).bind fun r6 =>
  (bif (((((((r1 && r2) && r3) && r4) && (decide (a0.2.2.1 ≤ a0.2.2.2.1))) && r5) && r6) == true) then (m35 a0.2.2.2.2.2.2.1 0 a0.2.2.2.2.2.2.2.1) else some false).bind fun r7 =>
  some ((((((((r1 && r2) && r3) && r4) && (decide (a0.2.2.1 ≤ a0.2.2.2.1))) && r5) && r6) && r7) && (decide (a0.2.2.2.2.2.2.2.1 ≤ 1000000000)))
noncomputable def e22 : PmE := entry 22 [G22] false .bool (fun x => m22 x.1)
theorem q22 (x : tyL [G22]) : execF E22 C22 Try.f22 (datL [G22] x) [] (retK false .bool) = m22 x.1 := by kernel_rfl
theorem p22 : PmOk Try.prog e22 := pm_ok (E := E22) ok22 ord lm22 Try.func22 ca22 q22

/-! 23: consol/consolref36.Units -/
theorem ca23 : callable Try.prog 23 := ⟨Try.f23, Try.func23, by kernel_rfl, by kernel_rfl⟩
noncomputable def E23 : Env := mkEnv2 Try.prog [e35] []
theorem ok23 : EnvOk E23 := mkEnv2_ok (by simp only [List.mem_cons, List.not_mem_nil, or_false, forall_eq]; exact p35) (by simp)
/-- a round of a loop of consol/consolref36.Units -/
noncomputable def s23_1 {R : Type} (t0 : (List Int)) (kn : Int → Int → Option R) (k1 : Option R) (k2 : Option R) (t3 : Int) (t4 : Int) : Option R :=
  bif ((decide (t4 < (List.length t0 : Int))) && (decide (t4 ≤ 20000))) then
    (idx t0 t4).bind fun x1 =>
    (m35 x1 0 (IntKind.i64.wrap (1000000000 - t3))).bind fun r2 =>
    bif (!r2) then
      k2
    else
      (idx t0 t4).bind fun x3 =>
      kn (IntKind.i64.wrap (t3 + x3)) (IntKind.i64.wrap (t4 + 1))
  else
    k1
noncomputable def l23_1 {R : Type} (t0 : (List Int)) (k1 : Option R) (k2 : Option R) : Nat → Int → Int → Option R
  | 0, _, _ => none
  | n + 1, t3, t4 => s23_1 t0 (l23_1 t0 k1 k2 n) k1 k2 t3 t4
noncomputable def L23_1 : LE := ⟨4, 0, ⟨[(0, (.dat (.sl (.int .i64)))), (3, (.dat (.int .i64))), (4, (.dat (.int .i64)))], []⟩, fun R n x k => l23_1 x.1.1 (k (.exit 0) ⟨[(0, (.dat (.sl (.int .i64)) x.1.1))], []⟩) (k .ret ⟨[(2, (.dat .bool false))], []⟩) n x.1.2.1 x.1.2.2.1⟩
noncomputable def C23 : Cfg := mkCfg [(4, ⟨[0, 3, 4], []⟩)] [(4, (⟨[0], []⟩, ⟨[2], []⟩))] (([(0, L23_1)] : List (Nat × LE)).map (·.2))
theorem ek23_1 : EOk E23 C23 Try.f23.ntmps (bodyL Try.f23 0) L23_1 := eok_of (e := L23_1) (fun R x Kn k => s23_1 x.1.1 (fun v0 v1 => Kn ((x.1.1, v0, v1, ()), (()))) (k (.exit 0) ⟨[(0, (.dat (.sl (.int .i64)) x.1.1))], []⟩) (k .ret ⟨[(2, (.dat .bool false))], []⟩) x.1.2.1 x.1.2.2.1) (fun _ _ _ => rfl) (fun _ _ _ _ => rfl) (fun R x Kn k => by kernel_rfl)
theorem lm23 : ∀ c, Try.f23.body = some c → LmOk E23 C23 Try.f23.ntmps c := lmOk_of (ps := [(0, L23_1)]) (by kernel_rfl) (by kernel_rfl) ⟨ek23_1, trivial⟩
noncomputable def m23 (a0 : (List Int)) : Option (Bool) :=
  l23_1 a0 (
      some (decide ((List.length a0 : Int) ≤ 20000))) (
      some false) FUEL 0 0
noncomputable def e23 : PmE := entry 23 [(.sl (.int .i64))] false .bool (fun x => m23 x.1)
theorem q23 (x : tyL [(.sl (.int .i64))]) : execF E23 C23 Try.f23 (datL [(.sl (.int .i64))] x) [] (retK false .bool) = m23 x.1 := by kernel_rfl
theorem p23 : PmOk Try.prog e23 := pm_ok (E := E23) ok23 ord lm23 Try.func23 ca23 q23

/-! 24: consol/consolref36.Tenders -/
theorem ca24 : callable Try.prog 24 := ⟨Try.f24, Try.func24, by kernel_rfl, by kernel_rfl⟩
noncomputable def E24 : Env := mkEnv2 Try.prog [e35, e36] []
theorem ok24 : EnvOk E24 := mkEnv2_ok (by simp only [List.mem_cons, List.not_mem_nil, or_false, forall_eq_or_imp, forall_eq]; exact ⟨p35, p36⟩) (by simp)
/-- a round of a loop of consol/consolref36.Tenders -/
noncomputable def s24_1 {R : Type} (t0 : (List T38)) (t1 : Int) (kn : Int → Option R) (k1 : Option R) (k2 : Option R) (t5 : Int) : Option R :=
  bif (decide (t5 < (List.length t0 : Int))) then
    (idx t0 t5).bind fun x1 =>
    (m35 x1.1 0 (IntKind.i64.wrap (t1 - 1))).bind fun r2 =>
    (idxG ((!r2) == false) (0, 0, 0, ()) t0 t5).bind fun x3 =>
    (bif ((!r2) == false) then (m35 x3.2.1 1 1000000000) else some false).bind fun r4 =>
    (idxG (((!r2) || (!r4)) == false) (0, 0, 0, ()) t0 t5).bind fun x5 =>
    (bif (((!r2) || (!r4)) == false) then (m36 x5.2.2.1) else some false).bind fun r6 =>
    bif (((!r2) || (!r4)) || (!r6)) then
      k2
    else
      kn (IntKind.i64.wrap (t5 + 1))
  else
    k1
noncomputable def l24_1 {R : Type} (t0 : (List T38)) (t1 : Int) (k1 : Option R) (k2 : Option R) : Nat → Int → Option R
  | 0, _ => none
  | n + 1, t5 => s24_1 t0 t1 (l24_1 t0 t1 k1 k2 n) k1 k2 t5
noncomputable def L24_1 : LE := ⟨5, 0, ⟨[(0, (.dat (.sl G38))), (1, (.dat (.int .i64))), (5, (.dat (.int .i64)))], []⟩, fun R n x k => l24_1 x.1.1 x.1.2.1 (k (.exit 0) ⟨[], []⟩) (k .ret ⟨[(4, (.dat .bool false))], []⟩) n x.1.2.2.1⟩
noncomputable def C24 : Cfg := mkCfg [(5, ⟨[0, 1, 5], []⟩)] [(5, (⟨[], []⟩, ⟨[4], []⟩))] (([(0, L24_1)] : List (Nat × LE)).map (·.2))
theorem ek24_1 : EOk E24 C24 Try.f24.ntmps (bodyL Try.f24 0) L24_1 := eok_of (e := L24_1) (fun R x Kn k => s24_1 x.1.1 x.1.2.1 (fun v0 => Kn ((x.1.1, x.1.2.1, v0, ()), (()))) (k (.exit 0) ⟨[], []⟩) (k .ret ⟨[(4, (.dat .bool false))], []⟩) x.1.2.2.1) (fun _ _ _ => rfl) (fun _ _ _ _ => rfl) (fun R x Kn k => by kernel_rfl)
theorem lm24 : ∀ c, Try.f24.body = some c → LmOk E24 C24 Try.f24.ntmps c := lmOk_of (ps := [(0, L24_1)]) (by kernel_rfl) (by kernel_rfl) ⟨ek24_1, trivial⟩
noncomputable def m24 (a0 : (List T38)) (a1 : Int) : Option (Bool) :=
  bif (decide ((List.length a0 : Int) > 2000)) then
    some false
  else
    l24_1 a0 a1 (
        some true) (
        some false) FUEL 0
noncomputable def e24 : PmE := entry 24 [(.sl G38), (.int .i64)] false .bool (fun x => m24 x.1 x.2.1)
theorem q24 (x : tyL [(.sl G38), (.int .i64)]) : execF E24 C24 Try.f24 (datL [(.sl G38), (.int .i64)] x) [] (retK false .bool) = m24 x.1 x.2.1 := by kernel_rfl
theorem p24 : PmOk Try.prog e24 := pm_ok (E := E24) ok24 ord lm24 Try.func24 ca24 q24

/-! 16: consol/consolref36.Good -/
theorem ca16 : callable Try.prog 16 := ⟨Try.f16, Try.func16, by kernel_rfl, by kernel_rfl⟩
noncomputable def E16 : Env := mkEnv2 Try.prog [] []
theorem ok16 : EnvOk E16 := mkEnv2_ok (by simp) (by simp)
/-- a round of a loop of consol/consolref36.Good -/
noncomputable def s16_1 {R : Type} (t1 : (List T38)) (o0 : T22) (kn : Int → (List Int) → (List Int) → Option R) (k1 : (List Int) → Option R) (t9 : Int) (o1 : (List Int)) (o2 : (List Int)) : Option R :=
  bif (decide (t9 < (List.length t1 : Int))) then
    cont (fun (k9 : (Int × (List Int)) → _) =>
      (idx t1 t9).bind fun x1 =>
      bif (decide (x1.2.2.1 ≤ o0.2.2.2.1)) then
        (idx t1 t9).bind fun x2 =>
        (idx t1 t9).bind fun x3 =>
        asrt true (decide (0 ≤ x3.1) && decide (x3.1 < (List.length o1 : Int))) (
          ((o1)[(x3.1 : Int).toNat]?).bind fun x4 =>
          (idx t1 t9).bind fun x5 =>
          (idx t1 t9).bind fun x6 =>
          asrt true (decide (0 ≤ x6.1) && decide (x6.1 < (List.length o1 : Int))) (
            ((o1)[(x6.1 : Int).toNat]?).bind fun x7 =>
            asrt true (decide (0 ≤ x5.1) && decide (x5.1 < (List.length o1 : Int))) (
              ((o1)[(x5.1 : Int).toNat]?).bind fun x8 =>
              k9 ((bif decide (x4 < x2.2.1) then x4 else x2.2.1), (List.set o1 (x5.1 : Int).toNat (IntKind.i64.wrap (x7 - (bif decide (x4 < x2.2.1) then x4 else x2.2.1))))))))
      else
        k9 (0, o1)) fun y9 =>
    asrt true (decide (List.length (α := Int) o2 + List.length (α := Int) [y9.1] ≤ LIM)) (
      kn (IntKind.i64.wrap (t9 + 1)) y9.2 (o2 ++ [y9.1]))
  else
    k1 o2
noncomputable def l16_1 {R : Type} (t1 : (List T38)) (o0 : T22) (k1 : (List Int) → Option R) : Nat → Int → (List Int) → (List Int) → Option R
  | 0, _, _, _ => none
  | n + 1, t9, o1, o2 => s16_1 t1 o0 (l16_1 t1 o0 k1 n) k1 t9 o1 o2
noncomputable def L16_1 : LE := ⟨5, 0, ⟨[(1, (.dat (.sl G38))), (3, (.box 0 [] 0)), (7, (.own 1)), (8, (.own 2)), (9, (.dat (.int .i64)))], [(.box (.dat G22)), (.arr (.int .i64)), (.arr (.int .i64))]⟩, fun R n x k => l16_1 x.1.1 x.2.1 (fun y0 => k (.exit 0) ⟨[(8, (.own 0))], [(.arr (.int .i64) y0)]⟩) n x.1.2.2.2.2.1 x.2.2.1 x.2.2.2.1⟩
noncomputable def C16 : Cfg := mkCfg [(5, ⟨[1, 3, 7, 8, 9], [(8, [], (.int .i64))]⟩), (6, ⟨[1, 3, 7, 8, 9], []⟩), (11, ⟨[1, 3, 7, 8, 9, 10], []⟩)] [(5, (⟨[8], []⟩, ⟨[6], []⟩))] (([(0, L16_1)] : List (Nat × LE)).map (·.2))
theorem ek16_1 : EOk E16 C16 Try.f16.ntmps (bodyL Try.f16 0) L16_1 := eok_of (e := L16_1) (fun R x Kn k => s16_1 x.1.1 x.2.1 (fun v0 v1 v2 => Kn ((x.1.1, (), (), (), v0, ()), (x.2.1, v1, v2, ()))) (fun y0 => k (.exit 0) ⟨[(8, (.own 0))], [(.arr (.int .i64) y0)]⟩) x.1.2.2.2.2.1 x.2.2.1 x.2.2.2.1) (fun _ _ _ => rfl) (fun _ _ _ _ => rfl) (fun R x Kn k => by kernel_rfl)
theorem lm16 : ∀ c, Try.f16.body = some c → LmOk E16 C16 Try.f16.ntmps c := lmOk_of (ps := [(0, L16_1)]) (by kernel_rfl) (by kernel_rfl) ⟨ek16_1, trivial⟩
noncomputable def m16 (a0 : T22) (a1 : (List T38)) (a2 : (List Int)) : Option ((List Int)) :=
  asrt true (decide (List.length (α := Int) a2 ≤ LIM)) (
    l16_1 a1 a0 (fun y10 =>
        some y10) FUEL 0 a2 [])
theorem q16 (x : tyL [G22, (.sl G38), (.sl (.int .i64))]) : execF E16 C16 Try.f16 (datL [G22, (.sl G38), (.sl (.int .i64))] x) [] (retOwn (.int .i64)) = m16 x.1 x.2.1 x.2.2.1 := by kernel_rfl
noncomputable def c16 : CmE := ownE 16 [G22, (.sl G38), (.sl (.int .i64))] (.int .i64) (fun x => m16 x.1 x.2.1 x.2.2.1)
theorem d16 : CmOk Try.prog c16 := own_ok ca16 (frun_of (E := E16) ok16 ord lm16 Try.func16 q16)

/-! 25: consol/consolref36.total -/
theorem ca25 : callable Try.prog 25 := ⟨Try.f25, Try.func25, by kernel_rfl, by kernel_rfl⟩
noncomputable def E25 : Env := mkEnv2 Try.prog [] []
theorem ok25 : EnvOk E25 := mkEnv2_ok (by simp) (by simp)
/-- a round of a loop of consol/consolref36.total -/
noncomputable def s25_1 {R : Type} (t0 : (List Int)) (kn : Int → Int → Option R) (k1 : Int → Option R) (t3 : Int) (t4 : Int) : Option R :=
  bif (decide (t4 < (List.length t0 : Int))) then
    (idx t0 t4).bind fun x1 =>
    kn (IntKind.i64.wrap (t3 + x1)) (IntKind.i64.wrap (t4 + 1))
  else
    k1 t3
noncomputable def l25_1 {R : Type} (t0 : (List Int)) (k1 : Int → Option R) : Nat → Int → Int → Option R
  | 0, _, _ => none
  | n + 1, t3, t4 => s25_1 t0 (l25_1 t0 k1 n) k1 t3 t4
noncomputable def L25_1 : LE := ⟨4, 0, ⟨[(0, (.dat (.sl (.int .i64)))), (3, (.dat (.int .i64))), (4, (.dat (.int .i64)))], []⟩, fun R n x k => l25_1 x.1.1 (fun y0 => k (.exit 0) ⟨[(3, (.dat (.int .i64) y0))], []⟩) n x.1.2.1 x.1.2.2.1⟩
noncomputable def C25 : Cfg := mkCfg [(4, ⟨[0, 3, 4], []⟩)] [(4, (⟨[3], []⟩, ⟨[2], []⟩))] (([(0, L25_1)] : List (Nat × LE)).map (·.2))
theorem ek25_1 : EOk E25 C25 Try.f25.ntmps (bodyL Try.f25 0) L25_1 := eok_of (e := L25_1) (fun R x Kn k => s25_1 x.1.1 (fun v0 v1 => Kn ((x.1.1, v0, v1, ()), (()))) (fun y0 => k (.exit 0) ⟨[(3, (.dat (.int .i64) y0))], []⟩) x.1.2.1 x.1.2.2.1) (fun _ _ _ => rfl) (fun _ _ _ _ => rfl) (fun R x Kn k => by kernel_rfl)
theorem lm25 : ∀ c, Try.f25.body = some c → LmOk E25 C25 Try.f25.ntmps c := lmOk_of (ps := [(0, L25_1)]) (by kernel_rfl) (by kernel_rfl) ⟨ek25_1, trivial⟩
noncomputable def m25 (a0 : (List Int)) : Option (Int) :=
  l25_1 a0 (fun y2 =>
      some y2) FUEL 0 0
noncomputable def e25 : PmE := entry 25 [(.sl (.int .i64))] false (.int .i64) (fun x => m25 x.1)
theorem q25 (x : tyL [(.sl (.int .i64))]) : execF E25 C25 Try.f25 (datL [(.sl (.int .i64))] x) [] (retK false (.int .i64)) = m25 x.1 := by kernel_rfl
theorem p25 : PmOk Try.prog e25 := pm_ok (E := E25) ok25 ord lm25 Try.func25 ca25 q25

/-! 26: consol/consolref36.share -/
theorem ca26 : callable Try.prog 26 := ⟨Try.f26, Try.func26, by kernel_rfl, by kernel_rfl⟩
noncomputable def E26 : Env := mkEnv2 Try.prog [e25] []
theorem ok26 : EnvOk E26 := mkEnv2_ok (by simp only [List.mem_cons, List.not_mem_nil, or_false, forall_eq]; exact p25) (by simp)
/-- a round of a loop of consol/consolref36.share -/
noncomputable def s26_1 {R : Type} (t0 : (List Int)) (t1 : Int) (t5 : Int) (kn : Int → Int → (List Int) → Option R) (k1 : Int → (List Int) → Option R) (t7 : Int) (t8 : Int) (o0 : (List Int)) : Option R :=
  bif (decide (t8 < (List.length t0 : Int))) then
    (idx t0 t8).bind fun x2 =>
    asrt true (t5 != 0) (
      asrt true (decide (0 ≤ t8) && decide (t8 < (List.length o0 : Int))) (
        ((o0)[(t8 : Int).toNat]?).bind fun x3 =>
        asrt true (decide (0 ≤ t8) && decide (t8 < (List.length (List.set o0 (t8 : Int).toNat (IntKind.i64.wrap (Int.tdiv (IntKind.i64.wrap (x2 * t1)) t5))) : Int))) (
          (((List.set o0 (t8 : Int).toNat (IntKind.i64.wrap (Int.tdiv (IntKind.i64.wrap (x2 * t1)) t5))))[(t8 : Int).toNat]?).bind fun x4 =>
          kn (IntKind.i64.wrap (t7 - x4)) (IntKind.i64.wrap (t8 + 1)) (List.set o0 (t8 : Int).toNat (IntKind.i64.wrap (Int.tdiv (IntKind.i64.wrap (x2 * t1)) t5))))))
  else
    k1 t7 o0
noncomputable def l26_1 {R : Type} (t0 : (List Int)) (t1 : Int) (t5 : Int) (k1 : Int → (List Int) → Option R) : Nat → Int → Int → (List Int) → Option R
  | 0, _, _, _ => none
  | n + 1, t7, t8, o0 => s26_1 t0 t1 t5 (l26_1 t0 t1 t5 k1 n) k1 t7 t8 o0
noncomputable def L26_1 : LE := ⟨8, 0, ⟨[(0, (.dat (.sl (.int .i64)))), (1, (.dat (.int .i64))), (5, (.dat (.int .i64))), (6, (.own 0)), (7, (.dat (.int .i64))), (8, (.dat (.int .i64)))], [(.arr (.int .i64))]⟩, fun R n x k => l26_1 x.1.1 x.1.2.1 x.1.2.2.1 (fun y0 y1 => k (.exit 0) ⟨[(0, (.dat (.sl (.int .i64)) x.1.1)), (1, (.dat (.int .i64) x.1.2.1)), (5, (.dat (.int .i64) x.1.2.2.1)), (6, (.own 0)), (7, (.dat (.int .i64) y0))], [(.arr (.int .i64) y1)]⟩) n x.1.2.2.2.2.1 x.1.2.2.2.2.2.1 x.2.1⟩
/-- a round of a loop of consol/consolref36.share -/
noncomputable def s26_2 {R : Type} (t0 : (List Int)) (t1 : Int) (t5 : Int) (o1 : (List Bool)) (kn : Int → Int → Option R) (k1 : Int → Option R) (t10 : Int) (t11 : Int) : Option R :=
  bif (decide (t11 < (List.length t0 : Int))) then
    cont (fun (k10 : Int → _) =>
      asrt true (decide (0 ≤ t11) && decide (t11 < (List.length o1 : Int))) (
        ((o1)[(t11 : Int).toNat]?).bind fun x7 =>
        (idxG (((!x7) == true) && ((decide (t10 < 0)) == false)) 0 t0 t11).bind fun x8 =>
        asrt (((!x7) == true) && ((decide (t10 < 0)) == false)) (t5 != 0) (
          (idxG (((!x7) == true) && ((decide (t10 < 0)) == false)) 0 t0 t10).bind fun x9 =>
          asrt (((!x7) == true) && ((decide (t10 < 0)) == false)) (t5 != 0) (
            bif ((!x7) && ((decide (t10 < 0)) || (decide ((Int.tmod (IntKind.i64.wrap (x8 * t1)) t5) > (Int.tmod (IntKind.i64.wrap (x9 * t1)) t5))))) then
              k10 t11
            else
              k10 t10)))) fun y10 =>
    kn y10 (IntKind.i64.wrap (t11 + 1))
  else
    k1 t10
noncomputable def l26_2 {R : Type} (t0 : (List Int)) (t1 : Int) (t5 : Int) (o1 : (List Bool)) (k1 : Int → Option R) : Nat → Int → Int → Option R
  | 0, _, _ => none
  | n + 1, t10, t11 => s26_2 t0 t1 t5 o1 (l26_2 t0 t1 t5 o1 k1 n) k1 t10 t11
noncomputable def L26_2 : LE := ⟨16, 0, ⟨[(0, (.dat (.sl (.int .i64)))), (1, (.dat (.int .i64))), (5, (.dat (.int .i64))), (6, (.own 0)), (7, (.dat (.int .i64))), (9, (.own 1)), (10, (.dat (.int .i64))), (11, (.dat (.int .i64)))], [(.arr (.int .i64)), (.arr .bool)]⟩, fun R n x k => l26_2 x.1.1 x.1.2.1 x.1.2.2.1 x.2.2.1 (fun y0 => k (.exit 4) ⟨[(0, (.dat (.sl (.int .i64)) x.1.1)), (1, (.dat (.int .i64) x.1.2.1)), (5, (.dat (.int .i64) x.1.2.2.1)), (6, (.own 0)), (7, (.dat (.int .i64) x.1.2.2.2.2.1)), (9, (.own 1)), (10, (.dat (.int .i64) y0))], [(.arr (.int .i64) x.2.1), (.arr .bool x.2.2.1)]⟩) n x.1.2.2.2.2.2.2.1 x.1.2.2.2.2.2.2.2.1⟩
/-- a round of a loop of consol/consolref36.share -/
noncomputable def s26_3 {R : Type} (t0 : (List Int)) (t1 : Int) (t5 : Int) (kn : Int → (List Int) → (List Bool) → Option R) (k1 : (List Int) → Option R) (t7 : Int) (o0 : (List Int)) (o1 : (List Bool)) : Option R :=
  bif (decide (t7 > 0)) then
    l26_2 t0 t1 t5 o1 (fun y11 =>
        asrt true (decide (0 ≤ y11) && decide (y11 < (List.length o1 : Int))) (
          ((o1)[(y11 : Int).toNat]?).bind fun x12 =>
          asrt true (decide (0 ≤ y11) && decide (y11 < (List.length o0 : Int))) (
            ((o0)[(y11 : Int).toNat]?).bind fun x13 =>
            asrt true (decide (0 ≤ y11) && decide (y11 < (List.length o0 : Int))) (
              ((o0)[(y11 : Int).toNat]?).bind fun x14 =>
              kn (IntKind.i64.wrap (t7 - 1)) (List.set o0 (y11 : Int).toNat (IntKind.i64.wrap (x13 + 1))) (List.set o1 (y11 : Int).toNat true))))) FUEL (-1) 0
  else
    k1 o0
noncomputable def l26_3 {R : Type} (t0 : (List Int)) (t1 : Int) (t5 : Int) (k1 : (List Int) → Option R) : Nat → Int → (List Int) → (List Bool) → Option R
  | 0, _, _, _ => none
  | n + 1, t7, o0, o1 => s26_3 t0 t1 t5 (l26_3 t0 t1 t5 k1 n) k1 t7 o0 o1
noncomputable def L26_3 : LE := ⟨13, 0, ⟨[(0, (.dat (.sl (.int .i64)))), (1, (.dat (.int .i64))), (5, (.dat (.int .i64))), (6, (.own 0)), (7, (.dat (.int .i64))), (9, (.own 1))], [(.arr (.int .i64)), (.arr .bool)]⟩, fun R n x k => l26_3 x.1.1 x.1.2.1 x.1.2.2.1 (fun y0 => k (.exit 2) ⟨[(6, (.own 0))], [(.arr (.int .i64) y0)]⟩) n x.1.2.2.2.2.1 x.2.1 x.2.2.1⟩
noncomputable def C26 : Cfg := mkCfg [(8, ⟨[0, 1, 5, 6, 7, 8], []⟩), (13, ⟨[0, 1, 5, 6, 7, 9], []⟩), (16, ⟨[0, 1, 5, 6, 7, 9, 10, 11], []⟩), (17, ⟨[0, 1, 5, 6, 7, 9, 10, 11], []⟩)] [(8, (⟨[0, 1, 5, 6, 7], []⟩, ⟨[4], []⟩)), (13, (⟨[6], []⟩, ⟨[4], []⟩)), (16, (⟨[0, 1, 5, 6, 7, 9, 10], []⟩, ⟨[4], []⟩))] (([(0, L26_1), (2, L26_2), (1, L26_3)] : List (Nat × LE)).map (·.2))
theorem ek26_1 : EOk E26 C26 Try.f26.ntmps (bodyL Try.f26 0) L26_1 := eok_of (e := L26_1) (fun R x Kn k => s26_1 x.1.1 x.1.2.1 x.1.2.2.1 (fun v0 v1 v2 => Kn ((x.1.1, x.1.2.1, x.1.2.2.1, (), v0, v1, ()), (v2, ()))) (fun y0 y1 => k (.exit 0) ⟨[(0, (.dat (.sl (.int .i64)) x.1.1)), (1, (.dat (.int .i64) x.1.2.1)), (5, (.dat (.int .i64) x.1.2.2.1)), (6, (.own 0)), (7, (.dat (.int .i64) y0))], [(.arr (.int .i64) y1)]⟩) x.1.2.2.2.2.1 x.1.2.2.2.2.2.1 x.2.1) (fun _ _ _ => rfl) (fun _ _ _ _ => rfl) (fun R x Kn k => by kernel_rfl)
theorem ek26_2 : EOk E26 C26 Try.f26.ntmps (bodyL Try.f26 2) L26_2 := eok_of (e := L26_2) (fun R x Kn k => s26_2 x.1.1 x.1.2.1 x.1.2.2.1 x.2.2.1 (fun v0 v1 => Kn ((x.1.1, x.1.2.1, x.1.2.2.1, (), x.1.2.2.2.2.1, (), v0, v1, ()), (x.2.1, x.2.2.1, ()))) (fun y0 => k (.exit 4) ⟨[(0, (.dat (.sl (.int .i64)) x.1.1)), (1, (.dat (.int .i64) x.1.2.1)), (5, (.dat (.int .i64) x.1.2.2.1)), (6, (.own 0)), (7, (.dat (.int .i64) x.1.2.2.2.2.1)), (9, (.own 1)), (10, (.dat (.int .i64) y0))], [(.arr (.int .i64) x.2.1), (.arr .bool x.2.2.1)]⟩) x.1.2.2.2.2.2.2.1 x.1.2.2.2.2.2.2.2.1) (fun _ _ _ => rfl) (fun _ _ _ _ => rfl) (fun R x Kn k => by kernel_rfl)
theorem ek26_3 : EOk E26 C26 Try.f26.ntmps (bodyL Try.f26 1) L26_3 := eok_of (e := L26_3) (fun R x Kn k => s26_3 x.1.1 x.1.2.1 x.1.2.2.1 (fun v0 v1 v2 => Kn ((x.1.1, x.1.2.1, x.1.2.2.1, (), v0, (), ()), (v1, v2, ()))) (fun y0 => k (.exit 2) ⟨[(6, (.own 0))], [(.arr (.int .i64) y0)]⟩) x.1.2.2.2.2.1 x.2.1 x.2.2.1) (fun _ _ _ => rfl) (fun _ _ _ _ => rfl) (fun R x Kn k => by kernel_rfl)
theorem lm26 : ∀ c, Try.f26.body = some c → LmOk E26 C26 Try.f26.ntmps c := lmOk_of (ps := [(0, L26_1), (2, L26_2), (1, L26_3)]) (by kernel_rfl) (by kernel_rfl) ⟨ek26_1, ek26_2, ek26_3, trivial⟩
noncomputable def m26 (a0 : (List Int)) (a1 : Int) : Option ((List Int)) :=
  (m25 a0).bind fun r1 =>
  asrt true (decide (0 ≤ (List.length a0 : Int)) && decide ((List.length a0 : Int) ≤ (List.length a0 : Int)) && decide ((List.length a0 : Int) ≤ (LIM : Int))) (
    bif (r1 == 0) then
      some (List.replicate ((List.length a0 : Int) : Int).toNat 0)
    else
      l26_1 a0 a1 r1 (fun y5 y6 =>
          asrt true (decide (0 ≤ (List.length a0 : Int)) && decide ((List.length a0 : Int) ≤ (List.length a0 : Int)) && decide ((List.length a0 : Int) ≤ (LIM : Int))) (
            l26_3 a0 a1 r1 (fun y15 =>
                some y15) FUEL y5 y6 (List.replicate ((List.length a0 : Int) : Int).toNat false))) FUEL a1 0 (List.replicate ((List.length a0 : Int) : Int).toNat 0))
theorem q26 (x : tyL [(.sl (.int .i64)), (.int .i64)]) : execF E26 C26 Try.f26 (datL [(.sl (.int .i64)), (.int .i64)] x) [] (retOwn (.int .i64)) = m26 x.1 x.2.1 := by kernel_rfl
noncomputable def c26 : CmE := ownE 26 [(.sl (.int .i64)), (.int .i64)] (.int .i64) (fun x => m26 x.1 x.2.1)
theorem d26 : CmOk Try.prog c26 := own_ok ca26 (frun_of (E := E26) ok26 ord lm26 Try.func26 q26)

/-! 13: consol/consolref36.Taken -/
theorem ca13 : callable Try.prog 13 := ⟨Try.f13, Try.func13, by kernel_rfl, by kernel_rfl⟩
noncomputable def E13 : Env := mkEnv2 Try.prog [e22, e23, e24, e25] [c16, c26]
theorem ok13 : EnvOk E13 := mkEnv2_ok (by simp only [List.mem_cons, List.not_mem_nil, or_false, forall_eq_or_imp, forall_eq]; exact ⟨p22, p23, p24, p25⟩) (by simp only [List.mem_cons, List.not_mem_nil, or_false, forall_eq_or_imp, forall_eq]; exact ⟨d16, d26⟩)
/-- a round of a loop of consol/consolref36.Taken -/
noncomputable def s13_1 {R : Type} (t1 : (List T38)) (o0 : T22) (o1 : (List Int)) (kn : Int → (List Int) → (List Int) → Option R) (k1 : (List Int) → (List Int) → Option R) (t11 : Int) (o2 : (List Int)) (o3 : (List Int)) : Option R :=
  bif (decide (t11 < (List.length t1 : Int))) then
    cont (fun (k12 : ((List Int) × (List Int)) → _) =>
      (idx t1 t11).bind fun x7 =>
      bif (decide (x7.2.2.1 ≤ o0.2.2.1)) then
        asrt true (decide (0 ≤ t11) && decide (t11 < (List.length o1 : Int))) (
          ((o1)[(t11 : Int).toNat]?).bind fun x8 =>
          asrt true (decide (0 ≤ t11) && decide (t11 < (List.length o2 : Int))) (
            ((o2)[(t11 : Int).toNat]?).bind fun x9 =>
            k12 ((List.set o2 (t11 : Int).toNat x8), o3)))
      else
        asrt true (decide (0 ≤ t11) && decide (t11 < (List.length o1 : Int))) (
          ((o1)[(t11 : Int).toNat]?).bind fun x10 =>
          asrt true (decide (0 ≤ t11) && decide (t11 < (List.length o3 : Int))) (
            ((o3)[(t11 : Int).toNat]?).bind fun x11 =>
            k12 (o2, (List.set o3 (t11 : Int).toNat x10))))) fun y12 =>
    kn (IntKind.i64.wrap (t11 + 1)) y12.1 y12.2
  else
    k1 o2 o3
noncomputable def l13_1 {R : Type} (t1 : (List T38)) (o0 : T22) (o1 : (List Int)) (k1 : (List Int) → (List Int) → Option R) : Nat → Int → (List Int) → (List Int) → Option R
  | 0, _, _, _ => none
  | n + 1, t11, o2, o3 => s13_1 t1 o0 o1 (l13_1 t1 o0 o1 k1 n) k1 t11 o2 o3
noncomputable def L13_1 : LE := ⟨12, 0, ⟨[(1, (.dat (.sl G38))), (3, (.box 0 [] 0)), (8, (.own 1)), (9, (.own 2)), (10, (.own 3)), (11, (.dat (.int .i64)))], [(.box (.dat G22)), (.arr (.int .i64)), (.arr (.int .i64)), (.arr (.int .i64))]⟩, fun R n x k => l13_1 x.1.1 x.2.1 x.2.2.1 (fun y0 y1 => k (.exit 0) ⟨[(1, (.dat (.sl G38) x.1.1)), (3, (.box 0 [] 0)), (9, (.own 1)), (10, (.own 2))], [(.box (.dat G22 x.2.1)), (.arr (.int .i64) y0), (.arr (.int .i64) y1)]⟩) n x.1.2.2.2.2.2.1 x.2.2.2.1 x.2.2.2.2.1⟩
/-- a round of a loop of consol/consolref36.Taken -/
noncomputable def s13_2 {R : Type} (t1 : (List T38)) (o0 : (List Int)) (kn : Int → (List Int) → Option R) (k1 : (List Int) → Option R) (t13 : Int) (o1 : (List Int)) : Option R :=
  bif (decide (t13 < (List.length t1 : Int))) then
    asrt true (decide (0 ≤ t13) && decide (t13 < (List.length o1 : Int))) (
      ((o1)[(t13 : Int).toNat]?).bind fun x19 =>
      asrt true (decide (0 ≤ t13) && decide (t13 < (List.length o0 : Int))) (
        ((o0)[(t13 : Int).toNat]?).bind fun x20 =>
        asrt true (decide (0 ≤ t13) && decide (t13 < (List.length o1 : Int))) (
          ((o1)[(t13 : Int).toNat]?).bind fun x21 =>
          kn (IntKind.i64.wrap (t13 + 1)) (List.set o1 (t13 : Int).toNat (IntKind.i64.wrap (x19 + x20))))))
  else
    k1 o1
noncomputable def l13_2 {R : Type} (t1 : (List T38)) (o0 : (List Int)) (k1 : (List Int) → Option R) : Nat → Int → (List Int) → Option R
  | 0, _, _ => none
  | n + 1, t13, o1 => s13_2 t1 o0 (l13_2 t1 o0 k1 n) k1 t13 o1
noncomputable def L13_2 : LE := ⟨21, 0, ⟨[(1, (.dat (.sl G38))), (9, (.own 0)), (12, (.own 1)), (13, (.dat (.int .i64)))], [(.arr (.int .i64)), (.arr (.int .i64))]⟩, fun R n x k => l13_2 x.1.1 x.2.1 (fun y0 => k (.exit 2) ⟨[(12, (.own 0))], [(.arr (.int .i64) y0)]⟩) n x.1.2.2.2.1 x.2.2.1⟩
noncomputable def C13 : Cfg := mkCfg [(12, ⟨[1, 3, 8, 9, 10, 11], []⟩), (13, ⟨[1, 3, 8, 9, 10, 11], []⟩), (21, ⟨[1, 9, 12, 13], []⟩)] [(12, (⟨[1, 3, 9, 10], []⟩, ⟨[6, 7], []⟩)), (21, (⟨[12], []⟩, ⟨[6, 7], []⟩))] (([(0, L13_1), (1, L13_2)] : List (Nat × LE)).map (·.2))
theorem ek13_1 : EOk E13 C13 Try.f13.ntmps (bodyL Try.f13 0) L13_1 := eok_of (e := L13_1) (fun R x Kn k => s13_1 x.1.1 x.2.1 x.2.2.1 (fun v0 v1 v2 => Kn ((x.1.1, (), (), (), (), v0, ()), (x.2.1, x.2.2.1, v1, v2, ()))) (fun y0 y1 => k (.exit 0) ⟨[(1, (.dat (.sl G38) x.1.1)), (3, (.box 0 [] 0)), (9, (.own 1)), (10, (.own 2))], [(.box (.dat G22 x.2.1)), (.arr (.int .i64) y0), (.arr (.int .i64) y1)]⟩) x.1.2.2.2.2.2.1 x.2.2.2.1 x.2.2.2.2.1) (fun _ _ _ => rfl) (fun _ _ _ _ => rfl) (fun R x Kn k => by kernel_rfl)
theorem ek13_2 : EOk E13 C13 Try.f13.ntmps (bodyL Try.f13 1) L13_2 := eok_of (e := L13_2) (fun R x Kn k => s13_2 x.1.1 x.2.1 (fun v0 v1 => Kn ((x.1.1, (), (), v0, ()), (x.2.1, v1, ()))) (fun y0 => k (.exit 2) ⟨[(12, (.own 0))], [(.arr (.int .i64) y0)]⟩) x.1.2.2.2.1 x.2.2.1) (fun _ _ _ => rfl) (fun _ _ _ _ => rfl) (fun R x Kn k => by kernel_rfl)
theorem lm13 : ∀ c, Try.f13.body = some c → LmOk E13 C13 Try.f13.ntmps c := lmOk_of (ps := [(0, L13_1), (1, L13_2)]) (by kernel_rfl) (by kernel_rfl) ⟨ek13_1, ek13_2, trivial⟩
noncomputable def m13 (a0 : T22) (a1 : (List T38)) (a2 : (List Int)) : Option (((List Int) × (Int × Unit))) :=
  (m22 a0).bind fun r1 =>
  (bif ((!r1) == false) then (m23 a2) else some false).bind fun r2 =>
  (bif (((!r1) || (!r2)) == false) then (m24 a1 (List.length a2 : Int)) else some false).bind fun r3 =>
  bif (((!r1) || (!r2)) || (!r3)) then
    some ([], 1, ())
  else
    (m16 a0 a1 a2).bind fun r4 =>
    (m25 r4).bind fun r5 =>
    bif (decide (r5 < a0.2.2.2.2.2.2.1)) then
      asrt true (decide (0 ≤ (List.length a1 : Int)) && decide ((List.length a1 : Int) ≤ (List.length a1 : Int)) && decide ((List.length a1 : Int) ≤ (LIM : Int))) (
        some ((List.replicate ((List.length a1 : Int) : Int).toNat 0), 0, ()))
    else
      (m25 r4).bind fun r6 =>
      bif (decide (r6 ≤ a0.2.2.2.2.2.2.2.1)) then
        some (r4, 0, ())
      else
        asrt true (decide (0 ≤ (List.length a1 : Int)) && decide ((List.length a1 : Int) ≤ (List.length a1 : Int)) && decide ((List.length a1 : Int) ≤ (LIM : Int))) (
          asrt true (decide (0 ≤ (List.length a1 : Int)) && decide ((List.length a1 : Int) ≤ (List.length a1 : Int)) && decide ((List.length a1 : Int) ≤ (LIM : Int))) (
            l13_1 a1 a0 r4 (fun y13 y14 =>
                (m25 y13).bind fun r15 =>
                bif (decide (r15 ≥ a0.2.2.2.2.2.2.2.1)) then
                  (m26 y13 a0.2.2.2.2.2.2.2.1).bind fun r16 =>
                  some (r16, 0, ())
                else
                  (m25 y13).bind fun r17 =>
                  (m26 y14 (IntKind.i64.wrap (a0.2.2.2.2.2.2.2.1 - r17))).bind fun r18 =>
                  l13_2 a1 y13 (fun y22 =>
                      some (y22, 0, ())) FUEL 0 r18) FUEL 0 (List.replicate ((List.length a1 : Int) : Int).toNat 0) (List.replicate ((List.length a1 : Int) : Int).toNat 0)))
theorem q13 (x : tyL [G22, (.sl G38), (.sl (.int .i64))]) : execF E13 C13 Try.f13 (datL [G22, (.sl G38), (.sl (.int .i64))] x) [] (retT [true, false] (.cons (.sl (.int .i64)) (.cons (.int .i64) .nil))) = m13 x.1 x.2.1 x.2.2.1 := by kernel_rfl
noncomputable def c13 : CmE := ownT 13 [G22, (.sl G38), (.sl (.int .i64))] [true, false] (.cons (.sl (.int .i64)) (.cons (.int .i64) .nil)) (fun x => m13 x.1 x.2.1 x.2.2.1)
theorem d13 : CmOk Try.prog c13 := ownT_ok ca13 (frun_of (E := E13) ok13 ord lm13 Try.func13 q13)

/-! 11: consol/consolref36.Result -/
theorem ca11 : callable Try.prog 11 := ⟨Try.f11, Try.func11, by kernel_rfl, by kernel_rfl⟩
noncomputable def E11 : Env := mkEnv2 Try.prog [] [c13]
theorem ok11 : EnvOk E11 := mkEnv2_ok (by simp) (by simp only [List.mem_cons, List.not_mem_nil, or_false, forall_eq]; exact d13)
/-- a round of a loop of consol/consolref36.Result -/
noncomputable def s11_1 {R : Type} (t1 : (List T38)) (t13 : Int) (o0 : T22) (o1 : (List Int)) (kn : Int → Int → Int → Option R) (k1 : Int → Int → Option R) (t14 : Int) (t15 : Int) (t16 : Int) : Option R :=
  bif (decide (t16 < (List.length t1 : Int))) then
    cont (fun (k7 : (Int × Int) → _) =>
      (idx t1 t16).bind fun x2 =>
      bif (x2.1 != t13) then
        k7 (t14, t15)
      else
        asrt true (decide (0 ≤ t16) && decide (t16 < (List.length o1 : Int))) (
          ((o1)[(t16 : Int).toNat]?).bind fun x3 =>
          (idx t1 t16).bind fun x4 =>
          bif (decide (x4.2.2.1 ≤ o0.2.2.1)) then
            asrt true (decide (0 ≤ t16) && decide (t16 < (List.length o1 : Int))) (
              ((o1)[(t16 : Int).toNat]?).bind fun x5 =>
              k7 ((IntKind.i64.wrap (t14 + x3)), (IntKind.i64.wrap (t15 + (IntKind.i64.wrap (o0.2.2.2.2.1 * x5))))))
          else
            asrt true (decide (0 ≤ t16) && decide (t16 < (List.length o1 : Int))) (
              ((o1)[(t16 : Int).toNat]?).bind fun x6 =>
              k7 ((IntKind.i64.wrap (t14 + x3)), (IntKind.i64.wrap (t15 + (IntKind.i64.wrap (o0.2.2.2.2.2.1 * x6)))))))) fun y7 =>
    kn y7.1 y7.2 (IntKind.i64.wrap (t16 + 1))
  else
    k1 t14 t15
noncomputable def l11_1 {R : Type} (t1 : (List T38)) (t13 : Int) (o0 : T22) (o1 : (List Int)) (k1 : Int → Int → Option R) : Nat → Int → Int → Int → Option R
  | 0, _, _, _ => none
  | n + 1, t14, t15, t16 => s11_1 t1 t13 o0 o1 (l11_1 t1 t13 o0 o1 k1 n) k1 t14 t15 t16
noncomputable def L11_1 : LE := ⟨13, 0, ⟨[(1, (.dat (.sl G38))), (2, (.dat (.sl (.int .i64)))), (3, (.box 0 [] 0)), (9, (.own 1)), (11, (.own 2)), (12, (.own 3)), (13, (.dat (.int .i64))), (14, (.dat (.int .i64))), (15, (.dat (.int .i64))), (16, (.dat (.int .i64)))], [(.box (.dat G22)), (.arr (.int .i64)), (.arr G40), (.arr G40)]⟩, fun R n x k => l11_1 x.1.1 x.1.2.2.2.2.2.2.1 x.2.1 x.2.2.1 (fun y0 y1 => k (.exit 2) ⟨[(1, (.dat (.sl G38) x.1.1)), (2, (.dat (.sl (.int .i64)) x.1.2.1)), (3, (.box 0 [] 0)), (9, (.own 1)), (11, (.own 2)), (12, (.own 3)), (13, (.dat (.int .i64) x.1.2.2.2.2.2.2.1)), (14, (.dat (.int .i64) y0)), (15, (.dat (.int .i64) y1))], [(.box (.dat G22 x.2.1)), (.arr (.int .i64) x.2.2.1), (.arr G40 x.2.2.2.1), (.arr G40 x.2.2.2.2.1)]⟩) n x.1.2.2.2.2.2.2.2.1 x.1.2.2.2.2.2.2.2.2.1 x.1.2.2.2.2.2.2.2.2.2.1⟩
/-- a round of a loop of consol/consolref36.Result -/
noncomputable def s11_2 {R : Type} (t1 : (List T38)) (t2 : (List Int)) (o0 : T22) (o1 : (List Int)) (kn : Int → (List T40) → (List T40) → Option R) (k1 : (List T40) → (List T40) → Option R) (t13 : Int) (o2 : (List T40)) (o3 : (List T40)) : Option R :=
  bif (decide (t13 < (List.length t2 : Int))) then
    cont (fun (k11 : ((List T40) × (List T40)) → _) =>
      l11_1 t1 t13 o0 o1 (fun y8 y9 =>
          cont (fun (k10 : (List T40) → _) =>
            bif (decide (y8 > 0)) then
              asrt true (decide (List.length (α := T40) o2 + List.length (α := T40) [(t13, y8, ())] ≤ LIM)) (
                k10 (o2 ++ [(t13, y8, ())]))
            else
              k10 o2) fun y10 =>
          bif (decide (y9 ≥ 1000)) then
            asrt true (decide (List.length (α := T40) o3 + List.length (α := T40) [(t13, (IntKind.i64.wrap (Int.tdiv y9 1000)), ())] ≤ LIM)) (
              k11 (y10, (o3 ++ [(t13, (IntKind.i64.wrap (Int.tdiv y9 1000)), ())])))
          else
            k11 (y10, o3)) FUEL 0 0 0) fun y11 =>
    kn (IntKind.i64.wrap (t13 + 1)) y11.1 y11.2
  else
    k1 o2 o3
noncomputable def l11_2 {R : Type} (t1 : (List T38)) (t2 : (List Int)) (o0 : T22) (o1 : (List Int)) (k1 : (List T40) → (List T40) → Option R) : Nat → Int → (List T40) → (List T40) → Option R
  | 0, _, _, _ => none
  | n + 1, t13, o2, o3 => s11_2 t1 t2 o0 o1 (l11_2 t1 t2 o0 o1 k1 n) k1 t13 o2 o3
noncomputable def L11_2 : LE := ⟨8, 0, ⟨[(1, (.dat (.sl G38))), (2, (.dat (.sl (.int .i64)))), (3, (.box 0 [] 0)), (9, (.own 1)), (11, (.own 2)), (12, (.own 3)), (13, (.dat (.int .i64)))], [(.box (.dat G22)), (.arr (.int .i64)), (.arr G40), (.arr G40)]⟩, fun R n x k => l11_2 x.1.1 x.1.2.1 x.2.1 x.2.2.1 (fun y0 y1 => k (.exit 0) ⟨[(11, (.own 0)), (12, (.own 1))], [(.arr G40 y0), (.arr G40 y1)]⟩) n x.1.2.2.2.2.2.2.1 x.2.2.2.1 x.2.2.2.2.1⟩
noncomputable def C11 : Cfg := mkCfg [(8, ⟨[1, 2, 3, 9, 11, 12, 13], [(11, [], G40), (12, [], G40)]⟩), (9, ⟨[1, 2, 3, 9, 11, 12, 13], [(12, [], G40)]⟩), (13, ⟨[1, 2, 3, 9, 11, 12, 13, 14, 15, 16], []⟩), (14, ⟨[1, 2, 3, 9, 11, 12, 13, 14, 15, 16], []⟩), (22, ⟨[1, 2, 3, 9, 11, 12, 13, 15], [(11, [], G40)]⟩)] [(8, (⟨[11, 12], []⟩, ⟨[6, 7, 8], []⟩)), (13, (⟨[1, 2, 3, 9, 11, 12, 13, 14, 15], []⟩, ⟨[6, 7, 8], []⟩))] (([(1, L11_1), (0, L11_2)] : List (Nat × LE)).map (·.2))
theorem ek11_1 : EOk E11 C11 Try.f11.ntmps (bodyL Try.f11 1) L11_1 := eok_of (e := L11_1) (fun R x Kn k => s11_1 x.1.1 x.1.2.2.2.2.2.2.1 x.2.1 x.2.2.1 (fun v0 v1 v2 => Kn ((x.1.1, x.1.2.1, (), (), (), (), x.1.2.2.2.2.2.2.1, v0, v1, v2, ()), (x.2.1, x.2.2.1, x.2.2.2.1, x.2.2.2.2.1, ()))) (fun y0 y1 => k (.exit 2) ⟨[(1, (.dat (.sl G38) x.1.1)), (2, (.dat (.sl (.int .i64)) x.1.2.1)), (3, (.box 0 [] 0)), (9, (.own 1)), (11, (.own 2)), (12, (.own 3)), (13, (.dat (.int .i64) x.1.2.2.2.2.2.2.1)), (14, (.dat (.int .i64) y0)), (15, (.dat (.int .i64) y1))], [(.box (.dat G22 x.2.1)), (.arr (.int .i64) x.2.2.1), (.arr G40 x.2.2.2.1), (.arr G40 x.2.2.2.2.1)]⟩) x.1.2.2.2.2.2.2.2.1 x.1.2.2.2.2.2.2.2.2.1 x.1.2.2.2.2.2.2.2.2.2.1) (fun _ _ _ => rfl) (fun _ _ _ _ => rfl) (fun R x Kn k => by kernel_rfl)
theorem ek11_2 : EOk E11 C11 Try.f11.ntmps (bodyL Try.f11 0) L11_2 := eok_of (e := L11_2) (fun R x Kn k => s11_2 x.1.1 x.1.2.1 x.2.1 x.2.2.1 (fun v0 v1 v2 => Kn ((x.1.1, x.1.2.1, (), (), (), (), v0, ()), (x.2.1, x.2.2.1, v1, v2, ()))) (fun y0 y1 => k (.exit 0) ⟨[(11, (.own 0)), (12, (.own 1))], [(.arr G40 y0), (.arr G40 y1)]⟩) x.1.2.2.2.2.2.2.1 x.2.2.2.1 x.2.2.2.2.1) (fun _ _ _ => rfl) (fun _ _ _ _ => rfl) (fun R x Kn k => by kernel_rfl)
theorem lm11 : ∀ c, Try.f11.body = some c → LmOk E11 C11 Try.f11.ntmps c := lmOk_of (ps := [(1, L11_1), (0, L11_2)]) (by kernel_rfl) (by kernel_rfl) ⟨ek11_1, ek11_2, trivial⟩
noncomputable def m11 (a0 : T22) (a1 : (List T38)) (a2 : (List Int)) : Option (((List T40) × ((List T40) × (Int × Unit)))) :=
  (m13 a0 a1 a2).bind fun r1 =>
  bif (r1.2.1 != 0) then
    some ([], [], r1.2.1, ())
  else
    l11_2 a1 a2 a0 r1.1 (fun y12 y13 =>
        some (y12, y13, 0, ())) FUEL 0 [] []
theorem q11 (x : tyL [G22, (.sl G38), (.sl (.int .i64))]) : execF E11 C11 Try.f11 (datL [G22, (.sl G38), (.sl (.int .i64))] x) [] (retT [true, true, false] (.cons (.sl G40) (.cons (.sl G40) (.cons (.int .i64) .nil)))) = m11 x.1 x.2.1 x.2.2.1 := by kernel_rfl
noncomputable def c11 : CmE := ownT 11 [G22, (.sl G38), (.sl (.int .i64))] [true, true, false] (.cons (.sl G40) (.cons (.sl G40) (.cons (.int .i64) .nil))) (fun x => m11 x.1 x.2.1 x.2.2.1)
theorem d11 : CmOk Try.prog c11 := ownT_ok ca11 (frun_of (E := E11) ok11 ord lm11 Try.func11 q11)

/-! 15: consol/consolref36.Ints -/
theorem ca15 : callable Try.prog 15 := ⟨Try.f15, Try.func15, by kernel_rfl, by kernel_rfl⟩
noncomputable def E15 : Env := mkEnv2 Try.prog [] []
theorem ok15 : EnvOk E15 := mkEnv2_ok (by simp) (by simp)
/-- a round of a loop of consol/consolref36.Ints -/
noncomputable def s15_1 {R : Type} (t0 : (List Int)) (t1 : (List Int)) (kn : Int → Option R) (k1 : Option R) (k2 : Option R) (t5 : Int) : Option R :=
  bif (decide (t5 < (List.length t0 : Int))) then
    (idx t0 t5).bind fun x1 =>
    (idx t1 t5).bind fun x2 =>
    bif (x1 != x2) then
      k2
    else
      kn (IntKind.i64.wrap (t5 + 1))
  else
    k1
noncomputable def l15_1 {R : Type} (t0 : (List Int)) (t1 : (List Int)) (k1 : Option R) (k2 : Option R) : Nat → Int → Option R
  | 0, _ => none
  | n + 1, t5 => s15_1 t0 t1 (l15_1 t0 t1 k1 k2 n) k1 k2 t5
noncomputable def L15_1 : LE := ⟨5, 0, ⟨[(0, (.dat (.sl (.int .i64)))), (1, (.dat (.sl (.int .i64)))), (5, (.dat (.int .i64)))], []⟩, fun R n x k => l15_1 x.1.1 x.1.2.1 (k (.exit 0) ⟨[], []⟩) (k .ret ⟨[(4, (.dat .bool false))], []⟩) n x.1.2.2.1⟩
noncomputable def C15 : Cfg := mkCfg [(5, ⟨[0, 1, 5], []⟩)] [(5, (⟨[], []⟩, ⟨[4], []⟩))] (([(0, L15_1)] : List (Nat × LE)).map (·.2))
theorem ek15_1 : EOk E15 C15 Try.f15.ntmps (bodyL Try.f15 0) L15_1 := eok_of (e := L15_1) (fun R x Kn k => s15_1 x.1.1 x.1.2.1 (fun v0 => Kn ((x.1.1, x.1.2.1, v0, ()), (()))) (k (.exit 0) ⟨[], []⟩) (k .ret ⟨[(4, (.dat .bool false))], []⟩) x.1.2.2.1) (fun _ _ _ => rfl) (fun _ _ _ _ => rfl) (fun R x Kn k => by kernel_rfl)
theorem lm15 : ∀ c, Try.f15.body = some c → LmOk E15 C15 Try.f15.ntmps c := lmOk_of (ps := [(0, L15_1)]) (by kernel_rfl) (by kernel_rfl) ⟨ek15_1, trivial⟩
noncomputable def m15 (a0 : (List Int)) (a1 : (List Int)) : Option (Bool) :=
  bif ((List.length a0 : Int) != (List.length a1 : Int)) then
    some false
  else
    l15_1 a0 a1 (
        some true) (
        some false) FUEL 0
noncomputable def e15 : PmE := entry 15 [(.sl (.int .i64)), (.sl (.int .i64))] false .bool (fun x => m15 x.1 x.2.1)
theorem q15 (x : tyL [(.sl (.int .i64)), (.sl (.int .i64))]) : execF E15 C15 Try.f15 (datL [(.sl (.int .i64)), (.sl (.int .i64))] x) [] (retK false .bool) = m15 x.1 x.2.1 := by kernel_rfl
theorem p15 : PmOk Try.prog e15 := pm_ok (E := E15) ok15 ord lm15 Try.func15 ca15 q15

/-! 3: consol/consollaw36.OfferTells -/
theorem ca3 : callable Try.prog 3 := ⟨Try.f3, Try.func3, by kernel_rfl, by kernel_rfl⟩
noncomputable def E3 : Env := mkEnv2 Try.prog [e8, e9, e14, e15] [c10, c11, c12, c13]
theorem ok3 : EnvOk E3 := mkEnv2_ok (by simp only [List.mem_cons, List.not_mem_nil, or_false, forall_eq_or_imp, forall_eq]; exact ⟨p8, p9, p14, p15⟩) (by simp only [List.mem_cons, List.not_mem_nil, or_false, forall_eq_or_imp, forall_eq]; exact ⟨d10, d11, d12, d13⟩)
noncomputable def C3 : Cfg := noCfg
theorem lm3 : ∀ c, Try.f3.body = some c → LmOk E3 C3 Try.f3.ntmps c := fun _ _ => noCfg_lm
noncomputable def m3 (a0 : T22) (a1 : (List T38)) (a2 : (List Int)) : Option (Bool) :=
  (m8).bind fun r1 =>
  (m9 a1 a2).bind fun r2 =>
  bif (!r2) then
    some r1
  else
    (m10 a0 a1 a2).bind fun r3 =>
    (m11 a0 a1 a2).bind fun r4 =>
    (m12 a0 a1 a2).bind fun r5 =>
    (m13 a0 a1 a2).bind fun r6 =>
    (bif ((r1 && (r3.2.2.1 == r4.2.2.1)) == true) then (m14 r3.1 r4.1) else some false).bind fun r7 =>
    (bif (((r1 && (r3.2.2.1 == r4.2.2.1)) && r7) == true) then (m14 r3.2.1 r4.2.1) else some false).bind fun r8 =>
    (bif (((((r1 && (r3.2.2.1 == r4.2.2.1)) && r7) && r8) && (r5.2.1 == r6.2.1)) == true) then (m15 r5.1 r6.1) else some false).bind fun r9 =>
    some (((((r1 && (r3.2.2.1 == r4.2.2.1)) && r7) && r8) && (r5.2.1 == r6.2.1)) && r9)
noncomputable def e3 : PmE := entry 3 [G22, (.sl G38), (.sl (.int .i64))] false .bool (fun x => m3 x.1 x.2.1 x.2.2.1)
theorem q3 (x : tyL [G22, (.sl G38), (.sl (.int .i64))]) : execF E3 C3 Try.f3 (datL [G22, (.sl G38), (.sl (.int .i64))] x) [] (retK false .bool) = m3 x.1 x.2.1 x.2.2.1 := by kernel_rfl
theorem p3 : PmOk Try.prog e3 := pm_ok (E := E3) ok3 ord lm3 Try.func3 ca3 q3

/-! 4: consol/consollaw36.OfferAll -/
theorem ca4 : callable Try.prog 4 := ⟨Try.f4, Try.func4, by kernel_rfl, by kernel_rfl⟩
noncomputable def E4 : Env := mkEnv2 Try.prog [e8, e9] [c10, c12, c16]
theorem ok4 : EnvOk E4 := mkEnv2_ok (by simp only [List.mem_cons, List.not_mem_nil, or_false, forall_eq_or_imp, forall_eq]; exact ⟨p8, p9⟩) (by simp only [List.mem_cons, List.not_mem_nil, or_false, forall_eq_or_imp, forall_eq]; exact ⟨d10, d12, d16⟩)
/-- a round of a loop of consol/consollaw36.OfferAll -/
noncomputable def s4_1 {R : Type} (t1 : (List T38)) (o0 : T22) (o1 : (List Int)) (o3 : (List Int)) (kn : Int → Int → Int → Option R) (k1 : Int → Int → Option R) (k2 : Option R) (t14 : Int) (t15 : Int) (t16 : Int) : Option R :=
  bif (decide (t16 < (List.length t1 : Int))) then
    asrt true (decide (0 ≤ t16) && decide (t16 < (List.length o1 : Int))) (
      ((o1)[(t16 : Int).toNat]?).bind fun x6 =>
      asrt ((decide (x6 < 0)) == false) (decide (0 ≤ t16) && decide (t16 < (List.length o1 : Int))) (
        ((bif ((decide (x6 < 0)) == false) then (o1)[(t16 : Int).toNat]? else some 0)).bind fun x7 =>
        asrt ((decide (x6 < 0)) == false) (decide (0 ≤ t16) && decide (t16 < (List.length o3 : Int))) (
          ((bif ((decide (x6 < 0)) == false) then (o3)[(t16 : Int).toNat]? else some 0)).bind fun x8 =>
          asrt (((decide (x6 < 0)) || (decide (x7 > x8))) == false) (decide (0 ≤ t16) && decide (t16 < (List.length o1 : Int))) (
            ((bif (((decide (x6 < 0)) || (decide (x7 > x8))) == false) then (o1)[(t16 : Int).toNat]? else some 0)).bind fun x9 =>
            (idxG (((decide (x6 < 0)) || (decide (x7 > x8))) == false) (0, 0, 0, ()) t1 t16).bind fun x10 =>
            (idxG ((((decide (x6 < 0)) || (decide (x7 > x8))) || (decide (x9 > x10.2.1))) == false) (0, 0, 0, ()) t1 t16).bind fun x11 =>
            asrt (((((decide (x6 < 0)) || (decide (x7 > x8))) || (decide (x9 > x10.2.1))) == false) && ((decide (x11.2.2.1 > o0.2.2.2.1)) == true)) (decide (0 ≤ t16) && decide (t16 < (List.length o1 : Int))) (
              ((bif (((((decide (x6 < 0)) || (decide (x7 > x8))) || (decide (x9 > x10.2.1))) == false) && ((decide (x11.2.2.1 > o0.2.2.2.1)) == true)) then (o1)[(t16 : Int).toNat]? else some 0)).bind fun x12 =>
              bif ((((decide (x6 < 0)) || (decide (x7 > x8))) || (decide (x9 > x10.2.1))) || ((decide (x11.2.2.1 > o0.2.2.2.1)) && (x12 != 0))) then
                k2
              else
                asrt true (decide (0 ≤ t16) && decide (t16 < (List.length o3 : Int))) (
                  ((o3)[(t16 : Int).toNat]?).bind fun x13 =>
                  asrt true (decide (0 ≤ t16) && decide (t16 < (List.length o1 : Int))) (
                    ((o1)[(t16 : Int).toNat]?).bind fun x14 =>
                    kn (IntKind.i64.wrap (t14 + x13)) (IntKind.i64.wrap (t15 + x14)) (IntKind.i64.wrap (t16 + 1)))))))))
  else
    k1 t14 t15
noncomputable def l4_1 {R : Type} (t1 : (List T38)) (o0 : T22) (o1 : (List Int)) (o3 : (List Int)) (k1 : Int → Int → Option R) (k2 : Option R) : Nat → Int → Int → Int → Option R
  | 0, _, _, _ => none
  | n + 1, t14, t15, t16 => s4_1 t1 o0 o1 o3 (l4_1 t1 o0 o1 o3 k1 k2 n) k1 k2 t14 t15 t16
noncomputable def L4_1 : LE := ⟨15, 0, ⟨[(1, (.dat (.sl G38))), (2, (.dat (.sl (.int .i64)))), (3, (.box 0 [] 0)), (7, (.dat .bool)), (8, (.own 1)), (10, (.own 2)), (13, (.own 3)), (14, (.dat (.int .i64))), (15, (.dat (.int .i64))), (16, (.dat (.int .i64)))], [(.box (.dat G22)), (.arr (.int .i64)), (.arr G40), (.arr (.int .i64))]⟩, fun R n x k => l4_1 x.1.1 x.2.1 x.2.2.1 x.2.2.2.2.1 (fun y0 y1 => k (.exit 0) ⟨[(2, (.dat (.sl (.int .i64)) x.1.2.1)), (3, (.box 0 [] 0)), (7, (.dat .bool x.1.2.2.2.1)), (10, (.own 1)), (14, (.dat (.int .i64) y0)), (15, (.dat (.int .i64) y1))], [(.box (.dat G22 x.2.1)), (.arr G40 x.2.2.2.1)]⟩) (k .ret ⟨[(6, (.dat .bool false))], []⟩) n x.1.2.2.2.2.2.2.2.1 x.1.2.2.2.2.2.2.2.2.1 x.1.2.2.2.2.2.2.2.2.2.1⟩
/-- a round of a loop of consol/consollaw36.OfferAll -/
noncomputable def s4_2 {R : Type} (t2 : (List Int)) (o0 : (List T40)) (kn : Int → Int → Option R) (k1 : Int → Option R) (k2 : Option R) (t18 : Int) (t19 : Int) : Option R :=
  bif (decide (t19 < (List.length o0 : Int))) then
    asrt true (decide (0 ≤ t19) && decide (t19 < (List.length o0 : Int))) (
      ((o0)[(t19 : Int).toNat]?).bind fun x18 =>
      asrt ((((decide (x18.1 < 0)) || (decide (x18.1 ≥ (List.length t2 : Int)))) == false) && ((decide (t19 > 0)) == true)) (decide (0 ≤ (IntKind.i64.wrap (t19 - 1))) && decide ((IntKind.i64.wrap (t19 - 1)) < (List.length o0 : Int))) (
        ((bif ((((decide (x18.1 < 0)) || (decide (x18.1 ≥ (List.length t2 : Int)))) == false) && ((decide (t19 > 0)) == true)) then (o0)[((IntKind.i64.wrap (t19 - 1)) : Int).toNat]? else some (0, 0, ()))).bind fun x19 =>
        bif (((decide (x18.1 < 0)) || (decide (x18.1 ≥ (List.length t2 : Int)))) || ((decide (t19 > 0)) && (decide (x19.1 ≥ x18.1)))) then
          k2
        else
          (idxG ((decide (x18.2.1 < 1)) == false) 0 t2 x18.1).bind fun x20 =>
          bif ((decide (x18.2.1 < 1)) || (decide (x18.2.1 > x20))) then
            k2
          else
            kn (IntKind.i64.wrap (t18 + x18.2.1)) (IntKind.i64.wrap (t19 + 1))))
  else
    k1 t18
noncomputable def l4_2 {R : Type} (t2 : (List Int)) (o0 : (List T40)) (k1 : Int → Option R) (k2 : Option R) : Nat → Int → Int → Option R
  | 0, _, _ => none
  | n + 1, t18, t19 => s4_2 t2 o0 (l4_2 t2 o0 k1 k2 n) k1 k2 t18 t19
noncomputable def L4_2 : LE := ⟨26, 0, ⟨[(2, (.dat (.sl (.int .i64)))), (7, (.dat .bool)), (10, (.own 0)), (15, (.dat (.int .i64))), (17, (.dat (.int .i64))), (18, (.dat (.int .i64))), (19, (.dat (.int .i64)))], [(.arr G40)]⟩, fun R n x k => l4_2 x.1.1 x.2.1 (fun y0 => k (.exit 2) ⟨[(7, (.dat .bool x.1.2.1)), (15, (.dat (.int .i64) x.1.2.2.2.1)), (17, (.dat (.int .i64) x.1.2.2.2.2.1)), (18, (.dat (.int .i64) y0))], []⟩) (k .ret ⟨[(6, (.dat .bool false))], []⟩) n x.1.2.2.2.2.2.1 x.1.2.2.2.2.2.2.1⟩
noncomputable def C4 : Cfg := mkCfg [(15, ⟨[1, 2, 3, 7, 8, 10, 13, 14, 15, 16], []⟩), (24, ⟨[2, 7, 10, 15, 17], []⟩), (26, ⟨[2, 7, 10, 15, 17, 18, 19], []⟩)] [(15, (⟨[2, 3, 7, 10, 14, 15], []⟩, ⟨[6], []⟩)), (26, (⟨[7, 15, 17, 18], []⟩, ⟨[6], []⟩))] (([(0, L4_1), (1, L4_2)] : List (Nat × LE)).map (·.2))
theorem ek4_1 : EOk E4 C4 Try.f4.ntmps (bodyL Try.f4 0) L4_1 := eok_of (e := L4_1) (fun R x Kn k => s4_1 x.1.1 x.2.1 x.2.2.1 x.2.2.2.2.1 (fun v0 v1 v2 => Kn ((x.1.1, x.1.2.1, (), x.1.2.2.2.1, (), (), (), v0, v1, v2, ()), (x.2.1, x.2.2.1, x.2.2.2.1, x.2.2.2.2.1, ()))) (fun y0 y1 => k (.exit 0) ⟨[(2, (.dat (.sl (.int .i64)) x.1.2.1)), (3, (.box 0 [] 0)), (7, (.dat .bool x.1.2.2.2.1)), (10, (.own 1)), (14, (.dat (.int .i64) y0)), (15, (.dat (.int .i64) y1))], [(.box (.dat G22 x.2.1)), (.arr G40 x.2.2.2.1)]⟩) (k .ret ⟨[(6, (.dat .bool false))], []⟩) x.1.2.2.2.2.2.2.2.1 x.1.2.2.2.2.2.2.2.2.1 x.1.2.2.2.2.2.2.2.2.2.1) (fun _ _ _ => rfl) (fun _ _ _ _ => rfl) (fun R x Kn k => by kernel_rfl)
theorem ek4_2 : EOk E4 C4 Try.f4.ntmps (bodyL Try.f4 1) L4_2 := eok_of (e := L4_2) (fun R x Kn k => s4_2 x.1.1 x.2.1 (fun v0 v1 => Kn ((x.1.1, x.1.2.1, (), x.1.2.2.2.1, x.1.2.2.2.2.1, v0, v1, ()), (x.2.1, ()))) (fun y0 => k (.exit 2) ⟨[(7, (.dat .bool x.1.2.1)), (15, (.dat (.int .i64) x.1.2.2.2.1)), (17, (.dat (.int .i64) x.1.2.2.2.2.1)), (18, (.dat (.int .i64) y0))], []⟩) (k .ret ⟨[(6, (.dat .bool false))], []⟩) x.1.2.2.2.2.2.1 x.1.2.2.2.2.2.2.1) (fun _ _ _ => rfl) (fun _ _ _ _ => rfl) (fun R x Kn k => by kernel_rfl)
theorem lm4 : ∀ c, Try.f4.body = some c → LmOk E4 C4 Try.f4.ntmps c := lmOk_of (ps := [(0, L4_1), (1, L4_2)]) (by kernel_rfl) (by kernel_rfl) ⟨ek4_1, ek4_2, trivial⟩
noncomputable def m4 (a0 : T22) (a1 : (List T38)) (a2 : (List Int)) : Option (Bool) :=
  (m8).bind fun r1 =>
  (m9 a1 a2).bind fun r2 =>
  bif (!r2) then
    some r1
  else
    (m12 a0 a1 a2).bind fun r3 =>
    (m10 a0 a1 a2).bind fun r4 =>
    bif (r3.2.1 != 0) then
      some (((r1 && (r3.2.1 == r4.2.2.1)) && (r3.2.1 == 1)) && ((IntKind.i64.wrap ((IntKind.i64.wrap ((List.length r3.1 : Int) + (List.length r4.1 : Int))) + (List.length r4.2.1 : Int))) == 0))
    else
      (m16 a0 a1 a2).bind fun r5 =>
      bif (((r4.2.2.1 != 0) || ((List.length r3.1 : Int) != (List.length a1 : Int))) || ((List.length r5 : Int) != (List.length a1 : Int))) then
        some false
      else
        l4_1 a1 a0 r3.1 r5 (fun y15 y16 =>
            cont (fun (k17 : Int → _) =>
              bif (decide (y15 < a0.2.2.2.2.2.2.1)) then
                k17 0
              else
                k17 (bif decide (a0.2.2.2.2.2.2.2.1 < y15) then a0.2.2.2.2.2.2.2.1 else y15)) fun y17 =>
            l4_2 a2 r4.1 (fun y21 =>
                some ((r1 && (y16 == y17)) && (y21 == y17))) (
                some false) FUEL 0 0) (
            some false) FUEL 0 0 0
noncomputable def e4 : PmE := entry 4 [G22, (.sl G38), (.sl (.int .i64))] false .bool (fun x => m4 x.1 x.2.1 x.2.2.1)
theorem q4 (x : tyL [G22, (.sl G38), (.sl (.int .i64))]) : execF E4 C4 Try.f4 (datL [G22, (.sl G38), (.sl (.int .i64))] x) [] (retK false .bool) = m4 x.1 x.2.1 x.2.2.1 := by kernel_rfl
theorem p4 : PmOk Try.prog e4 := pm_ok (E := E4) ok4 ord lm4 Try.func4 ca4 q4

/-! 5: consol/consollaw36.OfferFair -/
theorem ca5 : callable Try.prog 5 := ⟨Try.f5, Try.func5, by kernel_rfl, by kernel_rfl⟩
noncomputable def E5 : Env := mkEnv2 Try.prog [e8, e9] [c12, c16]
theorem ok5 : EnvOk E5 := mkEnv2_ok (by simp only [List.mem_cons, List.not_mem_nil, or_false, forall_eq_or_imp, forall_eq]; exact ⟨p8, p9⟩) (by simp only [List.mem_cons, List.not_mem_nil, or_false, forall_eq_or_imp, forall_eq]; exact ⟨d12, d16⟩)
/-- a round of a loop of consol/consollaw36.OfferFair -/
noncomputable def s5_1 {R : Type} (t1 : (List T38)) (o0 : T22) (o1 : (List Int)) (o2 : (List Int)) (kn : Int → T40 → T40 → Option R) (k1 : T40 → T40 → Option R) (t13 : Int) (o3 : T40) (o4 : T40) : Option R :=
  bif (decide (t13 < (List.length t1 : Int))) then
    cont (fun (k17 : (T40 × T40) → _) =>
      cont (fun (k6 : Int → _) =>
        (idx t1 t13).bind fun x5 =>
        bif (decide (x5.2.2.1 > o0.2.2.1)) then
          k6 1
        else
          k6 0) fun y6 =>
      bif (decide (y6 = 0)) then
        asrt true (decide (0 ≤ t13) && decide (t13 < (List.length o2 : Int))) (
          ((o2)[(t13 : Int).toNat]?).bind fun x12 =>
          bif (decide (y6 = 0)) then
            bif (decide (y6 = 0)) then
              asrt true (decide (0 ≤ t13) && decide (t13 < (List.length o1 : Int))) (
                ((o1)[(t13 : Int).toNat]?).bind fun x16 =>
                bif (decide (y6 = 0)) then
                  k17 (((IntKind.i64.wrap (o3.1 + x12)), o3.2.1, ()), ((IntKind.i64.wrap (o4.1 + x16)), o4.2.1, ()))
                else
                  bif (decide (y6 = 1)) then
                    k17 (((IntKind.i64.wrap (o3.1 + x12)), o3.2.1, ()), (o4.1, (IntKind.i64.wrap (o4.1 + x16)), ()))
                  else
                    none)
            else
              bif (decide (y6 = 1)) then
                asrt true (decide (0 ≤ t13) && decide (t13 < (List.length o1 : Int))) (
                  ((o1)[(t13 : Int).toNat]?).bind fun x15 =>
                  bif (decide (y6 = 0)) then
                    k17 (((IntKind.i64.wrap (o3.1 + x12)), o3.2.1, ()), ((IntKind.i64.wrap (o4.2.1 + x15)), o4.2.1, ()))
                  else
                    bif (decide (y6 = 1)) then
                      k17 (((IntKind.i64.wrap (o3.1 + x12)), o3.2.1, ()), (o4.1, (IntKind.i64.wrap (o4.2.1 + x15)), ()))
                    else
                      none)
              else
                none
          else
            bif (decide (y6 = 1)) then
              bif (decide (y6 = 0)) then
                asrt true (decide (0 ≤ t13) && decide (t13 < (List.length o1 : Int))) (
                  ((o1)[(t13 : Int).toNat]?).bind fun x14 =>
                  bif (decide (y6 = 0)) then
                    k17 ((o3.1, (IntKind.i64.wrap (o3.1 + x12)), ()), ((IntKind.i64.wrap (o4.1 + x14)), o4.2.1, ()))
                  else
                    bif (decide (y6 = 1)) then
                      k17 ((o3.1, (IntKind.i64.wrap (o3.1 + x12)), ()), (o4.1, (IntKind.i64.wrap (o4.1 + x14)), ()))
                    else
                      none)
              else
                bif (decide (y6 = 1)) then
                  asrt true (decide (0 ≤ t13) && decide (t13 < (List.length o1 : Int))) (
                    ((o1)[(t13 : Int).toNat]?).bind fun x13 =>
                    bif (decide (y6 = 0)) then
                      k17 ((o3.1, (IntKind.i64.wrap (o3.1 + x12)), ()), ((IntKind.i64.wrap (o4.2.1 + x13)), o4.2.1, ()))
                    else
                      bif (decide (y6 = 1)) then
                        k17 ((o3.1, (IntKind.i64.wrap (o3.1 + x12)), ()), (o4.1, (IntKind.i64.wrap (o4.2.1 + x13)), ()))
                      else
                        none)
                else
                  none
            else
              none)
      else
        bif (decide (y6 = 1)) then
          asrt true (decide (0 ≤ t13) && decide (t13 < (List.length o2 : Int))) (
            ((o2)[(t13 : Int).toNat]?).bind fun x7 =>
            bif (decide (y6 = 0)) then
              bif (decide (y6 = 0)) then
                asrt true (decide (0 ≤ t13) && decide (t13 < (List.length o1 : Int))) (
                  ((o1)[(t13 : Int).toNat]?).bind fun x11 =>
                  bif (decide (y6 = 0)) then
                    k17 (((IntKind.i64.wrap (o3.2.1 + x7)), o3.2.1, ()), ((IntKind.i64.wrap (o4.1 + x11)), o4.2.1, ()))
                  else
                    bif (decide (y6 = 1)) then
                      k17 (((IntKind.i64.wrap (o3.2.1 + x7)), o3.2.1, ()), (o4.1, (IntKind.i64.wrap (o4.1 + x11)), ()))
                    else
                      none)
              else
                bif (decide (y6 = 1)) then
                  asrt true (decide (0 ≤ t13) && decide (t13 < (List.length o1 : Int))) (
                    ((o1)[(t13 : Int).toNat]?).bind fun x10 =>
                    bif (decide (y6 = 0)) then
                      k17 (((IntKind.i64.wrap (o3.2.1 + x7)), o3.2.1, ()), ((IntKind.i64.wrap (o4.2.1 + x10)), o4.2.1, ()))
                    else
                      bif (decide (y6 = 1)) then
                        k17 (((IntKind.i64.wrap (o3.2.1 + x7)), o3.2.1, ()), (o4.1, (IntKind.i64.wrap (o4.2.1 + x10)), ()))
                      else
                        none)
                else
                  none
            else
              bif (decide (y6 = 1)) then
                bif (decide (y6 = 0)) then
                  asrt true (decide (0 ≤ t13) && decide (t13 < (List.length o1 : Int))) (
                    ((o1)[(t13 : Int).toNat]?).bind fun x9 =>
                    bif (decide (y6 = 0)) then
                      k17 ((o3.1, (IntKind.i64.wrap (o3.2.1 + x7)), ()), ((IntKind.i64.wrap (o4.1 + x9)), o4.2.1, ()))
                    else
                      bif (decide (y6 = 1)) then
                        k17 ((o3.1, (IntKind.i64.wrap (o3.2.1 + x7)), ()), (o4.1, (IntKind.i64.wrap (o4.1 + x9)), ()))
                      else
                        none)
                else
                  bif (decide (y6 = 1)) then
                    asrt true (decide (0 ≤ t13) && decide (t13 < (List.length o1 : Int))) (
                      ((o1)[(t13 : Int).toNat]?).bind fun x8 =>
                      bif (decide (y6 = 0)) then
                        k17 ((o3.1, (IntKind.i64.wrap (o3.2.1 + x7)), ()), ((IntKind.i64.wrap (o4.2.1 + x8)), o4.2.1, ()))
                      else
                        bif (decide (y6 = 1)) then
                          k17 ((o3.1, (IntKind.i64.wrap (o3.2.1 + x7)), ()), (o4.1, (IntKind.i64.wrap (o4.2.1 + x8)), ()))
                        else
                          none)
                  else
                    none
              else
                none)
        else
          none) fun y17 =>
    kn (IntKind.i64.wrap (t13 + 1)) y17.1 y17.2
  else
    k1 o3 o4
noncomputable def l5_1 {R : Type} (t1 : (List T38)) (o0 : T22) (o1 : (List Int)) (o2 : (List Int)) (k1 : T40 → T40 → Option R) : Nat → Int → T40 → T40 → Option R
  | 0, _, _, _ => none
  | n + 1, t13, o3, o4 => s5_1 t1 o0 o1 o2 (l5_1 t1 o0 o1 o2 k1 n) k1 t13 o3 o4
noncomputable def L5_1 : LE := ⟨14, 0, ⟨[(1, (.dat (.sl G38))), (3, (.box 0 [] 0)), (7, (.dat .bool)), (8, (.own 1)), (10, (.own 2)), (11, (.box 3 [] 0)), (12, (.box 4 [] 0)), (13, (.dat (.int .i64)))], [(.box (.dat G22)), (.arr (.int .i64)), (.arr (.int .i64)), (.box (.dat G40)), (.box (.dat G40))]⟩, fun R n x k => l5_1 x.1.1 x.2.1 x.2.2.1 x.2.2.2.1 (fun y0 y1 => k (.exit 0) ⟨[(1, (.dat (.sl G38) x.1.1)), (3, (.box 0 [] 0)), (7, (.dat .bool x.1.2.2.1)), (8, (.own 1)), (10, (.own 2)), (11, (.box 3 [] 0)), (12, (.box 4 [] 0))], [(.box (.dat G22 x.2.1)), (.arr (.int .i64) x.2.2.1), (.arr (.int .i64) x.2.2.2.1), (.box (.dat G40 y0)), (.box (.dat G40 y1))]⟩) n x.1.2.2.2.2.2.2.2.1 x.2.2.2.2.1 x.2.2.2.2.2.1⟩
/-- a round of a loop of consol/consollaw36.OfferFair -/
noncomputable def s5_2 {R : Type} (t1 : (List T38)) (o0 : T22) (o1 : (List Int)) (o2 : (List Int)) (o3 : T40) (o4 : T40) (kn : Int → Option R) (k1 : Option R) (k2 : Option R) (t15 : Int) : Option R :=
  bif (decide (t15 < (List.length t1 : Int))) then
    cont (fun (k25 : Unit → _) =>
      cont (fun (k21 : Int → _) =>
        (idx t1 t15).bind fun x20 =>
        bif (decide (x20.2.2.1 > o0.2.2.1)) then
          k21 1
        else
          k21 0) fun y21 =>
      asrt true (decide (0 ≤ t15) && decide (t15 < (List.length o1 : Int))) (
        ((o1)[(t15 : Int).toNat]?).bind fun x22 =>
        bif (decide (y21 = 0)) then
          asrt true (decide (0 ≤ t15) && decide (t15 < (List.length o2 : Int))) (
            ((o2)[(t15 : Int).toNat]?).bind fun x24 =>
            bif (decide (y21 = 0)) then
              bif (decide (y21 = 0)) then
                bif (decide (y21 = 0)) then
                  bif (decide (y21 = 0)) then
                    bif ((decide (o3.1 > 0)) && ((decide ((IntKind.i64.wrap ((IntKind.i64.wrap (x22 * o3.1)) - (IntKind.i64.wrap (x24 * o4.1)))) ≤ (IntKind.i64.wrap (0 - o3.1)))) || (decide ((IntKind.i64.wrap ((IntKind.i64.wrap (x22 * o3.1)) - (IntKind.i64.wrap (x24 * o4.1)))) ≥ o3.1)))) then
                      k2
                    else
                      k25 ()
                  else
                    bif (decide (y21 = 1)) then
                      bif ((decide (o3.1 > 0)) && ((decide ((IntKind.i64.wrap ((IntKind.i64.wrap (x22 * o3.1)) - (IntKind.i64.wrap (x24 * o4.1)))) ≤ (IntKind.i64.wrap (0 - o3.1)))) || (decide ((IntKind.i64.wrap ((IntKind.i64.wrap (x22 * o3.1)) - (IntKind.i64.wrap (x24 * o4.1)))) ≥ o3.2.1)))) then
                        k2
                      else
                        k25 ()
                    else
                      asrt (((decide (o3.1 > 0)) == true) && ((decide ((IntKind.i64.wrap ((IntKind.i64.wrap (x22 * o3.1)) - (IntKind.i64.wrap (x24 * o4.1)))) ≤ (IntKind.i64.wrap (0 - o3.1)))) == false)) false (
                        bif ((decide (o3.1 > 0)) && ((decide ((IntKind.i64.wrap ((IntKind.i64.wrap (x22 * o3.1)) - (IntKind.i64.wrap (x24 * o4.1)))) ≤ (IntKind.i64.wrap (0 - o3.1)))) || (decide ((IntKind.i64.wrap ((IntKind.i64.wrap (x22 * o3.1)) - (IntKind.i64.wrap (x24 * o4.1)))) ≥ o3.2.1)))) then
                          k2
                        else
                          k25 ())
                else
                  bif (decide (y21 = 1)) then
                    bif (decide (y21 = 0)) then
                      bif ((decide (o3.1 > 0)) && ((decide ((IntKind.i64.wrap ((IntKind.i64.wrap (x22 * o3.1)) - (IntKind.i64.wrap (x24 * o4.1)))) ≤ (IntKind.i64.wrap (0 - o3.2.1)))) || (decide ((IntKind.i64.wrap ((IntKind.i64.wrap (x22 * o3.1)) - (IntKind.i64.wrap (x24 * o4.1)))) ≥ o3.1)))) then
                        k2
                      else
                        k25 ()
                    else
                      bif (decide (y21 = 1)) then
                        bif ((decide (o3.1 > 0)) && ((decide ((IntKind.i64.wrap ((IntKind.i64.wrap (x22 * o3.1)) - (IntKind.i64.wrap (x24 * o4.1)))) ≤ (IntKind.i64.wrap (0 - o3.2.1)))) || (decide ((IntKind.i64.wrap ((IntKind.i64.wrap (x22 * o3.1)) - (IntKind.i64.wrap (x24 * o4.1)))) ≥ o3.2.1)))) then
                          k2
                        else
                          k25 ()
                      else
                        asrt (((decide (o3.1 > 0)) == true) && ((decide ((IntKind.i64.wrap ((IntKind.i64.wrap (x22 * o3.1)) - (IntKind.i64.wrap (x24 * o4.1)))) ≤ (IntKind.i64.wrap (0 - o3.2.1)))) == false)) false (
                          bif ((decide (o3.1 > 0)) && ((decide ((IntKind.i64.wrap ((IntKind.i64.wrap (x22 * o3.1)) - (IntKind.i64.wrap (x24 * o4.1)))) ≤ (IntKind.i64.wrap (0 - o3.2.1)))) || (decide ((IntKind.i64.wrap ((IntKind.i64.wrap (x22 * o3.1)) - (IntKind.i64.wrap (x24 * o4.1)))) ≥ o3.2.1)))) then
                            k2
                          else
                            k25 ())
                  else
                    asrt ((decide (o3.1 > 0)) == true) false (
                      bif (decide (y21 = 0)) then
                        bif ((decide (o3.1 > 0)) && ((decide ((IntKind.i64.wrap ((IntKind.i64.wrap (x22 * o3.1)) - (IntKind.i64.wrap (x24 * o4.1)))) ≤ (IntKind.i64.wrap (0 - o3.2.1)))) || (decide ((IntKind.i64.wrap ((IntKind.i64.wrap (x22 * o3.1)) - (IntKind.i64.wrap (x24 * o4.1)))) ≥ o3.1)))) then
                          k2
                        else
                          k25 ()
                      else
                        bif (decide (y21 = 1)) then
                          bif ((decide (o3.1 > 0)) && ((decide ((IntKind.i64.wrap ((IntKind.i64.wrap (x22 * o3.1)) - (IntKind.i64.wrap (x24 * o4.1)))) ≤ (IntKind.i64.wrap (0 - o3.2.1)))) || (decide ((IntKind.i64.wrap ((IntKind.i64.wrap (x22 * o3.1)) - (IntKind.i64.wrap (x24 * o4.1)))) ≥ o3.2.1)))) then
                            k2
                          else
                            k25 ()
                        else
                          asrt (((decide (o3.1 > 0)) == true) && ((decide ((IntKind.i64.wrap ((IntKind.i64.wrap (x22 * o3.1)) - (IntKind.i64.wrap (x24 * o4.1)))) ≤ (IntKind.i64.wrap (0 - o3.2.1)))) == false)) false (
                            bif ((decide (o3.1 > 0)) && ((decide ((IntKind.i64.wrap ((IntKind.i64.wrap (x22 * o3.1)) - (IntKind.i64.wrap (x24 * o4.1)))) ≤ (IntKind.i64.wrap (0 - o3.2.1)))) || (decide ((IntKind.i64.wrap ((IntKind.i64.wrap (x22 * o3.1)) - (IntKind.i64.wrap (x24 * o4.1)))) ≥ o3.2.1)))) then
                              k2
                            else
                              k25 ()))
              else
                bif (decide (y21 = 1)) then
                  bif (decide (y21 = 0)) then
                    bif (decide (y21 = 0)) then
                      bif ((decide (o3.2.1 > 0)) && ((decide ((IntKind.i64.wrap ((IntKind.i64.wrap (x22 * o3.1)) - (IntKind.i64.wrap (x24 * o4.1)))) ≤ (IntKind.i64.wrap (0 - o3.1)))) || (decide ((IntKind.i64.wrap ((IntKind.i64.wrap (x22 * o3.1)) - (IntKind.i64.wrap (x24 * o4.1)))) ≥ o3.1)))) then
                        k2
                      else
                        k25 ()
                    else
                      bif (decide (y21 = 1)) then
                        bif ((decide (o3.2.1 > 0)) && ((decide ((IntKind.i64.wrap ((IntKind.i64.wrap (x22 * o3.1)) - (IntKind.i64.wrap (x24 * o4.1)))) ≤ (IntKind.i64.wrap (0 - o3.1)))) || (decide ((IntKind.i64.wrap ((IntKind.i64.wrap (x22 * o3.1)) - (IntKind.i64.wrap (x24 * o4.1)))) ≥ o3.2.1)))) then
                          k2
                        else
                          k25 ()
                      else
                        asrt (((decide (o3.2.1 > 0)) == true) && ((decide ((IntKind.i64.wrap ((IntKind.i64.wrap (x22 * o3.1)) - (IntKind.i64.wrap (x24 * o4.1)))) ≤ (IntKind.i64.wrap (0 - o3.1)))) == false)) false (
                          bif ((decide (o3.2.1 > 0)) && ((decide ((IntKind.i64.wrap ((IntKind.i64.wrap (x22 * o3.1)) - (IntKind.i64.wrap (x24 * o4.1)))) ≤ (IntKind.i64.wrap (0 - o3.1)))) || (decide ((IntKind.i64.wrap ((IntKind.i64.wrap (x22 * o3.1)) - (IntKind.i64.wrap (x24 * o4.1)))) ≥ o3.2.1)))) then
                            k2
                          else
                            k25 ())
                  else
                    bif (decide (y21 = 1)) then
                      bif (decide (y21 = 0)) then
                        bif ((decide (o3.2.1 > 0)) && ((decide ((IntKind.i64.wrap ((IntKind.i64.wrap (x22 * o3.1)) - (IntKind.i64.wrap (x24 * o4.1)))) ≤ (IntKind.i64.wrap (0 - o3.2.1)))) || (decide ((IntKind.i64.wrap ((IntKind.i64.wrap (x22 * o3.1)) - (IntKind.i64.wrap (x24 * o4.1)))) ≥ o3.1)))) then
                          k2
                        else
                          k25 ()
                      else
                        bif (decide (y21 = 1)) then
                          bif ((decide (o3.2.1 > 0)) && ((decide ((IntKind.i64.wrap ((IntKind.i64.wrap (x22 * o3.1)) - (IntKind.i64.wrap (x24 * o4.1)))) ≤ (IntKind.i64.wrap (0 - o3.2.1)))) || (decide ((IntKind.i64.wrap ((IntKind.i64.wrap (x22 * o3.1)) - (IntKind.i64.wrap (x24 * o4.1)))) ≥ o3.2.1)))) then
                            k2
                          else
                            k25 ()
                        else
                          asrt (((decide (o3.2.1 > 0)) == true) && ((decide ((IntKind.i64.wrap ((IntKind.i64.wrap (x22 * o3.1)) - (IntKind.i64.wrap (x24 * o4.1)))) ≤ (IntKind.i64.wrap (0 - o3.2.1)))) == false)) false (
                            bif ((decide (o3.2.1 > 0)) && ((decide ((IntKind.i64.wrap ((IntKind.i64.wrap (x22 * o3.1)) - (IntKind.i64.wrap (x24 * o4.1)))) ≤ (IntKind.i64.wrap (0 - o3.2.1)))) || (decide ((IntKind.i64.wrap ((IntKind.i64.wrap (x22 * o3.1)) - (IntKind.i64.wrap (x24 * o4.1)))) ≥ o3.2.1)))) then
                              k2
                            else
                              k25 ())
                    else
                      asrt ((decide (o3.2.1 > 0)) == true) false (
                        bif (decide (y21 = 0)) then
                          bif ((decide (o3.2.1 > 0)) && ((decide ((IntKind.i64.wrap ((IntKind.i64.wrap (x22 * o3.1)) - (IntKind.i64.wrap (x24 * o4.1)))) ≤ (IntKind.i64.wrap (0 - o3.2.1)))) || (decide ((IntKind.i64.wrap ((IntKind.i64.wrap (x22 * o3.1)) - (IntKind.i64.wrap (x24 * o4.1)))) ≥ o3.1)))) then
                            k2
                          else
                            k25 ()
                        else
                          bif (decide (y21 = 1)) then
                            bif ((decide (o3.2.1 > 0)) && ((decide ((IntKind.i64.wrap ((IntKind.i64.wrap (x22 * o3.1)) - (IntKind.i64.wrap (x24 * o4.1)))) ≤ (IntKind.i64.wrap (0 - o3.2.1)))) || (decide ((IntKind.i64.wrap ((IntKind.i64.wrap (x22 * o3.1)) - (IntKind.i64.wrap (x24 * o4.1)))) ≥ o3.2.1)))) then
                              k2
                            else
                              k25 ()
                          else
                            asrt (((decide (o3.2.1 > 0)) == true) && ((decide ((IntKind.i64.wrap ((IntKind.i64.wrap (x22 * o3.1)) - (IntKind.i64.wrap (x24 * o4.1)))) ≤ (IntKind.i64.wrap (0 - o3.2.1)))) == false)) false (
                              bif ((decide (o3.2.1 > 0)) && ((decide ((IntKind.i64.wrap ((IntKind.i64.wrap (x22 * o3.1)) - (IntKind.i64.wrap (x24 * o4.1)))) ≤ (IntKind.i64.wrap (0 - o3.2.1)))) || (decide ((IntKind.i64.wrap ((IntKind.i64.wrap (x22 * o3.1)) - (IntKind.i64.wrap (x24 * o4.1)))) ≥ o3.2.1)))) then
                                k2
                              else
                                k25 ()))
                else
                  none
            else
              bif (decide (y21 = 1)) then
                bif (decide (y21 = 0)) then
                  bif (decide (y21 = 0)) then
                    bif (decide (y21 = 0)) then
                      bif ((decide (o3.1 > 0)) && ((decide ((IntKind.i64.wrap ((IntKind.i64.wrap (x22 * o3.1)) - (IntKind.i64.wrap (x24 * o4.2.1)))) ≤ (IntKind.i64.wrap (0 - o3.1)))) || (decide ((IntKind.i64.wrap ((IntKind.i64.wrap (x22 * o3.1)) - (IntKind.i64.wrap (x24 * o4.2.1)))) ≥ o3.1)))) then
                        k2
                      else
                        k25 ()
                    else
                      bif (decide (y21 = 1)) then
                        bif ((decide (o3.1 > 0)) && ((decide ((IntKind.i64.wrap ((IntKind.i64.wrap (x22 * o3.1)) - (IntKind.i64.wrap (x24 * o4.2.1)))) ≤ (IntKind.i64.wrap (0 - o3.1)))) || (decide ((IntKind.i64.wrap ((IntKind.i64.wrap (x22 * o3.1)) - (IntKind.i64.wrap (x24 * o4.2.1)))) ≥ o3.2.1)))) then
                          k2
                        else
                          k25 ()
                      else
                        asrt (((decide (o3.1 > 0)) == true) && ((decide ((IntKind.i64.wrap ((IntKind.i64.wrap (x22 * o3.1)) - (IntKind.i64.wrap (x24 * o4.2.1)))) ≤ (IntKind.i64.wrap (0 - o3.1)))) == false)) false (
                          bif ((decide (o3.1 > 0)) && ((decide ((IntKind.i64.wrap ((IntKind.i64.wrap (x22 * o3.1)) - (IntKind.i64.wrap (x24 * o4.2.1)))) ≤ (IntKind.i64.wrap (0 - o3.1)))) || (decide ((IntKind.i64.wrap ((IntKind.i64.wrap (x22 * o3.1)) - (IntKind.i64.wrap (x24 * o4.2.1)))) ≥ o3.2.1)))) then
                            k2
                          else
                            k25 ())
                  else
                    bif (decide (y21 = 1)) then
                      bif (decide (y21 = 0)) then
                        bif ((decide (o3.1 > 0)) && ((decide ((IntKind.i64.wrap ((IntKind.i64.wrap (x22 * o3.1)) - (IntKind.i64.wrap (x24 * o4.2.1)))) ≤ (IntKind.i64.wrap (0 - o3.2.1)))) || (decide ((IntKind.i64.wrap ((IntKind.i64.wrap (x22 * o3.1)) - (IntKind.i64.wrap (x24 * o4.2.1)))) ≥ o3.1)))) then
                          k2
                        else
                          k25 ()
                      else
                        bif (decide (y21 = 1)) then
                          bif ((decide (o3.1 > 0)) && ((decide ((IntKind.i64.wrap ((IntKind.i64.wrap (x22 * o3.1)) - (IntKind.i64.wrap (x24 * o4.2.1)))) ≤ (IntKind.i64.wrap (0 - o3.2.1)))) || (decide ((IntKind.i64.wrap ((IntKind.i64.wrap (x22 * o3.1)) - (IntKind.i64.wrap (x24 * o4.2.1)))) ≥ o3.2.1)))) then
                            k2
                          else
                            k25 ()
                        else
                          asrt (((decide (o3.1 > 0)) == true) && ((decide ((IntKind.i64.wrap ((IntKind.i64.wrap (x22 * o3.1)) - (IntKind.i64.wrap (x24 * o4.2.1)))) ≤ (IntKind.i64.wrap (0 - o3.2.1)))) == false)) false (
                            bif ((decide (o3.1 > 0)) && ((decide ((IntKind.i64.wrap ((IntKind.i64.wrap (x22 * o3.1)) - (IntKind.i64.wrap (x24 * o4.2.1)))) ≤ (IntKind.i64.wrap (0 - o3.2.1)))) || (decide ((IntKind.i64.wrap ((IntKind.i64.wrap (x22 * o3.1)) - (IntKind.i64.wrap (x24 * o4.2.1)))) ≥ o3.2.1)))) then
                              k2
                            else
                              k25 ())
                    else
                      asrt ((decide (o3.1 > 0)) == true) false (
                        bif (decide (y21 = 0)) then
                          bif ((decide (o3.1 > 0)) && ((decide ((IntKind.i64.wrap ((IntKind.i64.wrap (x22 * o3.1)) - (IntKind.i64.wrap (x24 * o4.2.1)))) ≤ (IntKind.i64.wrap (0 - o3.2.1)))) || (decide ((IntKind.i64.wrap ((IntKind.i64.wrap (x22 * o3.1)) - (IntKind.i64.wrap (x24 * o4.2.1)))) ≥ o3.1)))) then
                            k2
                          else
                            k25 ()
                        else
                          bif (decide (y21 = 1)) then
                            bif ((decide (o3.1 > 0)) && ((decide ((IntKind.i64.wrap ((IntKind.i64.wrap (x22 * o3.1)) - (IntKind.i64.wrap (x24 * o4.2.1)))) ≤ (IntKind.i64.wrap (0 - o3.2.1)))) || (decide ((IntKind.i64.wrap ((IntKind.i64.wrap (x22 * o3.1)) - (IntKind.i64.wrap (x24 * o4.2.1)))) ≥ o3.2.1)))) then
                              k2
                            else
                              k25 ()
                          else
                            asrt (((decide (o3.1 > 0)) == true) && ((decide ((IntKind.i64.wrap ((IntKind.i64.wrap (x22 * o3.1)) - (IntKind.i64.wrap (x24 * o4.2.1)))) ≤ (IntKind.i64.wrap (0 - o3.2.1)))) == false)) false (
                              bif ((decide (o3.1 > 0)) && ((decide ((IntKind.i64.wrap ((IntKind.i64.wrap (x22 * o3.1)) - (IntKind.i64.wrap (x24 * o4.2.1)))) ≤ (IntKind.i64.wrap (0 - o3.2.1)))) || (decide ((IntKind.i64.wrap ((IntKind.i64.wrap (x22 * o3.1)) - (IntKind.i64.wrap (x24 * o4.2.1)))) ≥ o3.2.1)))) then
                                k2
                              else
                                k25 ()))
                else
                  bif (decide (y21 = 1)) then
                    bif (decide (y21 = 0)) then
                      bif (decide (y21 = 0)) then
                        bif ((decide (o3.2.1 > 0)) && ((decide ((IntKind.i64.wrap ((IntKind.i64.wrap (x22 * o3.1)) - (IntKind.i64.wrap (x24 * o4.2.1)))) ≤ (IntKind.i64.wrap (0 - o3.1)))) || (decide ((IntKind.i64.wrap ((IntKind.i64.wrap (x22 * o3.1)) - (IntKind.i64.wrap (x24 * o4.2.1)))) ≥ o3.1)))) then
                          k2
                        else
                          k25 ()
                      else
                        bif (decide (y21 = 1)) then
                          bif ((decide (o3.2.1 > 0)) && ((decide ((IntKind.i64.wrap ((IntKind.i64.wrap (x22 * o3.1)) - (IntKind.i64.wrap (x24 * o4.2.1)))) ≤ (IntKind.i64.wrap (0 - o3.1)))) || (decide ((IntKind.i64.wrap ((IntKind.i64.wrap (x22 * o3.1)) - (IntKind.i64.wrap (x24 * o4.2.1)))) ≥ o3.2.1)))) then
                            k2
                          else
                            k25 ()
                        else
                          asrt (((decide (o3.2.1 > 0)) == true) && ((decide ((IntKind.i64.wrap ((IntKind.i64.wrap (x22 * o3.1)) - (IntKind.i64.wrap (x24 * o4.2.1)))) ≤ (IntKind.i64.wrap (0 - o3.1)))) == false)) false (
                            bif ((decide (o3.2.1 > 0)) && ((decide ((IntKind.i64.wrap ((IntKind.i64.wrap (x22 * o3.1)) - (IntKind.i64.wrap (x24 * o4.2.1)))) ≤ (IntKind.i64.wrap (0 - o3.1)))) || (decide ((IntKind.i64.wrap ((IntKind.i64.wrap (x22 * o3.1)) - (IntKind.i64.wrap (x24 * o4.2.1)))) ≥ o3.2.1)))) then
                              k2
                            else
                              k25 ())
                    else
                      bif (decide (y21 = 1)) then
                        bif (decide (y21 = 0)) then
                          bif ((decide (o3.2.1 > 0)) && ((decide ((IntKind.i64.wrap ((IntKind.i64.wrap (x22 * o3.1)) - (IntKind.i64.wrap (x24 * o4.2.1)))) ≤ (IntKind.i64.wrap (0 - o3.2.1)))) || (decide ((IntKind.i64.wrap ((IntKind.i64.wrap (x22 * o3.1)) - (IntKind.i64.wrap (x24 * o4.2.1)))) ≥ o3.1)))) then
                            k2
                          else
                            k25 ()
                        else
                          bif (decide (y21 = 1)) then
                            bif ((decide (o3.2.1 > 0)) && ((decide ((IntKind.i64.wrap ((IntKind.i64.wrap (x22 * o3.1)) - (IntKind.i64.wrap (x24 * o4.2.1)))) ≤ (IntKind.i64.wrap (0 - o3.2.1)))) || (decide ((IntKind.i64.wrap ((IntKind.i64.wrap (x22 * o3.1)) - (IntKind.i64.wrap (x24 * o4.2.1)))) ≥ o3.2.1)))) then
                              k2
                            else
                              k25 ()
                          else
                            asrt (((decide (o3.2.1 > 0)) == true) && ((decide ((IntKind.i64.wrap ((IntKind.i64.wrap (x22 * o3.1)) - (IntKind.i64.wrap (x24 * o4.2.1)))) ≤ (IntKind.i64.wrap (0 - o3.2.1)))) == false)) false (
                              bif ((decide (o3.2.1 > 0)) && ((decide ((IntKind.i64.wrap ((IntKind.i64.wrap (x22 * o3.1)) - (IntKind.i64.wrap (x24 * o4.2.1)))) ≤ (IntKind.i64.wrap (0 - o3.2.1)))) || (decide ((IntKind.i64.wrap ((IntKind.i64.wrap (x22 * o3.1)) - (IntKind.i64.wrap (x24 * o4.2.1)))) ≥ o3.2.1)))) then
                                k2
                              else
                                k25 ())
                      else
                        asrt ((decide (o3.2.1 > 0)) == true) false (
                          bif (decide (y21 = 0)) then
                            bif ((decide (o3.2.1 > 0)) && ((decide ((IntKind.i64.wrap ((IntKind.i64.wrap (x22 * o3.1)) - (IntKind.i64.wrap (x24 * o4.2.1)))) ≤ (IntKind.i64.wrap (0 - o3.2.1)))) || (decide ((IntKind.i64.wrap ((IntKind.i64.wrap (x22 * o3.1)) - (IntKind.i64.wrap (x24 * o4.2.1)))) ≥ o3.1)))) then
                              k2
                            else
                              k25 ()
                          else
                            bif (decide (y21 = 1)) then
                              bif ((decide (o3.2.1 > 0)) && ((decide ((IntKind.i64.wrap ((IntKind.i64.wrap (x22 * o3.1)) - (IntKind.i64.wrap (x24 * o4.2.1)))) ≤ (IntKind.i64.wrap (0 - o3.2.1)))) || (decide ((IntKind.i64.wrap ((IntKind.i64.wrap (x22 * o3.1)) - (IntKind.i64.wrap (x24 * o4.2.1)))) ≥ o3.2.1)))) then
                                k2
                              else
                                k25 ()
                            else
                              asrt (((decide (o3.2.1 > 0)) == true) && ((decide ((IntKind.i64.wrap ((IntKind.i64.wrap (x22 * o3.1)) - (IntKind.i64.wrap (x24 * o4.2.1)))) ≤ (IntKind.i64.wrap (0 - o3.2.1)))) == false)) false (
                                bif ((decide (o3.2.1 > 0)) && ((decide ((IntKind.i64.wrap ((IntKind.i64.wrap (x22 * o3.1)) - (IntKind.i64.wrap (x24 * o4.2.1)))) ≤ (IntKind.i64.wrap (0 - o3.2.1)))) || (decide ((IntKind.i64.wrap ((IntKind.i64.wrap (x22 * o3.1)) - (IntKind.i64.wrap (x24 * o4.2.1)))) ≥ o3.2.1)))) then
                                  k2
                                else
                                  k25 ()))
                  else
                    none
              else
                none)
        else
          bif (decide (y21 = 1)) then
            asrt true (decide (0 ≤ t15) && decide (t15 < (List.length o2 : Int))) (
              ((o2)[(t15 : Int).toNat]?).bind fun x23 =>
              bif (decide (y21 = 0)) then
                bif (decide (y21 = 0)) then
                  bif (decide (y21 = 0)) then
                    bif (decide (y21 = 0)) then
                      bif ((decide (o3.1 > 0)) && ((decide ((IntKind.i64.wrap ((IntKind.i64.wrap (x22 * o3.2.1)) - (IntKind.i64.wrap (x23 * o4.1)))) ≤ (IntKind.i64.wrap (0 - o3.1)))) || (decide ((IntKind.i64.wrap ((IntKind.i64.wrap (x22 * o3.2.1)) - (IntKind.i64.wrap (x23 * o4.1)))) ≥ o3.1)))) then
                        k2
                      else
                        k25 ()
                    else
                      bif (decide (y21 = 1)) then
                        bif ((decide (o3.1 > 0)) && ((decide ((IntKind.i64.wrap ((IntKind.i64.wrap (x22 * o3.2.1)) - (IntKind.i64.wrap (x23 * o4.1)))) ≤ (IntKind.i64.wrap (0 - o3.1)))) || (decide ((IntKind.i64.wrap ((IntKind.i64.wrap (x22 * o3.2.1)) - (IntKind.i64.wrap (x23 * o4.1)))) ≥ o3.2.1)))) then
                          k2
                        else
                          k25 ()
                      else
                        asrt (((decide (o3.1 > 0)) == true) && ((decide ((IntKind.i64.wrap ((IntKind.i64.wrap (x22 * o3.2.1)) - (IntKind.i64.wrap (x23 * o4.1)))) ≤ (IntKind.i64.wrap (0 - o3.1)))) == false)) false (
                          bif ((decide (o3.1 > 0)) && ((decide ((IntKind.i64.wrap ((IntKind.i64.wrap (x22 * o3.2.1)) - (IntKind.i64.wrap (x23 * o4.1)))) ≤ (IntKind.i64.wrap (0 - o3.1)))) || (decide ((IntKind.i64.wrap ((IntKind.i64.wrap (x22 * o3.2.1)) - (IntKind.i64.wrap (x23 * o4.1)))) ≥ o3.2.1)))) then
                            k2
                          else
                            k25 ())
                  else
                    bif (decide (y21 = 1)) then
                      bif (decide (y21 = 0)) then
                        bif ((decide (o3.1 > 0)) && ((decide ((IntKind.i64.wrap ((IntKind.i64.wrap (x22 * o3.2.1)) - (IntKind.i64.wrap (x23 * o4.1)))) ≤ (IntKind.i64.wrap (0 - o3.2.1)))) || (decide ((IntKind.i64.wrap ((IntKind.i64.wrap (x22 * o3.2.1)) - (IntKind.i64.wrap (x23 * o4.1)))) ≥ o3.1)))) then
                          k2
                        else
                          k25 ()
                      else
                        bif (decide (y21 = 1)) then
                          bif ((decide (o3.1 > 0)) && ((decide ((IntKind.i64.wrap ((IntKind.i64.wrap (x22 * o3.2.1)) - (IntKind.i64.wrap (x23 * o4.1)))) ≤ (IntKind.i64.wrap (0 - o3.2.1)))) || (decide ((IntKind.i64.wrap ((IntKind.i64.wrap (x22 * o3.2.1)) - (IntKind.i64.wrap (x23 * o4.1)))) ≥ o3.2.1)))) then
                            k2
                          else
                            k25 ()
                        else
                          asrt (((decide (o3.1 > 0)) == true) && ((decide ((IntKind.i64.wrap ((IntKind.i64.wrap (x22 * o3.2.1)) - (IntKind.i64.wrap (x23 * o4.1)))) ≤ (IntKind.i64.wrap (0 - o3.2.1)))) == false)) false (
                            bif ((decide (o3.1 > 0)) && ((decide ((IntKind.i64.wrap ((IntKind.i64.wrap (x22 * o3.2.1)) - (IntKind.i64.wrap (x23 * o4.1)))) ≤ (IntKind.i64.wrap (0 - o3.2.1)))) || (decide ((IntKind.i64.wrap ((IntKind.i64.wrap (x22 * o3.2.1)) - (IntKind.i64.wrap (x23 * o4.1)))) ≥ o3.2.1)))) then
                              k2
                            else
                              k25 ())
                    else
                      asrt ((decide (o3.1 > 0)) == true) false (
                        bif (decide (y21 = 0)) then
                          bif ((decide (o3.1 > 0)) && ((decide ((IntKind.i64.wrap ((IntKind.i64.wrap (x22 * o3.2.1)) - (IntKind.i64.wrap (x23 * o4.1)))) ≤ (IntKind.i64.wrap (0 - o3.2.1)))) || (decide ((IntKind.i64.wrap ((IntKind.i64.wrap (x22 * o3.2.1)) - (IntKind.i64.wrap (x23 * o4.1)))) ≥ o3.1)))) then
                            k2
                          else
                            k25 ()
                        else
                          bif (decide (y21 = 1)) then
                            bif ((decide (o3.1 > 0)) && ((decide ((IntKind.i64.wrap ((IntKind.i64.wrap (x22 * o3.2.1)) - (IntKind.i64.wrap (x23 * o4.1)))) ≤ (IntKind.i64.wrap (0 - o3.2.1)))) || (decide ((IntKind.i64.wrap ((IntKind.i64.wrap (x22 * o3.2.1)) - (IntKind.i64.wrap (x23 * o4.1)))) ≥ o3.2.1)))) then
                              k2
                            else
                              k25 ()
                          else
                            asrt (((decide (o3.1 > 0)) == true) && ((decide ((IntKind.i64.wrap ((IntKind.i64.wrap (x22 * o3.2.1)) - (IntKind.i64.wrap (x23 * o4.1)))) ≤ (IntKind.i64.wrap (0 - o3.2.1)))) == false)) false (
                              bif ((decide (o3.1 > 0)) && ((decide ((IntKind.i64.wrap ((IntKind.i64.wrap (x22 * o3.2.1)) - (IntKind.i64.wrap (x23 * o4.1)))) ≤ (IntKind.i64.wrap (0 - o3.2.1)))) || (decide ((IntKind.i64.wrap ((IntKind.i64.wrap (x22 * o3.2.1)) - (IntKind.i64.wrap (x23 * o4.1)))) ≥ o3.2.1)))) then
                                k2
                              else
                                k25 ()))
                else
                  bif (decide (y21 = 1)) then
                    bif (decide (y21 = 0)) then
                      bif (decide (y21 = 0)) then
                        bif ((decide (o3.2.1 > 0)) && ((decide ((IntKind.i64.wrap ((IntKind.i64.wrap (x22 * o3.2.1)) - (IntKind.i64.wrap (x23 * o4.1)))) ≤ (IntKind.i64.wrap (0 - o3.1)))) || (decide ((IntKind.i64.wrap ((IntKind.i64.wrap (x22 * o3.2.1)) - (IntKind.i64.wrap (x23 * o4.1)))) ≥ o3.1)))) then
                          k2
                        else
                          k25 ()
                      else
                        bif (decide (y21 = 1)) then
                          bif ((decide (o3.2.1 > 0)) && ((decide ((IntKind.i64.wrap ((IntKind.i64.wrap (x22 * o3.2.1)) - (IntKind.i64.wrap (x23 * o4.1)))) ≤ (IntKind.i64.wrap (0 - o3.1)))) || (decide ((IntKind.i64.wrap ((IntKind.i64.wrap (x22 * o3.2.1)) - (IntKind.i64.wrap (x23 * o4.1)))) ≥ o3.2.1)))) then
                            k2
                          else
                            k25 ()
                        else
                          asrt (((decide (o3.2.1 > 0)) == true) && ((decide ((IntKind.i64.wrap ((IntKind.i64.wrap (x22 * o3.2.1)) - (IntKind.i64.wrap (x23 * o4.1)))) ≤ (IntKind.i64.wrap (0 - o3.1)))) == false)) false (
                            bif ((decide (o3.2.1 > 0)) && ((decide ((IntKind.i64.wrap ((IntKind.i64.wrap (x22 * o3.2.1)) - (IntKind.i64.wrap (x23 * o4.1)))) ≤ (IntKind.i64.wrap (0 - o3.1)))) || (decide ((IntKind.i64.wrap ((IntKind.i64.wrap (x22 * o3.2.1)) - (IntKind.i64.wrap (x23 * o4.1)))) ≥ o3.2.1)))) then
                              k2
                            else
                              k25 ())
                    else
                      bif (decide (y21 = 1)) then
                        bif (decide (y21 = 0)) then
                          bif ((decide (o3.2.1 > 0)) && ((decide ((IntKind.i64.wrap ((IntKind.i64.wrap (x22 * o3.2.1)) - (IntKind.i64.wrap (x23 * o4.1)))) ≤ (IntKind.i64.wrap (0 - o3.2.1)))) || (decide ((IntKind.i64.wrap ((IntKind.i64.wrap (x22 * o3.2.1)) - (IntKind.i64.wrap (x23 * o4.1)))) ≥ o3.1)))) then
                            k2
                          else
                            k25 ()
                        else
                          bif (decide (y21 = 1)) then
                            bif ((decide (o3.2.1 > 0)) && ((decide ((IntKind.i64.wrap ((IntKind.i64.wrap (x22 * o3.2.1)) - (IntKind.i64.wrap (x23 * o4.1)))) ≤ (IntKind.i64.wrap (0 - o3.2.1)))) || (decide ((IntKind.i64.wrap ((IntKind.i64.wrap (x22 * o3.2.1)) - (IntKind.i64.wrap (x23 * o4.1)))) ≥ o3.2.1)))) then
                              k2
                            else
                              k25 ()
                          else
                            asrt (((decide (o3.2.1 > 0)) == true) && ((decide ((IntKind.i64.wrap ((IntKind.i64.wrap (x22 * o3.2.1)) - (IntKind.i64.wrap (x23 * o4.1)))) ≤ (IntKind.i64.wrap (0 - o3.2.1)))) == false)) false (
                              bif ((decide (o3.2.1 > 0)) && ((decide ((IntKind.i64.wrap ((IntKind.i64.wrap (x22 * o3.2.1)) - (IntKind.i64.wrap (x23 * o4.1)))) ≤ (IntKind.i64.wrap (0 - o3.2.1)))) || (decide ((IntKind.i64.wrap ((IntKind.i64.wrap (x22 * o3.2.1)) - (IntKind.i64.wrap (x23 * o4.1)))) ≥ o3.2.1)))) then
                                k2
                              else
                                k25 ())
                      else
                        asrt ((decide (o3.2.1 > 0)) == true) false (
                          bif (decide (y21 = 0)) then
                            bif ((decide (o3.2.1 > 0)) && ((decide ((IntKind.i64.wrap ((IntKind.i64.wrap (x22 * o3.2.1)) - (IntKind.i64.wrap (x23 * o4.1)))) ≤ (IntKind.i64.wrap (0 - o3.2.1)))) || (decide ((IntKind.i64.wrap ((IntKind.i64.wrap (x22 * o3.2.1)) - (IntKind.i64.wrap (x23 * o4.1)))) ≥ o3.1)))) then
                              k2
                            else
                              k25 ()
                          else
                            bif (decide (y21 = 1)) then
                              bif ((decide (o3.2.1 > 0)) && ((decide ((IntKind.i64.wrap ((IntKind.i64.wrap (x22 * o3.2.1)) - (IntKind.i64.wrap (x23 * o4.1)))) ≤ (IntKind.i64.wrap (0 - o3.2.1)))) || (decide ((IntKind.i64.wrap ((IntKind.i64.wrap (x22 * o3.2.1)) - (IntKind.i64.wrap (x23 * o4.1)))) ≥ o3.2.1)))) then
                                k2
                              else
                                k25 ()
                            else
                              asrt (((decide (o3.2.1 > 0)) == true) && ((decide ((IntKind.i64.wrap ((IntKind.i64.wrap (x22 * o3.2.1)) - (IntKind.i64.wrap (x23 * o4.1)))) ≤ (IntKind.i64.wrap (0 - o3.2.1)))) == false)) false (
                                bif ((decide (o3.2.1 > 0)) && ((decide ((IntKind.i64.wrap ((IntKind.i64.wrap (x22 * o3.2.1)) - (IntKind.i64.wrap (x23 * o4.1)))) ≤ (IntKind.i64.wrap (0 - o3.2.1)))) || (decide ((IntKind.i64.wrap ((IntKind.i64.wrap (x22 * o3.2.1)) - (IntKind.i64.wrap (x23 * o4.1)))) ≥ o3.2.1)))) then
                                  k2
                                else
                                  k25 ()))
                  else
                    none
              else
                bif (decide (y21 = 1)) then
                  bif (decide (y21 = 0)) then
                    bif (decide (y21 = 0)) then
                      bif (decide (y21 = 0)) then
                        bif ((decide (o3.1 > 0)) && ((decide ((IntKind.i64.wrap ((IntKind.i64.wrap (x22 * o3.2.1)) - (IntKind.i64.wrap (x23 * o4.2.1)))) ≤ (IntKind.i64.wrap (0 - o3.1)))) || (decide ((IntKind.i64.wrap ((IntKind.i64.wrap (x22 * o3.2.1)) - (IntKind.i64.wrap (x23 * o4.2.1)))) ≥ o3.1)))) then
                          k2
                        else
                          k25 ()
                      else
                        bif (decide (y21 = 1)) then
                          bif ((decide (o3.1 > 0)) && ((decide ((IntKind.i64.wrap ((IntKind.i64.wrap (x22 * o3.2.1)) - (IntKind.i64.wrap (x23 * o4.2.1)))) ≤ (IntKind.i64.wrap (0 - o3.1)))) || (decide ((IntKind.i64.wrap ((IntKind.i64.wrap (x22 * o3.2.1)) - (IntKind.i64.wrap (x23 * o4.2.1)))) ≥ o3.2.1)))) then
                            k2
                          else
                            k25 ()
                        else
                          asrt (((decide (o3.1 > 0)) == true) && ((decide ((IntKind.i64.wrap ((IntKind.i64.wrap (x22 * o3.2.1)) - (IntKind.i64.wrap (x23 * o4.2.1)))) ≤ (IntKind.i64.wrap (0 - o3.1)))) == false)) false (
                            bif ((decide (o3.1 > 0)) && ((decide ((IntKind.i64.wrap ((IntKind.i64.wrap (x22 * o3.2.1)) - (IntKind.i64.wrap (x23 * o4.2.1)))) ≤ (IntKind.i64.wrap (0 - o3.1)))) || (decide ((IntKind.i64.wrap ((IntKind.i64.wrap (x22 * o3.2.1)) - (IntKind.i64.wrap (x23 * o4.2.1)))) ≥ o3.2.1)))) then
                              k2
                            else
                              k25 ())
                    else
                      bif (decide (y21 = 1)) then
                        bif (decide (y21 = 0)) then
                          bif ((decide (o3.1 > 0)) && ((decide ((IntKind.i64.wrap ((IntKind.i64.wrap (x22 * o3.2.1)) - (IntKind.i64.wrap (x23 * o4.2.1)))) ≤ (IntKind.i64.wrap (0 - o3.2.1)))) || (decide ((IntKind.i64.wrap ((IntKind.i64.wrap (x22 * o3.2.1)) - (IntKind.i64.wrap (x23 * o4.2.1)))) ≥ o3.1)))) then
                            k2
                          else
                            k25 ()
                        else
                          bif (decide (y21 = 1)) then
                            bif ((decide (o3.1 > 0)) && ((decide ((IntKind.i64.wrap ((IntKind.i64.wrap (x22 * o3.2.1)) - (IntKind.i64.wrap (x23 * o4.2.1)))) ≤ (IntKind.i64.wrap (0 - o3.2.1)))) || (decide ((IntKind.i64.wrap ((IntKind.i64.wrap (x22 * o3.2.1)) - (IntKind.i64.wrap (x23 * o4.2.1)))) ≥ o3.2.1)))) then
                              k2
                            else
                              k25 ()
                          else
                            asrt (((decide (o3.1 > 0)) == true) && ((decide ((IntKind.i64.wrap ((IntKind.i64.wrap (x22 * o3.2.1)) - (IntKind.i64.wrap (x23 * o4.2.1)))) ≤ (IntKind.i64.wrap (0 - o3.2.1)))) == false)) false (
                              bif ((decide (o3.1 > 0)) && ((decide ((IntKind.i64.wrap ((IntKind.i64.wrap (x22 * o3.2.1)) - (IntKind.i64.wrap (x23 * o4.2.1)))) ≤ (IntKind.i64.wrap (0 - o3.2.1)))) || (decide ((IntKind.i64.wrap ((IntKind.i64.wrap (x22 * o3.2.1)) - (IntKind.i64.wrap (x23 * o4.2.1)))) ≥ o3.2.1)))) then
                                k2
                              else
                                k25 ())
                      else
                        asrt ((decide (o3.1 > 0)) == true) false (
                          bif (decide (y21 = 0)) then
                            bif ((decide (o3.1 > 0)) && ((decide ((IntKind.i64.wrap ((IntKind.i64.wrap (x22 * o3.2.1)) - (IntKind.i64.wrap (x23 * o4.2.1)))) ≤ (IntKind.i64.wrap (0 - o3.2.1)))) || (decide ((IntKind.i64.wrap ((IntKind.i64.wrap (x22 * o3.2.1)) - (IntKind.i64.wrap (x23 * o4.2.1)))) ≥ o3.1)))) then
                              k2
                            else
                              k25 ()
                          else
                            bif (decide (y21 = 1)) then
                              bif ((decide (o3.1 > 0)) && ((decide ((IntKind.i64.wrap ((IntKind.i64.wrap (x22 * o3.2.1)) - (IntKind.i64.wrap (x23 * o4.2.1)))) ≤ (IntKind.i64.wrap (0 - o3.2.1)))) || (decide ((IntKind.i64.wrap ((IntKind.i64.wrap (x22 * o3.2.1)) - (IntKind.i64.wrap (x23 * o4.2.1)))) ≥ o3.2.1)))) then
                                k2
                              else
                                k25 ()
                            else
                              asrt (((decide (o3.1 > 0)) == true) && ((decide ((IntKind.i64.wrap ((IntKind.i64.wrap (x22 * o3.2.1)) - (IntKind.i64.wrap (x23 * o4.2.1)))) ≤ (IntKind.i64.wrap (0 - o3.2.1)))) == false)) false (
                                bif ((decide (o3.1 > 0)) && ((decide ((IntKind.i64.wrap ((IntKind.i64.wrap (x22 * o3.2.1)) - (IntKind.i64.wrap (x23 * o4.2.1)))) ≤ (IntKind.i64.wrap (0 - o3.2.1)))) || (decide ((IntKind.i64.wrap ((IntKind.i64.wrap (x22 * o3.2.1)) - (IntKind.i64.wrap (x23 * o4.2.1)))) ≥ o3.2.1)))) then
                                  k2
                                else
                                  k25 ()))
                  else
                    bif (decide (y21 = 1)) then
                      bif (decide (y21 = 0)) then
                        bif (decide (y21 = 0)) then
                          bif ((decide (o3.2.1 > 0)) && ((decide ((IntKind.i64.wrap ((IntKind.i64.wrap (x22 * o3.2.1)) - (IntKind.i64.wrap (x23 * o4.2.1)))) ≤ (IntKind.i64.wrap (0 - o3.1)))) || (decide ((IntKind.i64.wrap ((IntKind.i64.wrap (x22 * o3.2.1)) - (IntKind.i64.wrap (x23 * o4.2.1)))) ≥ o3.1)))) then
                            k2
                          else
                            k25 ()
                        else
                          bif (decide (y21 = 1)) then
                            bif ((decide (o3.2.1 > 0)) && ((decide ((IntKind.i64.wrap ((IntKind.i64.wrap (x22 * o3.2.1)) - (IntKind.i64.wrap (x23 * o4.2.1)))) ≤ (IntKind.i64.wrap (0 - o3.1)))) || (decide ((IntKind.i64.wrap ((IntKind.i64.wrap (x22 * o3.2.1)) - (IntKind.i64.wrap (x23 * o4.2.1)))) ≥ o3.2.1)))) then
                              k2
                            else
                              k25 ()
                          else
                            asrt (((decide (o3.2.1 > 0)) == true) && ((decide ((IntKind.i64.wrap ((IntKind.i64.wrap (x22 * o3.2.1)) - (IntKind.i64.wrap (x23 * o4.2.1)))) ≤ (IntKind.i64.wrap (0 - o3.1)))) == false)) false (
                              bif ((decide (o3.2.1 > 0)) && ((decide ((IntKind.i64.wrap ((IntKind.i64.wrap (x22 * o3.2.1)) - (IntKind.i64.wrap (x23 * o4.2.1)))) ≤ (IntKind.i64.wrap (0 - o3.1)))) || (decide ((IntKind.i64.wrap ((IntKind.i64.wrap (x22 * o3.2.1)) - (IntKind.i64.wrap (x23 * o4.2.1)))) ≥ o3.2.1)))) then
                                k2
                              else
                                k25 ())
                      else
                        bif (decide (y21 = 1)) then
                          bif (decide (y21 = 0)) then
                            bif ((decide (o3.2.1 > 0)) && ((decide ((IntKind.i64.wrap ((IntKind.i64.wrap (x22 * o3.2.1)) - (IntKind.i64.wrap (x23 * o4.2.1)))) ≤ (IntKind.i64.wrap (0 - o3.2.1)))) || (decide ((IntKind.i64.wrap ((IntKind.i64.wrap (x22 * o3.2.1)) - (IntKind.i64.wrap (x23 * o4.2.1)))) ≥ o3.1)))) then
                              k2
                            else
                              k25 ()
                          else
                            bif (decide (y21 = 1)) then
                              bif ((decide (o3.2.1 > 0)) && ((decide ((IntKind.i64.wrap ((IntKind.i64.wrap (x22 * o3.2.1)) - (IntKind.i64.wrap (x23 * o4.2.1)))) ≤ (IntKind.i64.wrap (0 - o3.2.1)))) || (decide ((IntKind.i64.wrap ((IntKind.i64.wrap (x22 * o3.2.1)) - (IntKind.i64.wrap (x23 * o4.2.1)))) ≥ o3.2.1)))) then
                                k2
                              else
                                k25 ()
                            else
                              asrt (((decide (o3.2.1 > 0)) == true) && ((decide ((IntKind.i64.wrap ((IntKind.i64.wrap (x22 * o3.2.1)) - (IntKind.i64.wrap (x23 * o4.2.1)))) ≤ (IntKind.i64.wrap (0 - o3.2.1)))) == false)) false (
                                bif ((decide (o3.2.1 > 0)) && ((decide ((IntKind.i64.wrap ((IntKind.i64.wrap (x22 * o3.2.1)) - (IntKind.i64.wrap (x23 * o4.2.1)))) ≤ (IntKind.i64.wrap (0 - o3.2.1)))) || (decide ((IntKind.i64.wrap ((IntKind.i64.wrap (x22 * o3.2.1)) - (IntKind.i64.wrap (x23 * o4.2.1)))) ≥ o3.2.1)))) then
                                  k2
                                else
                                  k25 ())
                        else
                          asrt ((decide (o3.2.1 > 0)) == true) false (
                            bif (decide (y21 = 0)) then
                              bif ((decide (o3.2.1 > 0)) && ((decide ((IntKind.i64.wrap ((IntKind.i64.wrap (x22 * o3.2.1)) - (IntKind.i64.wrap (x23 * o4.2.1)))) ≤ (IntKind.i64.wrap (0 - o3.2.1)))) || (decide ((IntKind.i64.wrap ((IntKind.i64.wrap (x22 * o3.2.1)) - (IntKind.i64.wrap (x23 * o4.2.1)))) ≥ o3.1)))) then
                                k2
                              else
                                k25 ()
                            else
                              bif (decide (y21 = 1)) then
                                bif ((decide (o3.2.1 > 0)) && ((decide ((IntKind.i64.wrap ((IntKind.i64.wrap (x22 * o3.2.1)) - (IntKind.i64.wrap (x23 * o4.2.1)))) ≤ (IntKind.i64.wrap (0 - o3.2.1)))) || (decide ((IntKind.i64.wrap ((IntKind.i64.wrap (x22 * o3.2.1)) - (IntKind.i64.wrap (x23 * o4.2.1)))) ≥ o3.2.1)))) then
                                  k2
                                else
                                  k25 ()
                              else
                                asrt (((decide (o3.2.1 > 0)) == true) && ((decide ((IntKind.i64.wrap ((IntKind.i64.wrap (x22 * o3.2.1)) - (IntKind.i64.wrap (x23 * o4.2.1)))) ≤ (IntKind.i64.wrap (0 - o3.2.1)))) == false)) false (
                                  bif ((decide (o3.2.1 > 0)) && ((decide ((IntKind.i64.wrap ((IntKind.i64.wrap (x22 * o3.2.1)) - (IntKind.i64.wrap (x23 * o4.2.1)))) ≤ (IntKind.i64.wrap (0 - o3.2.1)))) || (decide ((IntKind.i64.wrap ((IntKind.i64.wrap (x22 * o3.2.1)) - (IntKind.i64.wrap (x23 * o4.2.1)))) ≥ o3.2.1)))) then
                                    k2
                                  else
                                    k25 ()))
                    else
                      none
                else
                  none)
          else
            none)) fun _ =>
    kn (IntKind.i64.wrap (t15 + 1))
  else
    k1
noncomputable def l5_2 {R : Type} (t1 : (List T38)) (o0 : T22) (o1 : (List Int)) (o2 : (List Int)) (o3 : T40) (o4 : T40) (k1 : Option R) (k2 : Option R) : Nat → Int → Option R
  | 0, _ => none
  | n + 1, t15 => s5_2 t1 o0 o1 o2 o3 o4 (l5_2 t1 o0 o1 o2 o3 o4 k1 k2 n) k1 k2 t15
noncomputable def L5_2 : LE := ⟨24, 0, ⟨[(1, (.dat (.sl G38))), (3, (.box 0 [] 0)), (7, (.dat .bool)), (8, (.own 1)), (10, (.own 2)), (11, (.box 3 [] 0)), (12, (.box 4 [] 0)), (15, (.dat (.int .i64)))], [(.box (.dat G22)), (.arr (.int .i64)), (.arr (.int .i64)), (.box (.dat G40)), (.box (.dat G40))]⟩, fun R n x k => l5_2 x.1.1 x.2.1 x.2.2.1 x.2.2.2.1 x.2.2.2.2.1 x.2.2.2.2.2.1 (k (.exit 2) ⟨[(7, (.dat .bool x.1.2.2.1))], []⟩) (k .ret ⟨[(6, (.dat .bool false))], []⟩) n x.1.2.2.2.2.2.2.2.1⟩
noncomputable def C5 : Cfg := mkCfg [(14, ⟨[1, 3, 7, 8, 10, 11, 12, 13], []⟩), (15, ⟨[1, 3, 7, 8, 10, 11, 12, 13], []⟩), (19, ⟨[1, 3, 7, 8, 10, 11, 12, 13, 14], []⟩), (24, ⟨[1, 3, 7, 8, 10, 11, 12, 15], []⟩), (25, ⟨[1, 3, 7, 8, 10, 11, 12, 15], []⟩), (29, ⟨[1, 3, 7, 8, 10, 11, 12, 15, 16], []⟩)] [(14, (⟨[1, 3, 7, 8, 10, 11, 12], []⟩, ⟨[6], []⟩)), (24, (⟨[7], []⟩, ⟨[6], []⟩))] (([(0, L5_1), (1, L5_2)] : List (Nat × LE)).map (·.2))
theorem ek5_1 : EOk E5 C5 Try.f5.ntmps (bodyL Try.f5 0) L5_1 := eok_of (e := L5_1) (fun R x Kn k => s5_1 x.1.1 x.2.1 x.2.2.1 x.2.2.2.1 (fun v0 v1 v2 => Kn ((x.1.1, (), x.1.2.2.1, (), (), (), (), v0, ()), (x.2.1, x.2.2.1, x.2.2.2.1, v1, v2, ()))) (fun y0 y1 => k (.exit 0) ⟨[(1, (.dat (.sl G38) x.1.1)), (3, (.box 0 [] 0)), (7, (.dat .bool x.1.2.2.1)), (8, (.own 1)), (10, (.own 2)), (11, (.box 3 [] 0)), (12, (.box 4 [] 0))], [(.box (.dat G22 x.2.1)), (.arr (.int .i64) x.2.2.1), (.arr (.int .i64) x.2.2.2.1), (.box (.dat G40 y0)), (.box (.dat G40 y1))]⟩) x.1.2.2.2.2.2.2.2.1 x.2.2.2.2.1 x.2.2.2.2.2.1) (fun _ _ _ => rfl) (fun _ _ _ _ => rfl) (fun R x Kn k => by kernel_rfl)
theorem ek5_2 : EOk E5 C5 Try.f5.ntmps (bodyL Try.f5 1) L5_2 := eok_of (e := L5_2) (fun R x Kn k => s5_2 x.1.1 x.2.1 x.2.2.1 x.2.2.2.1 x.2.2.2.2.1 x.2.2.2.2.2.1 (fun v0 => Kn ((x.1.1, (), x.1.2.2.1, (), (), (), (), v0, ()), (x.2.1, x.2.2.1, x.2.2.2.1, x.2.2.2.2.1, x.2.2.2.2.2.1, ()))) (k (.exit 2) ⟨[(7, (.dat .bool x.1.2.2.1))], []⟩) (k .ret ⟨[(6, (.dat .bool false))], []⟩) x.1.2.2.2.2.2.2.2.1) (fun _ _ _ => rfl) (fun _ _ _ _ => rfl) (fun R x Kn k => by kernel_rfl)
theorem lm5 : ∀ c, Try.f5.body = some c → LmOk E5 C5 Try.f5.ntmps c := lmOk_of (ps := [(0, L5_1), (1, L5_2)]) (by kernel_rfl) (by kernel_rfl) ⟨ek5_1, ek5_2, trivial⟩
noncomputable def m5 (a0 : T22) (a1 : (List T38)) (a2 : (List Int)) : Option (Bool) :=
  (m8).bind fun r1 =>
  (m9 a1 a2).bind fun r2 =>
  bif (!r2) then
    some r1
  else
    (m12 a0 a1 a2).bind fun r3 =>
    bif (r3.2.1 != 0) then
      some r1
    else
      (m16 a0 a1 a2).bind fun r4 =>
      bif (((List.length r3.1 : Int) != (List.length a1 : Int)) || ((List.length r4 : Int) != (List.length a1 : Int))) then
        some false
      else
        l5_1 a1 a0 r3.1 r4 (fun y18 y19 =>
            bif ((decide (y19.2.1 > 0)) && (y19.1 != y18.1)) then
              some false
            else
              l5_2 a1 a0 r3.1 r4 y18 y19 (
                  some r1) (
                  some false) FUEL 0) FUEL 0 (0, 0, ()) (0, 0, ())
noncomputable def e5 : PmE := entry 5 [G22, (.sl G38), (.sl (.int .i64))] false .bool (fun x => m5 x.1 x.2.1 x.2.2.1)
theorem q5 (x : tyL [G22, (.sl G38), (.sl (.int .i64))]) : execF E5 C5 Try.f5 (datL [G22, (.sl G38), (.sl (.int .i64))] x) [] (retK false .bool) = m5 x.1 x.2.1 x.2.2.1 := by kernel_rfl
theorem p5 : PmOk Try.prog e5 := pm_ok (E := E5) ok5 ord lm5 Try.func5 ca5 q5

/-! 6: consol/consollaw36.OfferEarly -/
theorem ca6 : callable Try.prog 6 := ⟨Try.f6, Try.func6, by kernel_rfl, by kernel_rfl⟩
noncomputable def E6 : Env := mkEnv2 Try.prog [e8, e9] [c12, c16]
theorem ok6 : EnvOk E6 := mkEnv2_ok (by simp only [List.mem_cons, List.not_mem_nil, or_false, forall_eq_or_imp, forall_eq]; exact ⟨p8, p9⟩) (by simp only [List.mem_cons, List.not_mem_nil, or_false, forall_eq_or_imp, forall_eq]; exact ⟨d12, d16⟩)
/-- a round of a loop of consol/consollaw36.OfferEarly -/
noncomputable def s6_1 {R : Type} (o4 : (List Int)) (kn : Int → Int → Option R) (k1 : Int → Option R) (t17 : Int) (t18 : Int) : Option R :=
  bif (decide (t18 < (List.length o4 : Int))) then
    asrt true (decide (0 ≤ t18) && decide (t18 < (List.length o4 : Int))) (
      ((o4)[(t18 : Int).toNat]?).bind fun x6 =>
      kn (IntKind.i64.wrap (t17 + x6)) (IntKind.i64.wrap (t18 + 1)))
  else
    k1 t17
noncomputable def l6_1 {R : Type} (o4 : (List Int)) (k1 : Int → Option R) : Nat → Int → Int → Option R
  | 0, _, _ => none
  | n + 1, t17, t18 => s6_1 o4 (l6_1 o4 k1 n) k1 t17 t18
noncomputable def L6_1 : LE := ⟨16, 0, ⟨[(1, (.dat (.sl G38))), (4, (.box 0 [] 0)), (9, (.dat .bool)), (10, (.own 1)), (12, (.dat (.int .i64))), (13, (.own 2)), (14, (.own 3)), (16, (.own 4)), (17, (.dat (.int .i64))), (18, (.dat (.int .i64)))], [(.box (.dat G22)), (.arr (.int .i64)), (.arr G38), (.arr (.int .i64)), (.arr (.int .i64))]⟩, fun R n x k => l6_1 x.2.2.2.2.2.1 (fun y0 => k (.exit 0) ⟨[(1, (.dat (.sl G38) x.1.1)), (4, (.box 0 [] 0)), (9, (.dat .bool x.1.2.2.1)), (10, (.own 1)), (12, (.dat (.int .i64) x.1.2.2.2.2.1)), (13, (.own 2)), (14, (.own 3)), (17, (.dat (.int .i64) y0))], [(.box (.dat G22 x.2.1)), (.arr (.int .i64) x.2.2.1), (.arr G38 x.2.2.2.1), (.arr (.int .i64) x.2.2.2.2.1)]⟩) n x.1.2.2.2.2.2.2.2.2.1 x.1.2.2.2.2.2.2.2.2.2.1⟩
/-- a round of a loop of consol/consollaw36.OfferEarly -/
noncomputable def s6_2 {R : Type} (t1 : (List T38)) (t12 : Int) (o0 : T22) (kn : Bool → Int → Option R) (k1 : Bool → Option R) (t19 : Bool) (t20 : Int) : Option R :=
  bif (decide (t20 < (List.length t1 : Int))) then
    (idxG (t19 == false) (0, 0, 0, ()) t1 t20).bind fun x8 =>
    (idxG (t19 == false) (0, 0, 0, ()) t1 t12).bind fun x9 =>
    (idxG ((t19 == false) && ((x8.1 == x9.1) == true)) (0, 0, 0, ()) t1 t20).bind fun x10 =>
    kn (t19 || ((x8.1 == x9.1) && (decide (x10.2.2.1 ≤ o0.2.2.1)))) (IntKind.i64.wrap (t20 + 1))
  else
    k1 t19
noncomputable def l6_2 {R : Type} (t1 : (List T38)) (t12 : Int) (o0 : T22) (k1 : Bool → Option R) : Nat → Bool → Int → Option R
  | 0, _, _ => none
  | n + 1, t19, t20 => s6_2 t1 t12 o0 (l6_2 t1 t12 o0 k1 n) k1 t19 t20
noncomputable def L6_2 : LE := ⟨21, 0, ⟨[(1, (.dat (.sl G38))), (4, (.box 0 [] 0)), (9, (.dat .bool)), (10, (.own 1)), (12, (.dat (.int .i64))), (13, (.own 2)), (14, (.own 3)), (17, (.dat (.int .i64))), (19, (.dat .bool)), (20, (.dat (.int .i64)))], [(.box (.dat G22)), (.arr (.int .i64)), (.arr G38), (.arr (.int .i64))]⟩, fun R n x k => l6_2 x.1.1 x.1.2.2.2.2.1 x.2.1 (fun y0 => k (.exit 2) ⟨[(1, (.dat (.sl G38) x.1.1)), (4, (.box 0 [] 0)), (9, (.dat .bool x.1.2.2.1)), (10, (.own 1)), (12, (.dat (.int .i64) x.1.2.2.2.2.1)), (13, (.own 2)), (14, (.own 3)), (17, (.dat (.int .i64) x.1.2.2.2.2.2.2.2.1)), (19, (.dat .bool y0))], [(.box (.dat G22 x.2.1)), (.arr (.int .i64) x.2.2.1), (.arr G38 x.2.2.2.1), (.arr (.int .i64) x.2.2.2.2.1)]⟩) n x.1.2.2.2.2.2.2.2.2.1 x.1.2.2.2.2.2.2.2.2.2.1⟩
/-- a round of a loop of consol/consollaw36.OfferEarly -/
noncomputable def s6_3 {R : Type} (t1 : (List T38)) (t12 : Int) (o0 : T22) (o1 : (List Int)) (o2 : (List T38)) (o3 : (List Int)) (kn : Int → Option R) (k1 : Option R) (k2 : Option R) (t21 : Int) : Option R :=
  bif (decide (t21 < (List.length o2 : Int))) then
    cont (fun (k13 : Int → _) =>
      bif (decide (t21 ≥ t12)) then
        k13 (IntKind.i64.wrap (t21 + 1))
      else
        k13 t21) fun y13 =>
    (idx t1 y13).bind fun x14 =>
    asrt ((decide (x14.2.2.1 ≤ o0.2.2.1)) == true) (decide (0 ≤ y13) && decide (y13 < (List.length o1 : Int))) (
      ((bif ((decide (x14.2.2.1 ≤ o0.2.2.1)) == true) then (o1)[(y13 : Int).toNat]? else some 0)).bind fun x15 =>
      asrt ((decide (x14.2.2.1 ≤ o0.2.2.1)) == true) (decide (0 ≤ t21) && decide (t21 < (List.length o3 : Int))) (
        ((bif ((decide (x14.2.2.1 ≤ o0.2.2.1)) == true) then (o3)[(t21 : Int).toNat]? else some 0)).bind fun x16 =>
        bif ((decide (x14.2.2.1 ≤ o0.2.2.1)) && (x15 != x16)) then
          k2
        else
          kn (IntKind.i64.wrap (t21 + 1))))
  else
    k1
noncomputable def l6_3 {R : Type} (t1 : (List T38)) (t12 : Int) (o0 : T22) (o1 : (List Int)) (o2 : (List T38)) (o3 : (List Int)) (k1 : Option R) (k2 : Option R) : Nat → Int → Option R
  | 0, _ => none
  | n + 1, t21 => s6_3 t1 t12 o0 o1 o2 o3 (l6_3 t1 t12 o0 o1 o2 o3 k1 k2 n) k1 k2 t21
noncomputable def L6_3 : LE := ⟨27, 0, ⟨[(1, (.dat (.sl G38))), (4, (.box 0 [] 0)), (9, (.dat .bool)), (10, (.own 1)), (12, (.dat (.int .i64))), (13, (.own 2)), (14, (.own 3)), (21, (.dat (.int .i64)))], [(.box (.dat G22)), (.arr (.int .i64)), (.arr G38), (.arr (.int .i64))]⟩, fun R n x k => l6_3 x.1.1 x.1.2.2.2.2.1 x.2.1 x.2.2.1 x.2.2.2.1 x.2.2.2.2.1 (k (.exit 4) ⟨[(9, (.dat .bool x.1.2.2.1))], []⟩) (k .ret ⟨[(8, (.dat .bool false))], []⟩) n x.1.2.2.2.2.2.2.2.1⟩
noncomputable def C6 : Cfg := mkCfg [(16, ⟨[1, 4, 9, 10, 12, 13, 14, 16, 17, 18], []⟩), (21, ⟨[1, 4, 9, 10, 12, 13, 14, 17, 19, 20], []⟩), (27, ⟨[1, 4, 9, 10, 12, 13, 14, 21], []⟩), (28, ⟨[1, 4, 9, 10, 12, 13, 14, 21], []⟩), (32, ⟨[1, 4, 9, 10, 12, 13, 14, 21, 22], []⟩)] [(16, (⟨[1, 4, 9, 10, 12, 13, 14, 17], []⟩, ⟨[8], []⟩)), (21, (⟨[1, 4, 9, 10, 12, 13, 14, 17, 19], []⟩, ⟨[8], []⟩)), (27, (⟨[9], []⟩, ⟨[8], []⟩))] (([(0, L6_1), (1, L6_2), (2, L6_3)] : List (Nat × LE)).map (·.2))
theorem ek6_1 : EOk E6 C6 Try.f6.ntmps (bodyL Try.f6 0) L6_1 := eok_of (e := L6_1) (fun R x Kn k => s6_1 x.2.2.2.2.2.1 (fun v0 v1 => Kn ((x.1.1, (), x.1.2.2.1, (), x.1.2.2.2.2.1, (), (), (), v0, v1, ()), (x.2.1, x.2.2.1, x.2.2.2.1, x.2.2.2.2.1, x.2.2.2.2.2.1, ()))) (fun y0 => k (.exit 0) ⟨[(1, (.dat (.sl G38) x.1.1)), (4, (.box 0 [] 0)), (9, (.dat .bool x.1.2.2.1)), (10, (.own 1)), (12, (.dat (.int .i64) x.1.2.2.2.2.1)), (13, (.own 2)), (14, (.own 3)), (17, (.dat (.int .i64) y0))], [(.box (.dat G22 x.2.1)), (.arr (.int .i64) x.2.2.1), (.arr G38 x.2.2.2.1), (.arr (.int .i64) x.2.2.2.2.1)]⟩) x.1.2.2.2.2.2.2.2.2.1 x.1.2.2.2.2.2.2.2.2.2.1) (fun _ _ _ => rfl) (fun _ _ _ _ => rfl) (fun R x Kn k => by kernel_rfl)
theorem ek6_2 : EOk E6 C6 Try.f6.ntmps (bodyL Try.f6 1) L6_2 := eok_of (e := L6_2) (fun R x Kn k => s6_2 x.1.1 x.1.2.2.2.2.1 x.2.1 (fun v0 v1 => Kn ((x.1.1, (), x.1.2.2.1, (), x.1.2.2.2.2.1, (), (), x.1.2.2.2.2.2.2.2.1, v0, v1, ()), (x.2.1, x.2.2.1, x.2.2.2.1, x.2.2.2.2.1, ()))) (fun y0 => k (.exit 2) ⟨[(1, (.dat (.sl G38) x.1.1)), (4, (.box 0 [] 0)), (9, (.dat .bool x.1.2.2.1)), (10, (.own 1)), (12, (.dat (.int .i64) x.1.2.2.2.2.1)), (13, (.own 2)), (14, (.own 3)), (17, (.dat (.int .i64) x.1.2.2.2.2.2.2.2.1)), (19, (.dat .bool y0))], [(.box (.dat G22 x.2.1)), (.arr (.int .i64) x.2.2.1), (.arr G38 x.2.2.2.1), (.arr (.int .i64) x.2.2.2.2.1)]⟩) x.1.2.2.2.2.2.2.2.2.1 x.1.2.2.2.2.2.2.2.2.2.1) (fun _ _ _ => rfl) (fun _ _ _ _ => rfl) (fun R x Kn k => by kernel_rfl)
theorem ek6_3 : EOk E6 C6 Try.f6.ntmps (bodyL Try.f6 2) L6_3 := eok_of (e := L6_3) (fun R x Kn k => s6_3 x.1.1 x.1.2.2.2.2.1 x.2.1 x.2.2.1 x.2.2.2.1 x.2.2.2.2.1 (fun v0 => Kn ((x.1.1, (), x.1.2.2.1, (), x.1.2.2.2.2.1, (), (), v0, ()), (x.2.1, x.2.2.1, x.2.2.2.1, x.2.2.2.2.1, ()))) (k (.exit 4) ⟨[(9, (.dat .bool x.1.2.2.1))], []⟩) (k .ret ⟨[(8, (.dat .bool false))], []⟩) x.1.2.2.2.2.2.2.2.1) (fun _ _ _ => rfl) (fun _ _ _ _ => rfl) (fun R x Kn k => by kernel_rfl)
theorem lm6 : ∀ c, Try.f6.body = some c → LmOk E6 C6 Try.f6.ntmps c := lmOk_of (ps := [(0, L6_1), (1, L6_2), (2, L6_3)]) (by kernel_rfl) (by kernel_rfl) ⟨ek6_1, ek6_2, ek6_3, trivial⟩
noncomputable def m6 (a0 : T22) (a1 : (List T38)) (a2 : (List Int)) (a3 : Int) : Option (Bool) :=
  (m8).bind fun r1 =>
  (m9 a1 a2).bind fun r2 =>
  bif ((!r2) || ((List.length a1 : Int) == 0)) then
    some r1
  else
    (m12 a0 a1 a2).bind fun r3 =>
    bif (r3.2.1 != 0) then
      some r1
    else
      asrt true ((List.length a1 : Int) != 0) (
        asrt true (bounds true (List.length a1) 0 (Int.tmod (IntKind.i64.wrap a3) (List.length a1 : Int))) (
          asrt true (decide (List.length (α := T38) (subl a1 0 (Int.tmod (IntKind.i64.wrap a3) (List.length a1 : Int))) ≤ LIM)) (
            asrt true (bounds true (List.length a1) (IntKind.i64.wrap ((Int.tmod (IntKind.i64.wrap a3) (List.length a1 : Int)) + 1)) (List.length a1 : Int)) (
              asrt true (decide (List.length (α := T38) (subl a1 0 (Int.tmod (IntKind.i64.wrap a3) (List.length a1 : Int))) + List.length (α := T38) (subl a1 (IntKind.i64.wrap ((Int.tmod (IntKind.i64.wrap a3) (List.length a1 : Int)) + 1)) (List.length a1 : Int)) ≤ LIM)) (
                (m12 a0 ((subl a1 0 (Int.tmod (IntKind.i64.wrap a3) (List.length a1 : Int))) ++ (subl a1 (IntKind.i64.wrap ((Int.tmod (IntKind.i64.wrap a3) (List.length a1 : Int)) + 1)) (List.length a1 : Int))) a2).bind fun r4 =>
                bif (((r4.2.1 != 0) || ((List.length r4.1 : Int) != (List.length ((subl a1 0 (Int.tmod (IntKind.i64.wrap a3) (List.length a1 : Int))) ++ (subl a1 (IntKind.i64.wrap ((Int.tmod (IntKind.i64.wrap a3) (List.length a1 : Int)) + 1)) (List.length a1 : Int))) : Int))) || ((List.length r3.1 : Int) != (List.length a1 : Int))) then
                  some false
                else
                  (m16 a0 ((subl a1 0 (Int.tmod (IntKind.i64.wrap a3) (List.length a1 : Int))) ++ (subl a1 (IntKind.i64.wrap ((Int.tmod (IntKind.i64.wrap a3) (List.length a1 : Int)) + 1)) (List.length a1 : Int))) a2).bind fun r5 =>
                  l6_1 r5 (fun y7 =>
                      l6_2 a1 (Int.tmod (IntKind.i64.wrap a3) (List.length a1 : Int)) a0 (fun y11 =>
                          (idx a1 (Int.tmod (IntKind.i64.wrap a3) (List.length a1 : Int))).bind fun x12 =>
                          bif (((decide (x12.2.2.1 ≤ a0.2.2.1)) || (decide (y7 < a0.2.2.2.2.2.2.1))) || y11) then
                            some r1
                          else
                            l6_3 a1 (Int.tmod (IntKind.i64.wrap a3) (List.length a1 : Int)) a0 r3.1 ((subl a1 0 (Int.tmod (IntKind.i64.wrap a3) (List.length a1 : Int))) ++ (subl a1 (IntKind.i64.wrap ((Int.tmod (IntKind.i64.wrap a3) (List.length a1 : Int)) + 1)) (List.length a1 : Int))) r4.1 (
                                some r1) (
                                some false) FUEL 0) FUEL false (IntKind.i64.wrap ((Int.tmod (IntKind.i64.wrap a3) (List.length a1 : Int)) + 1))) FUEL 0 0)))))
noncomputable def e6 : PmE := entry 6 [G22, (.sl G38), (.sl (.int .i64)), (.int .u8)] false .bool (fun x => m6 x.1 x.2.1 x.2.2.1 x.2.2.2.1)
theorem q6 (x : tyL [G22, (.sl G38), (.sl (.int .i64)), (.int .u8)]) : execF E6 C6 Try.f6 (datL [G22, (.sl G38), (.sl (.int .i64)), (.int .u8)] x) [] (retK false .bool) = m6 x.1 x.2.1 x.2.2.1 x.2.2.2.1 := by kernel_rfl
theorem p6 : PmOk Try.prog e6 := pm_ok (E := E6) ok6 ord lm6 Try.func6 ca6 q6

/-! 17: consol/consollaw36.amount -/
theorem ca17 : callable Try.prog 17 := ⟨Try.f17, Try.func17, by kernel_rfl, by kernel_rfl⟩
noncomputable def E17 : Env := mkEnv2 Try.prog [] []
theorem ok17 : EnvOk E17 := mkEnv2_ok (by simp) (by simp)
/-- a round of a loop of consol/consollaw36.amount -/
noncomputable def s17_1 {R : Type} (t0 : (List T40)) (t1 : Int) (kn : Int → Option R) (k1 : Option R) (k2 : Int → Option R) (t5 : Int) : Option R :=
  bif (decide (t5 < (List.length t0 : Int))) then
    (idx t0 t5).bind fun x1 =>
    bif (x1.1 == t1) then
      (idx t0 t5).bind fun x2 =>
      k2 x2.2.1
    else
      kn (IntKind.i64.wrap (t5 + 1))
  else
    k1
noncomputable def l17_1 {R : Type} (t0 : (List T40)) (t1 : Int) (k1 : Option R) (k2 : Int → Option R) : Nat → Int → Option R
  | 0, _ => none
  | n + 1, t5 => s17_1 t0 t1 (l17_1 t0 t1 k1 k2 n) k1 k2 t5
noncomputable def L17_1 : LE := ⟨3, 0, ⟨[(0, (.dat (.sl G40))), (1, (.dat (.int .i64))), (5, (.dat (.int .i64)))], []⟩, fun R n x k => l17_1 x.1.1 x.1.2.1 (k (.exit 0) ⟨[], []⟩) (fun y0 => k .ret ⟨[(4, (.dat (.int .i64) y0))], []⟩) n x.1.2.2.1⟩
noncomputable def C17 : Cfg := mkCfg [(3, ⟨[0, 1, 5], []⟩)] [(3, (⟨[], []⟩, ⟨[4], []⟩))] (([(0, L17_1)] : List (Nat × LE)).map (·.2))
theorem ek17_1 : EOk E17 C17 Try.f17.ntmps (bodyL Try.f17 0) L17_1 := eok_of (e := L17_1) (fun R x Kn k => s17_1 x.1.1 x.1.2.1 (fun v0 => Kn ((x.1.1, x.1.2.1, v0, ()), (()))) (k (.exit 0) ⟨[], []⟩) (fun y0 => k .ret ⟨[(4, (.dat (.int .i64) y0))], []⟩) x.1.2.2.1) (fun _ _ _ => rfl) (fun _ _ _ _ => rfl) (fun R x Kn k => by kernel_rfl)
theorem lm17 : ∀ c, Try.f17.body = some c → LmOk E17 C17 Try.f17.ntmps c := lmOk_of (ps := [(0, L17_1)]) (by kernel_rfl) (by kernel_rfl) ⟨ek17_1, trivial⟩
noncomputable def m17 (a0 : (List T40)) (a1 : Int) : Option (Int) :=
  l17_1 a0 a1 (
      some 0) (fun y3 =>
      some y3) FUEL 0
noncomputable def e17 : PmE := entry 17 [(.sl G40), (.int .i64)] false (.int .i64) (fun x => m17 x.1 x.2.1)
theorem q17 (x : tyL [(.sl G40), (.int .i64)]) : execF E17 C17 Try.f17 (datL [(.sl G40), (.int .i64)] x) [] (retK false (.int .i64)) = m17 x.1 x.2.1 := by kernel_rfl
theorem p17 : PmOk Try.prog e17 := pm_ok (E := E17) ok17 ord lm17 Try.func17 ca17 q17

/-! 7: consol/consollaw36.OfferGives -/
theorem ca7 : callable Try.prog 7 := ⟨Try.f7, Try.func7, by kernel_rfl, by kernel_rfl⟩
noncomputable def E7 : Env := mkEnv2 Try.prog [e8, e9, e14, e17] [c10, c12]
theorem ok7 : EnvOk E7 := mkEnv2_ok (by simp only [List.mem_cons, List.not_mem_nil, or_false, forall_eq_or_imp, forall_eq]; exact ⟨p8, p9, p14, p17⟩) (by simp only [List.mem_cons, List.not_mem_nil, or_false, forall_eq_or_imp, forall_eq]; exact ⟨d10, d12⟩)
/-- a round of a loop of consol/consollaw36.OfferGives -/
noncomputable def s7_1 {R : Type} (t1 : (List T38)) (t19 : Int) (o0 : T22) (o1 : (List Int)) (kn : Int → Int → Option R) (k1 : Int → Option R) (t20 : Int) (t21 : Int) : Option R :=
  bif (decide (t21 < (List.length t1 : Int))) then
    cont (fun (k14 : Int → _) =>
      cont (fun (k10 : Int → _) =>
        (idx t1 t21).bind fun x7 =>
        (idxG ((x7.1 == t19) == true) (0, 0, 0, ()) t1 t21).bind fun x8 =>
        bif ((x7.1 == t19) && (decide (x8.2.2.1 ≤ o0.2.2.1))) then
          asrt true (decide (0 ≤ t21) && decide (t21 < (List.length o1 : Int))) (
            ((o1)[(t21 : Int).toNat]?).bind fun x9 =>
            k10 (IntKind.i64.wrap (t20 + (IntKind.i64.wrap (x9 * o0.2.2.2.2.1)))))
        else
          k10 t20) fun y10 =>
      (idx t1 t21).bind fun x11 =>
      (idxG ((x11.1 == t19) == true) (0, 0, 0, ()) t1 t21).bind fun x12 =>
      bif ((x11.1 == t19) && (decide (x12.2.2.1 > o0.2.2.1))) then
        asrt true (decide (0 ≤ t21) && decide (t21 < (List.length o1 : Int))) (
          ((o1)[(t21 : Int).toNat]?).bind fun x13 =>
          k14 (IntKind.i64.wrap (y10 + (IntKind.i64.wrap (x13 * o0.2.2.2.2.2.1)))))
      else
        k14 y10) fun y14 =>
    kn y14 (IntKind.i64.wrap (t21 + 1))
  else
    k1 t20
noncomputable def l7_1 {R : Type} (t1 : (List T38)) (t19 : Int) (o0 : T22) (o1 : (List Int)) (k1 : Int → Option R) : Nat → Int → Int → Option R
  | 0, _, _ => none
  | n + 1, t20, t21 => s7_1 t1 t19 o0 o1 (l7_1 t1 t19 o0 o1 k1 n) k1 t20 t21
noncomputable def L7_1 : LE := ⟨20, 0, ⟨[(1, (.dat (.sl G38))), (2, (.dat (.sl (.int .i64)))), (4, (.box 0 [] 0)), (9, (.dat .bool)), (10, (.own 1)), (12, (.own 2)), (13, (.own 3)), (17, (.own 4)), (19, (.dat (.int .i64))), (20, (.dat (.int .i64))), (21, (.dat (.int .i64)))], [(.box (.dat G22)), (.arr (.int .i64)), (.arr G40), (.arr G40), (.arr G40)]⟩, fun R n x k => l7_1 x.1.1 x.1.2.2.2.2.2.2.2.2.1 x.2.1 x.2.2.1 (fun y0 => k (.exit 2) ⟨[(1, (.dat (.sl G38) x.1.1)), (2, (.dat (.sl (.int .i64)) x.1.2.1)), (4, (.box 0 [] 0)), (9, (.dat .bool x.1.2.2.2.1)), (10, (.own 1)), (12, (.own 2)), (13, (.own 3)), (17, (.own 4)), (19, (.dat (.int .i64) x.1.2.2.2.2.2.2.2.2.1)), (20, (.dat (.int .i64) y0))], [(.box (.dat G22 x.2.1)), (.arr (.int .i64) x.2.2.1), (.arr G40 x.2.2.2.1), (.arr G40 x.2.2.2.2.1), (.arr G40 x.2.2.2.2.2.1)]⟩) n x.1.2.2.2.2.2.2.2.2.2.1 x.1.2.2.2.2.2.2.2.2.2.2.1⟩
/-- a round of a loop of consol/consollaw36.OfferGives -/
noncomputable def s7_2 {R : Type} (t1 : (List T38)) (t2 : (List Int)) (o0 : T22) (o1 : (List Int)) (o2 : (List T40)) (o3 : (List T40)) (o4 : (List T40)) (kn : Int → Option R) (k1 : Option R) (k2 : Option R) (t19 : Int) : Option R :=
  bif (decide (t19 < (List.length t2 : Int))) then
    l7_1 t1 t19 o0 o1 (fun y15 =>
        (m17 o3 t19).bind fun r16 =>
        (bif ((r16 != (IntKind.i64.wrap (Int.tdiv y15 1000))) == false) then (m17 o4 t19) else some 0).bind fun r17 =>
        (bif ((r16 != (IntKind.i64.wrap (Int.tdiv y15 1000))) == false) then (m17 o3 t19) else some 0).bind fun r18 =>
        (bif (((r16 != (IntKind.i64.wrap (Int.tdiv y15 1000))) || (decide (r17 < r18))) == false) then (m17 o2 t19) else some 0).bind fun r19 =>
        (bif ((((r16 != (IntKind.i64.wrap (Int.tdiv y15 1000))) || (decide (r17 < r18))) == false) && ((r19 == 0) == true)) then (m17 o3 t19) else some 0).bind fun r20 =>
        bif (((r16 != (IntKind.i64.wrap (Int.tdiv y15 1000))) || (decide (r17 < r18))) || ((r19 == 0) && (r20 != 0))) then
          k2
        else
          kn (IntKind.i64.wrap (t19 + 1))) FUEL 0 0
  else
    k1
noncomputable def l7_2 {R : Type} (t1 : (List T38)) (t2 : (List Int)) (o0 : T22) (o1 : (List Int)) (o2 : (List T40)) (o3 : (List T40)) (o4 : (List T40)) (k1 : Option R) (k2 : Option R) : Nat → Int → Option R
  | 0, _ => none
  | n + 1, t19 => s7_2 t1 t2 o0 o1 o2 o3 o4 (l7_2 t1 t2 o0 o1 o2 o3 o4 k1 k2 n) k1 k2 t19
noncomputable def L7_2 : LE := ⟨16, 0, ⟨[(1, (.dat (.sl G38))), (2, (.dat (.sl (.int .i64)))), (4, (.box 0 [] 0)), (9, (.dat .bool)), (10, (.own 1)), (12, (.own 2)), (13, (.own 3)), (17, (.own 4)), (19, (.dat (.int .i64)))], [(.box (.dat G22)), (.arr (.int .i64)), (.arr G40), (.arr G40), (.arr G40)]⟩, fun R n x k => l7_2 x.1.1 x.1.2.1 x.2.1 x.2.2.1 x.2.2.2.1 x.2.2.2.2.1 x.2.2.2.2.2.1 (k (.exit 0) ⟨[(9, (.dat .bool x.1.2.2.2.1))], []⟩) (k .ret ⟨[(8, (.dat .bool false))], []⟩) n x.1.2.2.2.2.2.2.2.2.1⟩
noncomputable def C7 : Cfg := mkCfg [(16, ⟨[1, 2, 4, 9, 10, 12, 13, 17, 19], []⟩), (20, ⟨[1, 2, 4, 9, 10, 12, 13, 17, 19, 20, 21], []⟩), (21, ⟨[1, 2, 4, 9, 10, 12, 13, 17, 19, 20, 21], []⟩), (24, ⟨[1, 2, 4, 9, 10, 12, 13, 17, 19, 20, 21], []⟩)] [(16, (⟨[9], []⟩, ⟨[8], []⟩)), (20, (⟨[1, 2, 4, 9, 10, 12, 13, 17, 19, 20], []⟩, ⟨[8], []⟩))] (([(1, L7_1), (0, L7_2)] : List (Nat × LE)).map (·.2))
theorem ek7_1 : EOk E7 C7 Try.f7.ntmps (bodyL Try.f7 1) L7_1 := eok_of (e := L7_1) (fun R x Kn k => s7_1 x.1.1 x.1.2.2.2.2.2.2.2.2.1 x.2.1 x.2.2.1 (fun v0 v1 => Kn ((x.1.1, x.1.2.1, (), x.1.2.2.2.1, (), (), (), (), x.1.2.2.2.2.2.2.2.2.1, v0, v1, ()), (x.2.1, x.2.2.1, x.2.2.2.1, x.2.2.2.2.1, x.2.2.2.2.2.1, ()))) (fun y0 => k (.exit 2) ⟨[(1, (.dat (.sl G38) x.1.1)), (2, (.dat (.sl (.int .i64)) x.1.2.1)), (4, (.box 0 [] 0)), (9, (.dat .bool x.1.2.2.2.1)), (10, (.own 1)), (12, (.own 2)), (13, (.own 3)), (17, (.own 4)), (19, (.dat (.int .i64) x.1.2.2.2.2.2.2.2.2.1)), (20, (.dat (.int .i64) y0))], [(.box (.dat G22 x.2.1)), (.arr (.int .i64) x.2.2.1), (.arr G40 x.2.2.2.1), (.arr G40 x.2.2.2.2.1), (.arr G40 x.2.2.2.2.2.1)]⟩) x.1.2.2.2.2.2.2.2.2.2.1 x.1.2.2.2.2.2.2.2.2.2.2.1) (fun _ _ _ => rfl) (fun _ _ _ _ => rfl) (fun R x Kn k => by kernel_rfl)
theorem ek7_2 : EOk E7 C7 Try.f7.ntmps (bodyL Try.f7 0) L7_2 := eok_of (e := L7_2) (fun R x Kn k => s7_2 x.1.1 x.1.2.1 x.2.1 x.2.2.1 x.2.2.2.1 x.2.2.2.2.1 x.2.2.2.2.2.1 (fun v0 => Kn ((x.1.1, x.1.2.1, (), x.1.2.2.2.1, (), (), (), (), v0, ()), (x.2.1, x.2.2.1, x.2.2.2.1, x.2.2.2.2.1, x.2.2.2.2.2.1, ()))) (k (.exit 0) ⟨[(9, (.dat .bool x.1.2.2.2.1))], []⟩) (k .ret ⟨[(8, (.dat .bool false))], []⟩) x.1.2.2.2.2.2.2.2.2.1) (fun _ _ _ => rfl) (fun _ _ _ _ => rfl) (fun R x Kn k => by kernel_rfl)
theorem lm7 : ∀ c, Try.f7.body = some c → LmOk E7 C7 Try.f7.ntmps c := lmOk_of (ps := [(1, L7_1), (0, L7_2)]) (by kernel_rfl) (by kernel_rfl) ⟨ek7_1, ek7_2, trivial⟩
noncomputable def m7 (a0 : T22) (a1 : (List T38)) (a2 : (List Int)) (a3 : Int) : Option (Bool) :=
  (m8).bind fun r1 =>
  (m9 a1 a2).bind fun r2 =>
  bif (!r2) then
    some r1
  else
    (m12 a0 a1 a2).bind fun r3 =>
    (m10 a0 a1 a2).bind fun r4 =>
    bif ((r3.2.1 != 0) || (r4.2.2.1 != 0)) then
      some (r1 && (r3.2.1 == r4.2.2.1))
    else
      (m10 (a0.1, a0.2.1, a0.2.2.1, a0.2.2.2.1, (bif decide (10000 < (IntKind.i64.wrap (a0.2.2.2.2.1 + (IntKind.i64.wrap a3)))) then 10000 else (IntKind.i64.wrap (a0.2.2.2.2.1 + (IntKind.i64.wrap a3)))), (bif decide (10000 < (IntKind.i64.wrap (a0.2.2.2.2.2.1 + (IntKind.i64.wrap a3)))) then 10000 else (IntKind.i64.wrap (a0.2.2.2.2.2.1 + (IntKind.i64.wrap a3)))), a0.2.2.2.2.2.2.1, a0.2.2.2.2.2.2.2.1, ()) a1 a2).bind fun r5 =>
      (bif ((r5.2.2.1 != 0) == false) then (m14 r4.1 r5.1) else some false).bind fun r6 =>
      bif (((r5.2.2.1 != 0) || (!r6)) || ((List.length r3.1 : Int) != (List.length a1 : Int))) then
        some false
      else
        l7_2 a1 a2 a0 r3.1 r4.1 r4.2.1 r5.2.1 (
            some r1) (
            some false) FUEL 0
noncomputable def e7 : PmE := entry 7 [G22, (.sl G38), (.sl (.int .i64)), (.int .u8)] false .bool (fun x => m7 x.1 x.2.1 x.2.2.1 x.2.2.2.1)
theorem q7 (x : tyL [G22, (.sl G38), (.sl (.int .i64)), (.int .u8)]) : execF E7 C7 Try.f7 (datL [G22, (.sl G38), (.sl (.int .i64)), (.int .u8)] x) [] (retK false .bool) = m7 x.1 x.2.1 x.2.2.1 x.2.2.2.1 := by kernel_rfl
theorem p7 : PmOk Try.prog e7 := pm_ok (E := E7) ok7 ord lm7 Try.func7 ca7 q7

end Go.Proofs.Ytidlfemliaepjaa
