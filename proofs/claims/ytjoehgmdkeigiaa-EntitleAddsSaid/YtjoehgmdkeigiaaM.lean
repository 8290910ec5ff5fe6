/- Models of the functions that the statements reach. -/
import Derived.Test.YtjoehgmdkeigiaaE32
import Derived.Test.YtjoehgmdkeigiaaChecked
import Derived.KernelRfl
namespace Go.Proofs.Ytjoehgmdkeigiaa
open Go Go.Eng
set_option linter.unusedVariables false

/-- x, y, signed, code -/
abbrev G7 : GT := .cons (.int .i64) (.cons (.int .i64) (.cons .bool (.cons (.int .u8) (.nil))))
abbrev T7 : Type := Int × Int × Bool × Int × Unit
/-- msg, addr -/
abbrev G13 : GT := .cons .str (.cons (.int .u64) (.nil))
abbrev T13 : Type := (List UInt8) × Int × Unit
/-- Seat, Amount -/
abbrev G36 : GT := .cons (.int .i64) (.cons (.int .i64) (.nil))
abbrev T36 : Type := Int × Int × Unit
/-- Kind, From, To, Units, Made, Due, Done, Back -/
abbrev G45 : GT := .cons (.int .i64) (.cons (.int .i64) (.cons (.int .i64) (.cons (.int .i64) (.cons (.int .i64) (.cons (.int .i64) (.cons (.int .i64) (.cons (.int .i64) (.nil))))))))
abbrev T45 : Type := Int × Int × Int × Int × Int × Int × Int × Int × Unit

theorem ord : Try.prog.follows .mixedOrders = true := by kernel_rfl

/-! 25: consol/consollaw33.three -/
theorem ca25 : callable Try.prog 25 := ⟨Try.f25, Try.func25, by kernel_rfl, by kernel_rfl⟩
noncomputable def E25 : Env := mkEnv2 Try.prog [] []
theorem ok25 : EnvOk E25 := mkEnv2_ok (by simp) (by simp)
noncomputable def C25 : Cfg := noCfg
theorem lm25 : ∀ c, Try.f25.body = some c → LmOk E25 C25 Try.f25.ntmps c := fun _ _ => noCfg_lm
noncomputable def m25  : Option ((List T36)) :=
  some [((-1), (-1), ()), ((-1), (-1), ()), ((-1), 4, ())]
noncomputable def e25 : PmE := entry 25 [] false (.sl G36) (fun x => m25 )
theorem q25 (x : tyL []) : execF E25 C25 Try.f25 (datL [] x) [] (retK false (.sl G36)) = m25  := by kernel_rfl
theorem p25 : PmOk Try.prog e25 := pm_ok (E := E25) ok25 ord lm25 Try.func25 ca25 q25

/-! 47: consol/book.levels -/
theorem ca47 : callable Try.prog 47 := ⟨Try.f47, Try.func47, by kernel_rfl, by kernel_rfl⟩
noncomputable def E47 : Env := mkEnv2 Try.prog [] []
theorem ok47 : EnvOk E47 := mkEnv2_ok (by simp) (by simp)
/-- a round of a loop of consol/book.levels -/
noncomputable def s47_1 {R : Type} (t13 : (List T36)) (t14 : Int) (kn : Int → (List Int) → Option R) (k1 : (List Int) → Option R) (k2 : Option R) (t15 : Int) (o0 : (List Int)) : Option R :=
  bif (decide (t15 < t14)) then
    (idx t13 t15).bind fun x1 =>
    bif ((((decide (x1.1 < (-1))) || (decide (x1.1 ≥ t15))) || (decide (x1.2.1 < (-1)))) || (decide (x1.2.1 ≥ 60))) then
      k2
    else
      cont (fun (k4 : (List Int) → _) =>
        bif (decide (x1.1 ≥ 0)) then
          asrt true (decide (0 ≤ x1.1) && decide (x1.1 < (List.length o0 : Int))) (
            ((o0)[(x1.1 : Int).toNat]?).bind fun x2 =>
            asrt true (decide (0 ≤ t15) && decide (t15 < (List.length o0 : Int))) (
              ((o0)[(t15 : Int).toNat]?).bind fun x3 =>
              k4 (List.set o0 (t15 : Int).toNat (IntKind.i64.wrap (x2 + 1)))))
        else
          k4 o0) fun y4 =>
      asrt true (decide (0 ≤ t15) && decide (t15 < (List.length y4 : Int))) (
        ((y4)[(t15 : Int).toNat]?).bind fun x5 =>
        bif (decide (x5 > 4)) then
          k2
        else
          kn (IntKind.i64.wrap (t15 + 1)) y4)
  else
    k1 o0
noncomputable def l47_1 {R : Type} (t13 : (List T36)) (t14 : Int) (k1 : (List Int) → Option R) (k2 : Option R) : Nat → Int → (List Int) → Option R
  | 0, _, _ => none
  | n + 1, t15, o0 => s47_1 t13 t14 (l47_1 t13 t14 k1 k2 n) k1 k2 t15 o0
noncomputable def L47_1 : LE := ⟨6, 0, ⟨[(4, (.own 0)), (13, (.dat (.sl G36))), (14, (.dat (.int .i64))), (15, (.dat (.int .i64)))], [(.arr (.int .i64))]⟩, fun R n x k => l47_1 x.1.2.1 x.1.2.2.1 (fun y0 => k (.exit 0) ⟨[(4, (.own 0))], [(.arr (.int .i64) y0)]⟩) (k .ret ⟨[(2, .nils), (3, (.dat .bool false))], []⟩) n x.1.2.2.2.1 x.2.1⟩
noncomputable def C47 : Cfg := mkCfg [(6, ⟨[4, 13, 14, 15], []⟩), (12, ⟨[4, 5, 13, 14, 15], []⟩), (14, ⟨[4, 13, 14, 15], []⟩)] [(6, (⟨[4], []⟩, ⟨[2, 3], []⟩))] (([(0, L47_1)] : List (Nat × LE)).map (·.2))
theorem ek47_1 : EOk E47 C47 Try.f47.ntmps (bodyL Try.f47 0) L47_1 := eok_of (e := L47_1) (fun R x Kn k => s47_1 x.1.2.1 x.1.2.2.1 (fun v0 v1 => Kn (((), x.1.2.1, x.1.2.2.1, v0, ()), (v1, ()))) (fun y0 => k (.exit 0) ⟨[(4, (.own 0))], [(.arr (.int .i64) y0)]⟩) (k .ret ⟨[(2, .nils), (3, (.dat .bool false))], []⟩) x.1.2.2.2.1 x.2.1) (fun _ _ _ => rfl) (fun _ _ _ _ => rfl) (fun R x Kn k => by kernel_rfl)
theorem lm47 : ∀ c, Try.f47.body = some c → LmOk E47 C47 Try.f47.ntmps c := lmOk_of (ps := [(0, L47_1)]) (by kernel_rfl) (by kernel_rfl) ⟨ek47_1, trivial⟩
noncomputable def m47 (a0 : (List T36)) : Option (((List Int) × (Bool × Unit))) :=
  bif (decide ((List.length a0 : Int) > 20000)) then
    some ([], false, ())
  else
    asrt true (decide (0 ≤ (List.length a0 : Int)) && decide ((List.length a0 : Int) ≤ (List.length a0 : Int)) && decide ((List.length a0 : Int) ≤ (LIM : Int))) (
      l47_1 a0 (List.length a0 : Int) (fun y6 =>
          some (y6, true, ())) (
          some ([], false, ())) FUEL 0 (List.replicate ((List.length a0 : Int) : Int).toNat 0))
theorem q47 (x : tyL [(.sl G36)]) : execF E47 C47 Try.f47 (datL [(.sl G36)] x) [] (retT [true, false] (.cons (.sl (.int .i64)) (.cons .bool .nil))) = m47 x.1 := by kernel_rfl
noncomputable def c47 : CmE := ownT 47 [(.sl G36)] [true, false] (.cons (.sl (.int .i64)) (.cons .bool .nil)) (fun x => m47 x.1)
theorem d47 : CmOk Try.prog c47 := ownT_ok ca47 (frun_of (E := E47) ok47 ord lm47 Try.func47 q47)

/-! 33: consol/book.Right -/
theorem ca33 : callable Try.prog 33 := ⟨Try.f33, Try.func33, by kernel_rfl, by kernel_rfl⟩
noncomputable def E33 : Env := mkEnv2 Try.prog [] [c47]
theorem ok33 : EnvOk E33 := mkEnv2_ok (by simp) (by simp only [List.mem_cons, List.not_mem_nil, or_false, forall_eq]; exact d47)
noncomputable def C33 : Cfg := noCfg
theorem lm33 : ∀ c, Try.f33.body = some c → LmOk E33 C33 Try.f33.ntmps c := fun _ _ => noCfg_lm
noncomputable def m33 (a0 : (List T36)) : Option (Bool) :=
  (m47 a0).bind fun r1 =>
  some r1.2.1
noncomputable def e33 : PmE := entry 33 [(.sl G36)] false .bool (fun x => m33 x.1)
theorem q33 (x : tyL [(.sl G36)]) : execF E33 C33 Try.f33 (datL [(.sl G36)] x) [] (retK false .bool) = m33 x.1 := by kernel_rfl
theorem p33 : PmOk Try.prog e33 := pm_ok (E := E33) ok33 ord lm33 Try.func33 ca33 q33

/-! 36: consol/book.leaf -/
theorem ca50 : callable Try.prog 50 := ⟨Try.f50, Try.func50, by kernel_rfl, by kernel_rfl⟩
noncomputable def E36i50 : Env := mkEnv2 Try.prog [] []
theorem ok36i50 : EnvOk E36i50 := mkEnv2_ok (by simp) (by simp)
noncomputable def C36i50 : Cfg := noCfg
theorem lm36i50 : ∀ c, Try.f50.body = some c → LmOk E36i50 C36i50 Try.f50.ntmps c := fun _ _ => noCfg_lm
noncomputable def c36i50 : CmE := inl E36i50 C36i50 50 Try.f50
theorem d36i50 : CmOk Try.prog c36i50 := inl_ok (E := E36i50) ok36i50 ord lm36i50 Try.func50 ca50

theorem ca56 : callable Try.prog 56 := ⟨Try.f56, Try.func56, by kernel_rfl, by kernel_rfl⟩
noncomputable def E36i56 : Env := mkEnv2 Try.prog [] [c36i50]
theorem ok36i56 : EnvOk E36i56 := mkEnv2_ok (by simp) (by simp only [List.mem_cons, List.not_mem_nil, or_false, forall_eq]; exact d36i50)
/-- a round of a loop of slices.IndexFunc[[]consol/api.Seat,consol/api.Seat] -/
noncomputable def s36_1 {R : Type} (t0 : (List T36)) (t7 : Int) (o0 : Int) (kn : Int → Option R) (k1 : Option R) (k2 : Int → Option R) (t8 : Int) : Option R :=
  bif (decide (t8 < t7)) then
    (idx t0 t8).bind fun x1 =>
    bif (x1.1 == o0) then
      k2 t8
    else
      kn (IntKind.i64.wrap (t8 + 1))
  else
    k1
noncomputable def l36_1 {R : Type} (t0 : (List T36)) (t7 : Int) (o0 : Int) (k1 : Option R) (k2 : Int → Option R) : Nat → Int → Option R
  | 0, _ => none
  | n + 1, t8 => s36_1 t0 t7 o0 (l36_1 t0 t7 o0 k1 k2 n) k1 k2 t8
noncomputable def L36_1 : LE := ⟨3, 1, ⟨[(0, (.dat (.sl G36))), (1, (.fn 50 (.scons (.box 0 [] 0) .snil))), (7, (.dat (.int .i64))), (8, (.dat (.int .i64)))], [(.box (.dat (.int .i64)))]⟩, fun R n x k => l36_1 x.1.1 x.1.2.2.1 x.2.1 (k (.exit 0) ⟨[], [(.box (.dat (.int .i64) x.2.1))]⟩) (fun y0 => k .ret ⟨[(4, (.dat (.int .i64) y0))], [(.box (.dat (.int .i64) x.2.1))]⟩) n x.1.2.2.2.1⟩
noncomputable def C36i56 : Cfg := mkCfg [(3, ⟨[0, 1, 7, 8], []⟩)] [(3, (⟨[], []⟩, ⟨[4], []⟩))] (([(0, L36_1)] : List (Nat × LE)).map (·.2))
theorem ek36_1 : EOk E36i56 C36i56 Try.f56.ntmps (bodyL Try.f56 0) L36_1 := eok_of (e := L36_1) (fun R x Kn k => s36_1 x.1.1 x.1.2.2.1 x.2.1 (fun v0 => Kn ((x.1.1, ((), ()), x.1.2.2.1, v0, ()), (x.2.1, ()))) (k (.exit 0) ⟨[], [(.box (.dat (.int .i64) x.2.1))]⟩) (fun y0 => k .ret ⟨[(4, (.dat (.int .i64) y0))], [(.box (.dat (.int .i64) x.2.1))]⟩) x.1.2.2.2.1) (fun _ _ _ => rfl) (fun _ _ _ _ => rfl) (fun R x Kn k => by kernel_rfl)
theorem lm36i56 : ∀ c, Try.f56.body = some c → LmOk E36i56 C36i56 Try.f56.ntmps c := lmOk_of (ps := [(0, L36_1)]) (by kernel_rfl) (by kernel_rfl) ⟨ek36_1, trivial⟩
noncomputable def c36i56 : CmE := inl E36i56 C36i56 56 Try.f56
theorem d36i56 : CmOk Try.prog c36i56 := inl_ok (E := E36i56) ok36i56 ord lm36i56 Try.func56 ca56

theorem ca49 : callable Try.prog 49 := ⟨Try.f49, Try.func49, by kernel_rfl, by kernel_rfl⟩
noncomputable def E36i49 : Env := mkEnv2 Try.prog [] [c36i56]
theorem ok36i49 : EnvOk E36i49 := mkEnv2_ok (by simp) (by simp only [List.mem_cons, List.not_mem_nil, or_false, forall_eq]; exact d36i56)
noncomputable def C36i49 : Cfg := noCfg
theorem lm36i49 : ∀ c, Try.f49.body = some c → LmOk E36i49 C36i49 Try.f49.ntmps c := fun _ _ => noCfg_lm
noncomputable def c36i49 : CmE := inl E36i49 C36i49 49 Try.f49
theorem d36i49 : CmOk Try.prog c36i49 := inl_ok (E := E36i49) ok36i49 ord lm36i49 Try.func49 ca49

theorem ca36 : callable Try.prog 36 := ⟨Try.f36, Try.func36, by kernel_rfl, by kernel_rfl⟩
noncomputable def E36 : Env := mkEnv2 Try.prog [] [c36i49]
theorem ok36 : EnvOk E36 := mkEnv2_ok (by simp) (by simp only [List.mem_cons, List.not_mem_nil, or_false, forall_eq]; exact d36i49)
noncomputable def C36 : Cfg := noCfg
theorem lm36 : ∀ c, Try.f36.body = some c → LmOk E36 C36 Try.f36.ntmps c := fun _ _ => noCfg_lm
noncomputable def m36 (a0 : (List T36)) (a1 : Int) : Option (Bool) :=
  bif (((decide (a1 ≥ 0)) && (decide (a1 < (List.length a0 : Int)))) == true) then
    l36_1 a0 (List.length a0 : Int) a1 (
        some (((decide (a1 ≥ 0)) && (decide (a1 < (List.length a0 : Int)))) && (!(decide ((-1) ≥ 0))))) (fun y2 =>
        some (((decide (a1 ≥ 0)) && (decide (a1 < (List.length a0 : Int)))) && (!(decide (y2 ≥ 0))))) FUEL 0
  else
    some (bif ((decide (a1 ≥ 0)) && (decide (a1 < (List.length a0 : Int)))) then true else false)
noncomputable def e36 : PmE := entry 36 [(.sl G36), (.int .i64)] false .bool (fun x => m36 x.1 x.2.1)
theorem q36 (x : tyL [(.sl G36), (.int .i64)]) : execF E36 C36 Try.f36 (datL [(.sl G36), (.int .i64)] x) [] (retK false .bool) = m36 x.1 x.2.1 := by kernel_rfl
theorem p36 : PmOk Try.prog e36 := pm_ok (E := E36) ok36 ord lm36 Try.func36 ca36 q36

/-! 18: consol/book.Leaf -/
theorem ca18 : callable Try.prog 18 := ⟨Try.f18, Try.func18, by kernel_rfl, by kernel_rfl⟩
noncomputable def E18 : Env := mkEnv2 Try.prog [e33, e36] []
theorem ok18 : EnvOk E18 := mkEnv2_ok (by simp only [List.mem_cons, List.not_mem_nil, or_false, forall_eq_or_imp, forall_eq]; exact ⟨p33, p36⟩) (by simp)
noncomputable def C18 : Cfg := noCfg
theorem lm18 : ∀ c, Try.f18.body = some c → LmOk E18 C18 Try.f18.ntmps c := fun _ _ => noCfg_lm
noncomputable def m18 (a0 : (List T36)) (a1 : Int) : Option (Bool) :=
  (m33 a0).bind fun r1 =>
  (bif (r1 == true) then (m36 a0 a1) else some false).bind fun r2 =>
  some (r1 && r2)
noncomputable def e18 : PmE := entry 18 [(.sl G36), (.int .i64)] false .bool (fun x => m18 x.1 x.2.1)
theorem q18 (x : tyL [(.sl G36), (.int .i64)]) : execF E18 C18 Try.f18 (datL [(.sl G36), (.int .i64)] x) [] (retK false .bool) = m18 x.1 x.2.1 := by kernel_rfl
theorem p18 : PmOk Try.prog e18 := pm_ok (E := E18) ok18 ord lm18 Try.func18 ca18 q18

/-! 27: consol/entitle.valid -/
theorem ca27 : callable Try.prog 27 := ⟨Try.f27, Try.func27, by kernel_rfl, by kernel_rfl⟩
noncomputable def E27 : Env := mkEnv2 Try.prog [e18, e33] []
theorem ok27 : EnvOk E27 := mkEnv2_ok (by simp only [List.mem_cons, List.not_mem_nil, or_false, forall_eq_or_imp, forall_eq]; exact ⟨p18, p33⟩) (by simp)
/-- a round of a loop of consol/entitle.valid -/
noncomputable def s27_1 {R : Type} (t0 : (List T36)) (t18 : (List Int)) (t19 : Int) (kn : Int → Int → Option R) (k1 : Int → Option R) (k2 : Option R) (t5 : Int) (t20 : Int) : Option R :=
  bif (decide (t20 < t19)) then
    (idx t18 t20).bind fun x2 =>
    (bif ((((decide (x2 < 0)) || (decide (x2 > 1000000000))) == false) && ((decide (x2 > 0)) == true)) then (m18 t0 t20) else some false).bind fun r3 =>
    bif (((decide (x2 < 0)) || (decide (x2 > 1000000000))) || ((decide (x2 > 0)) && (!r3))) then
      k2
    else
      kn (IntKind.i64.wrap (t5 + x2)) (IntKind.i64.wrap (t20 + 1))
  else
    k1 t5
noncomputable def l27_1 {R : Type} (t0 : (List T36)) (t18 : (List Int)) (t19 : Int) (k1 : Int → Option R) (k2 : Option R) : Nat → Int → Int → Option R
  | 0, _, _ => none
  | n + 1, t5, t20 => s27_1 t0 t18 t19 (l27_1 t0 t18 t19 k1 k2 n) k1 k2 t5 t20
noncomputable def L27_1 : LE := ⟨6, 0, ⟨[(0, (.dat (.sl G36))), (5, (.dat (.int .i64))), (18, (.dat (.sl (.int .i64)))), (19, (.dat (.int .i64))), (20, (.dat (.int .i64)))], []⟩, fun R n x k => l27_1 x.1.1 x.1.2.2.1 x.1.2.2.2.1 (fun y0 => k (.exit 0) ⟨[(5, (.dat (.int .i64) y0))], []⟩) (k .ret ⟨[(4, (.dat .bool false))], []⟩) n x.1.2.1 x.1.2.2.2.2.1⟩
noncomputable def C27 : Cfg := mkCfg [(6, ⟨[0, 5, 18, 19, 20], []⟩)] [(6, (⟨[5], []⟩, ⟨[4], []⟩))] (([(0, L27_1)] : List (Nat × LE)).map (·.2))
theorem ek27_1 : EOk E27 C27 Try.f27.ntmps (bodyL Try.f27 0) L27_1 := eok_of (e := L27_1) (fun R x Kn k => s27_1 x.1.1 x.1.2.2.1 x.1.2.2.2.1 (fun v0 v1 => Kn ((x.1.1, v0, x.1.2.2.1, x.1.2.2.2.1, v1, ()), (()))) (fun y0 => k (.exit 0) ⟨[(5, (.dat (.int .i64) y0))], []⟩) (k .ret ⟨[(4, (.dat .bool false))], []⟩) x.1.2.1 x.1.2.2.2.2.1) (fun _ _ _ => rfl) (fun _ _ _ _ => rfl) (fun R x Kn k => by kernel_rfl)
theorem lm27 : ∀ c, Try.f27.body = some c → LmOk E27 C27 Try.f27.ntmps c := lmOk_of (ps := [(0, L27_1)]) (by kernel_rfl) (by kernel_rfl) ⟨ek27_1, trivial⟩
noncomputable def m27 (a0 : (List T36)) (a1 : (List Int)) : Option (Bool) :=
  (m33 a0).bind fun r1 =>
  bif ((!r1) || ((List.length a1 : Int) != (List.length a0 : Int))) then
    some false
  else
    l27_1 a0 a1 (List.length a1 : Int) (fun y4 =>
        some (decide (y4 ≤ 1000000000))) (
        some false) FUEL 0 0
noncomputable def e27 : PmE := entry 27 [(.sl G36), (.sl (.int .i64))] false .bool (fun x => m27 x.1 x.2.1)
theorem q27 (x : tyL [(.sl G36), (.sl (.int .i64))]) : execF E27 C27 Try.f27 (datL [(.sl G36), (.sl (.int .i64))] x) [] (retK false .bool) = m27 x.1 x.2.1 := by kernel_rfl
theorem p27 : PmOk Try.prog e27 := pm_ok (E := E27) ok27 ord lm27 Try.func27 ca27 q27

/-! 13: consol/entitle.Votes -/
theorem ca13 : callable Try.prog 13 := ⟨Try.f13, Try.func13, by kernel_rfl, by kernel_rfl⟩
noncomputable def E13 : Env := mkEnv2 Try.prog [e27] []
theorem ok13 : EnvOk E13 := mkEnv2_ok (by simp only [List.mem_cons, List.not_mem_nil, or_false, forall_eq]; exact p27) (by simp)
/-- a round of a loop of consol/entitle.Votes -/
noncomputable def s13_1 {R : Type} (t0 : (List T36)) (t2 : Int) (t24 : (List Int)) (t25 : Int) (kn : Int → (List T36) → Option R) (k1 : (List T36) → Option R) (t26 : Int) (o0 : (List T36)) : Option R :=
  bif (decide (t26 < t25)) then
    cont (fun (k4 : (List T36) → _) =>
      (idx t24 t26).bind fun x2 =>
      (idx t0 t26).bind fun x3 =>
      bif ((decide (x2 > 0)) && ((x3.2.1 == (-1)) || (x3.2.1 != t2))) then
        asrt true (decide (List.length (α := T36) o0 + List.length (α := T36) [(t26, x2, ())] ≤ LIM)) (
          k4 (o0 ++ [(t26, x2, ())]))
      else
        k4 o0) fun y4 =>
    kn (IntKind.i64.wrap (t26 + 1)) y4
  else
    k1 o0
noncomputable def l13_1 {R : Type} (t0 : (List T36)) (t2 : Int) (t24 : (List Int)) (t25 : Int) (k1 : (List T36) → Option R) : Nat → Int → (List T36) → Option R
  | 0, _, _ => none
  | n + 1, t26, o0 => s13_1 t0 t2 t24 t25 (l13_1 t0 t2 t24 t25 k1 n) k1 t26 o0
noncomputable def L13_1 : LE := ⟨6, 0, ⟨[(0, (.dat (.sl G36))), (2, (.dat (.int .i64))), (8, (.own 0)), (24, (.dat (.sl (.int .i64)))), (25, (.dat (.int .i64))), (26, (.dat (.int .i64)))], [(.arr G36)]⟩, fun R n x k => l13_1 x.1.1 x.1.2.1 x.1.2.2.2.1 x.1.2.2.2.2.1 (fun y0 => k (.exit 0) ⟨[(8, (.own 0))], [(.arr G36 y0)]⟩) n x.1.2.2.2.2.2.1 x.2.1⟩
noncomputable def C13 : Cfg := mkCfg [(6, ⟨[0, 2, 8, 24, 25, 26], [(8, [], G36)]⟩), (11, ⟨[0, 2, 8, 24, 25, 26], [(8, [], G36)]⟩)] [(6, (⟨[8], []⟩, ⟨[6, 7], []⟩))] (([(0, L13_1)] : List (Nat × LE)).map (·.2))
theorem ek13_1 : EOk E13 C13 Try.f13.ntmps (bodyL Try.f13 0) L13_1 := eok_of (e := L13_1) (fun R x Kn k => s13_1 x.1.1 x.1.2.1 x.1.2.2.2.1 x.1.2.2.2.2.1 (fun v0 v1 => Kn ((x.1.1, x.1.2.1, (), x.1.2.2.2.1, x.1.2.2.2.2.1, v0, ()), (v1, ()))) (fun y0 => k (.exit 0) ⟨[(8, (.own 0))], [(.arr G36 y0)]⟩) x.1.2.2.2.2.2.1 x.2.1) (fun _ _ _ => rfl) (fun _ _ _ _ => rfl) (fun R x Kn k => by kernel_rfl)
theorem lm13 : ∀ c, Try.f13.body = some c → LmOk E13 C13 Try.f13.ntmps c := lmOk_of (ps := [(0, L13_1)]) (by kernel_rfl) (by kernel_rfl) ⟨ek13_1, trivial⟩
noncomputable def m13 (a0 : (List T36)) (a1 : (List Int)) (a2 : Int) : Option (((List T36) × (Int × Unit))) :=
  (m27 a0 a1).bind fun r1 =>
  bif (((!r1) || (decide (a2 < (-1)))) || (decide (a2 ≥ 60))) then
    some ([], 1, ())
  else
    l13_1 a0 a2 a1 (List.length a1 : Int) (fun y5 =>
        some (y5, 0, ())) FUEL 0 []
noncomputable def e13 : PmE := entry 13 [(.sl G36), (.sl (.int .i64)), (.int .i64)] true (.cons (.sl G36) (.cons (.int .i64) .nil)) (fun x => m13 x.1 x.2.1 x.2.2.1)
theorem q13 (x : tyL [(.sl G36), (.sl (.int .i64)), (.int .i64)]) : execF E13 C13 Try.f13 (datL [(.sl G36), (.sl (.int .i64)), (.int .i64)] x) [] (retK true (.cons (.sl G36) (.cons (.int .i64) .nil))) = m13 x.1 x.2.1 x.2.2.1 := by kernel_rfl
theorem p13 : PmOk Try.prog e13 := pm_ok (E := E13) ok13 ord lm13 Try.func13 ca13 q13

noncomputable def cK13 : CmE := konE 13 [(.sl G36), (.sl (.int .i64)), (.int .i64)] true (.cons (.sl G36) (.cons (.int .i64) .nil)) (fun x => m13 x.1 x.2.1 x.2.2.1)
theorem dK13 : CmOk Try.prog cK13 := kon_ok p13

/-! 20: consol/consollaw33.share -/
theorem ca20 : callable Try.prog 20 := ⟨Try.f20, Try.func20, by kernel_rfl, by kernel_rfl⟩
noncomputable def E20 : Env := mkEnv2 Try.prog [] []
theorem ok20 : EnvOk E20 := mkEnv2_ok (by simp) (by simp)
noncomputable def C20 : Cfg := noCfg
theorem lm20 : ∀ c, Try.f20.body = some c → LmOk E20 C20 Try.f20.ntmps c := fun _ _ => noCfg_lm
noncomputable def m20 (a0 : Int) (a1 : Int) : Option (T36) :=
  some (a0, a1, ())
noncomputable def e20 : PmE := entry 20 [(.int .i64), (.int .i64)] false G36 (fun x => m20 x.1 x.2.1)
theorem q20 (x : tyL [(.int .i64), (.int .i64)]) : execF E20 C20 Try.f20 (datL [(.int .i64), (.int .i64)] x) [] (retK false G36) = m20 x.1 x.2.1 := by kernel_rfl
theorem p20 : PmOk Try.prog e20 := pm_ok (E := E20) ok20 ord lm20 Try.func20 ca20 q20

/-! 58: math/bits.Mul32 -/
theorem ca58 : callable Try.prog 58 := ⟨Try.f58, Try.func58, by kernel_rfl, by kernel_rfl⟩
noncomputable def E58 : Env := mkEnv2 Try.prog [] []
theorem ok58 : EnvOk E58 := mkEnv2_ok (by simp) (by simp)
noncomputable def C58 : Cfg := noCfg
theorem lm58 : ∀ c, Try.f58.body = some c → LmOk E58 C58 Try.f58.ntmps c := fun _ _ => noCfg_lm
noncomputable def m58 (a0 : Int) (a1 : Int) : Option ((Int × (Int × Unit))) :=
  some ((IntKind.u32.wrap (shr2 (IntKind.u64.wrap ((IntKind.u64.wrap a0) * (IntKind.u64.wrap a1))) 32)), (IntKind.u32.wrap (IntKind.u64.wrap ((IntKind.u64.wrap a0) * (IntKind.u64.wrap a1)))), ())
noncomputable def e58 : PmE := entry 58 [(.int .u32), (.int .u32)] true (.cons (.int .u32) (.cons (.int .u32) .nil)) (fun x => m58 x.1 x.2.1)
theorem q58 (x : tyL [(.int .u32), (.int .u32)]) : execF E58 C58 Try.f58 (datL [(.int .u32), (.int .u32)] x) [] (retK true (.cons (.int .u32) (.cons (.int .u32) .nil))) = m58 x.1 x.2.1 := by kernel_rfl
theorem p58 : PmOk Try.prog e58 := pm_ok (E := E58) ok58 ord lm58 Try.func58 ca58 q58

/-! 59: math/bits.Mul64 -/
theorem ca59 : callable Try.prog 59 := ⟨Try.f59, Try.func59, by kernel_rfl, by kernel_rfl⟩
noncomputable def E59 : Env := mkEnv2 Try.prog [] []
theorem ok59 : EnvOk E59 := mkEnv2_ok (by simp) (by simp)
noncomputable def C59 : Cfg := noCfg
theorem lm59 : ∀ c, Try.f59.body = some c → LmOk E59 C59 Try.f59.ntmps c := fun _ _ => noCfg_lm
noncomputable def m59 (a0 : Int) (a1 : Int) : Option ((Int × (Int × Unit))) :=
  some ((IntKind.u64.wrap ((IntKind.u64.wrap ((IntKind.u64.wrap ((shr2 a0 32) * (shr2 a1 32))) + (shr2 (IntKind.u64.wrap ((IntKind.u64.wrap ((shr2 a0 32) * (IntKind.u64.wrap ((BitVec.ofInt IntKind.u64.bits a1 &&& BitVec.ofInt IntKind.u64.bits 4294967295).toNat)))) + (shr2 (IntKind.u64.wrap ((IntKind.u64.wrap ((BitVec.ofInt IntKind.u64.bits a0 &&& BitVec.ofInt IntKind.u64.bits 4294967295).toNat)) * (IntKind.u64.wrap ((BitVec.ofInt IntKind.u64.bits a1 &&& BitVec.ofInt IntKind.u64.bits 4294967295).toNat)))) 32))) 32))) + (shr2 (IntKind.u64.wrap ((IntKind.u64.wrap ((BitVec.ofInt IntKind.u64.bits (IntKind.u64.wrap ((IntKind.u64.wrap ((shr2 a0 32) * (IntKind.u64.wrap ((BitVec.ofInt IntKind.u64.bits a1 &&& BitVec.ofInt IntKind.u64.bits 4294967295).toNat)))) + (shr2 (IntKind.u64.wrap ((IntKind.u64.wrap ((BitVec.ofInt IntKind.u64.bits a0 &&& BitVec.ofInt IntKind.u64.bits 4294967295).toNat)) * (IntKind.u64.wrap ((BitVec.ofInt IntKind.u64.bits a1 &&& BitVec.ofInt IntKind.u64.bits 4294967295).toNat)))) 32))) &&& BitVec.ofInt IntKind.u64.bits 4294967295).toNat)) + (IntKind.u64.wrap ((IntKind.u64.wrap ((BitVec.ofInt IntKind.u64.bits a0 &&& BitVec.ofInt IntKind.u64.bits 4294967295).toNat)) * (shr2 a1 32))))) 32))), (IntKind.u64.wrap (a0 * a1)), ())
noncomputable def e59 : PmE := entry 59 [(.int .u64), (.int .u64)] true (.cons (.int .u64) (.cons (.int .u64) .nil)) (fun x => m59 x.1 x.2.1)
theorem q59 (x : tyL [(.int .u64), (.int .u64)]) : execF E59 C59 Try.f59 (datL [(.int .u64), (.int .u64)] x) [] (retK true (.cons (.int .u64) (.cons (.int .u64) .nil))) = m59 x.1 x.2.1 := by kernel_rfl
theorem p59 : PmOk Try.prog e59 := pm_ok (E := E59) ok59 ord lm59 Try.func59 ca59 q59

/-! 57: math/bits.Mul -/
theorem ca57 : callable Try.prog 57 := ⟨Try.f57, Try.func57, by kernel_rfl, by kernel_rfl⟩
noncomputable def E57 : Env := mkEnv2 Try.prog [e59] []
theorem ok57 : EnvOk E57 := mkEnv2_ok (by simp only [List.mem_cons, List.not_mem_nil, or_false, forall_eq]; exact p59) (by simp)
noncomputable def C57 : Cfg := noCfg
theorem lm57 : ∀ c, Try.f57.body = some c → LmOk E57 C57 Try.f57.ntmps c := fun _ _ => noCfg_lm
noncomputable def m57 (a0 : Int) (a1 : Int) : Option ((Int × (Int × Unit))) :=
  (m59 a0 a1).bind fun r1 =>
  some (r1.1, r1.2.1, ())
noncomputable def e57 : PmE := entry 57 [(.int .u64), (.int .u64)] true (.cons (.int .u64) (.cons (.int .u64) .nil)) (fun x => m57 x.1 x.2.1)
theorem q57 (x : tyL [(.int .u64), (.int .u64)]) : execF E57 C57 Try.f57 (datL [(.int .u64), (.int .u64)] x) [] (retK true (.cons (.int .u64) (.cons (.int .u64) .nil))) = m57 x.1 x.2.1 := by kernel_rfl
theorem p57 : PmOk Try.prog e57 := pm_ok (E := E57) ok57 ord lm57 Try.func57 ca57 q57

/-! 53: slices.Repeat[[]bool,bool] -/
theorem ca53 : callable Try.prog 53 := ⟨Try.f53, Try.func53, by kernel_rfl, by kernel_rfl⟩
noncomputable def E53 : Env := mkEnv2 Try.prog [e57] [] [39, 42]
theorem ok53 : EnvOk E53 := mkEnv2_ok (by simp only [List.mem_cons, List.not_mem_nil, or_false, forall_eq]; exact p57) (by simp)
/-- a round of a loop of slices.Repeat[[]bool,bool] -/
noncomputable def s53_1 {R : Type} (kn : Int → (List Bool) → Option R) (k1 : (List Bool) → Option R) (t8 : Int) (o0 : (List Bool)) : Option R :=
  bif (decide (t8 < (List.length o0 : Int))) then
    asrt true (bounds true (List.length (α := Bool) o0) t8 ((List.length (α := Bool) o0) : Int)) (
      asrt true (bounds true (List.length (α := Bool) o0) 0 t8) (
        asrt true (decide (0 + (Int.toNat t8) ≤ (List.length (α := Bool) o0))) (
          asrt true (decide ((Int.toNat t8) + ((List.length (α := Bool) o0) - (Int.toNat t8)) ≤ (List.length (α := Bool) o0))) (
            kn (IntKind.i64.wrap (t8 + ((min (List.length (α := Bool) (List.take (Int.toNat t8) (List.drop (α := Bool) 0 o0))) ((List.length (α := Bool) o0) - (Int.toNat t8)) : Nat) : Int))) (patch (α := Bool) o0 (Int.toNat t8) ((List.length (α := Bool) o0) - (Int.toNat t8)) (List.take (Int.toNat t8) (List.drop (α := Bool) 0 o0)))))))
  else
    k1 o0
noncomputable def l53_1 {R : Type} (k1 : (List Bool) → Option R) : Nat → Int → (List Bool) → Option R
  | 0, _, _ => none
  | n + 1, t8, o0 => s53_1 (l53_1 k1 n) k1 t8 o0
noncomputable def L53_1 : LE := ⟨9, 0, ⟨[(7, (.own 0)), (8, (.dat (.int .i64)))], [(.arr .bool)]⟩, fun R n x k => l53_1 (fun y0 => k (.exit 0) ⟨[(7, (.own 0))], [(.arr .bool y0)]⟩) n x.1.2.1 x.2.1⟩
noncomputable def C53 : Cfg := mkCfg [(4, ⟨[0, 1], []⟩), (7, ⟨[0, 6], []⟩), (9, ⟨[7, 8], []⟩)] [(9, (⟨[7], []⟩, ⟨[4], []⟩))] (([(0, L53_1)] : List (Nat × LE)).map (·.2))
theorem ek53_1 : EOk E53 C53 Try.f53.ntmps (bodyL Try.f53 0) L53_1 := eok_of (e := L53_1) (fun R x Kn k => s53_1 (fun v0 v1 => Kn (((), v0, ()), (v1, ()))) (fun y0 => k (.exit 0) ⟨[(7, (.own 0))], [(.arr .bool y0)]⟩) x.1.2.1 x.2.1) (fun _ _ _ => rfl) (fun _ _ _ _ => rfl) (fun R x Kn k => by kernel_rfl)
theorem lm53 : ∀ c, Try.f53.body = some c → LmOk E53 C53 Try.f53.ntmps c := lmOk_of (ps := [(0, L53_1)]) (by kernel_rfl) (by kernel_rfl) ⟨ek53_1, trivial⟩
noncomputable def m53 (a0 : (List Bool)) (a1 : Int) : Option ((List Bool)) :=
  bif (decide (a1 < 0)) then
    none
  else
    (m57 (IntKind.u64.wrap (List.length a0 : Int)) (IntKind.u64.wrap a1)).bind fun r1 =>
    bif ((decide (r1.1 > 0)) || (decide (r1.2.1 > 9223372036854775807))) then
      none
    else
      asrt true (decide (0 ≤ (IntKind.i64.wrap r1.2.1)) && decide ((IntKind.i64.wrap r1.2.1) ≤ (IntKind.i64.wrap r1.2.1)) && decide ((IntKind.i64.wrap r1.2.1) ≤ (LIM : Int))) (
        l53_1 (fun y2 =>
            some y2) FUEL ((min (List.length (α := Bool) a0) (List.length (α := Bool) (List.replicate ((IntKind.i64.wrap r1.2.1) : Int).toNat false)) : Nat) : Int) (patch (α := Bool) (List.replicate ((IntKind.i64.wrap r1.2.1) : Int).toNat false) 0 (List.length (α := Bool) (List.replicate ((IntKind.i64.wrap r1.2.1) : Int).toNat false)) a0))
noncomputable def e53 : PmE := entry 53 [(.sl .bool), (.int .i64)] false (.sl .bool) (fun x => m53 x.1 x.2.1)
theorem q53 (x : tyL [(.sl .bool), (.int .i64)]) : execF E53 C53 Try.f53 (datL [(.sl .bool), (.int .i64)] x) [] (retK false (.sl .bool)) = m53 x.1 x.2.1 := by kernel_rfl
theorem p53 : PmOk Try.prog e53 := pm_ok (E := E53) ok53 ord lm53 Try.func53 ca53 q53

noncomputable def cK53 : CmE := konE 53 [(.sl .bool), (.int .i64)] false (.sl .bool) (fun x => m53 x.1 x.2.1)
theorem dK53 : CmOk Try.prog cK53 := kon_ok p53

/-! 39: consol/trade.leaves -/
noncomputable def E39i53 : Env := mkEnv2 Try.prog [e57] [] [39, 42]
theorem ok39i53 : EnvOk E39i53 := mkEnv2_ok (by simp only [List.mem_cons, List.not_mem_nil, or_false, forall_eq]; exact p57) (by simp)
/-- a round of a loop of slices.Repeat[[]bool,bool] -/
noncomputable def s39_1 {R : Type} (kn : Int → (List Bool) → Option R) (k1 : (List Bool) → Option R) (t8 : Int) (o1 : (List Bool)) : Option R :=
  bif (decide (t8 < (List.length o1 : Int))) then
    asrt true (bounds true (List.length (α := Bool) o1) t8 ((List.length (α := Bool) o1) : Int)) (
      asrt true (bounds true (List.length (α := Bool) o1) 0 t8) (
        asrt true (decide (0 + (Int.toNat t8) ≤ (List.length (α := Bool) o1))) (
          asrt true (decide ((Int.toNat t8) + ((List.length (α := Bool) o1) - (Int.toNat t8)) ≤ (List.length (α := Bool) o1))) (
            kn (IntKind.i64.wrap (t8 + ((min (List.length (α := Bool) (List.take (Int.toNat t8) (List.drop (α := Bool) 0 o1))) ((List.length (α := Bool) o1) - (Int.toNat t8)) : Nat) : Int))) (patch (α := Bool) o1 (Int.toNat t8) ((List.length (α := Bool) o1) - (Int.toNat t8)) (List.take (Int.toNat t8) (List.drop (α := Bool) 0 o1)))))))
  else
    k1 o1
noncomputable def l39_1 {R : Type} (k1 : (List Bool) → Option R) : Nat → Int → (List Bool) → Option R
  | 0, _, _ => none
  | n + 1, t8, o1 => s39_1 (l39_1 k1 n) k1 t8 o1
noncomputable def L39_1 : LE := ⟨9, 1, ⟨[(7, (.own 1)), (8, (.dat (.int .i64)))], [(.arr .bool), (.arr .bool)]⟩, fun R n x k => l39_1 (fun y0 => k (.exit 0) ⟨[(7, (.own 1))], [(.arr .bool x.2.1), (.arr .bool y0)]⟩) n x.1.2.1 x.2.2.1⟩
noncomputable def C39i53 : Cfg := mkCfg [(4, ⟨[0, 1], []⟩), (7, ⟨[0, 6], []⟩), (9, ⟨[7, 8], []⟩)] [(9, (⟨[7], []⟩, ⟨[4], []⟩))] (([(0, L39_1)] : List (Nat × LE)).map (·.2))
theorem ek39_1 : EOk E39i53 C39i53 Try.f53.ntmps (bodyL Try.f53 0) L39_1 := eok_of (e := L39_1) (fun R x Kn k => s39_1 (fun v0 v1 => Kn (((), v0, ()), (x.2.1, v1, ()))) (fun y0 => k (.exit 0) ⟨[(7, (.own 1))], [(.arr .bool x.2.1), (.arr .bool y0)]⟩) x.1.2.1 x.2.2.1) (fun _ _ _ => rfl) (fun _ _ _ _ => rfl) (fun R x Kn k => by kernel_rfl)
theorem lm39i53 : ∀ c, Try.f53.body = some c → LmOk E39i53 C39i53 Try.f53.ntmps c := lmOk_of (ps := [(0, L39_1)]) (by kernel_rfl) (by kernel_rfl) ⟨ek39_1, trivial⟩
noncomputable def c39i53 : CmE := inl E39i53 C39i53 53 Try.f53
theorem d39i53 : CmOk Try.prog c39i53 := inl_ok (E := E39i53) ok39i53 ord lm39i53 Try.func53 ca53

theorem ca39 : callable Try.prog 39 := ⟨Try.f39, Try.func39, by kernel_rfl, by kernel_rfl⟩
noncomputable def E39 : Env := mkEnv2 Try.prog [] [c39i53]
theorem ok39 : EnvOk E39 := mkEnv2_ok (by simp) (by simp only [List.mem_cons, List.not_mem_nil, or_false, forall_eq]; exact d39i53)
/-- a round of a loop of consol/trade.leaves -/
noncomputable def s39_2 {R : Type} (t10 : (List T36)) (t11 : Int) (kn : Int → (List Bool) → Option R) (k1 : (List Bool) → Option R) (t12 : Int) (o0 : (List Bool)) : Option R :=
  bif (decide (t12 < t11)) then
    cont (fun (k5 : (List Bool) → _) =>
      (idx t10 t12).bind fun x3 =>
      bif (decide (x3.1 ≥ 0)) then
        asrt true (decide (0 ≤ x3.1) && decide (x3.1 < (List.length o0 : Int))) (
          ((o0)[(x3.1 : Int).toNat]?).bind fun x4 =>
          k5 (List.set o0 (x3.1 : Int).toNat false))
      else
        k5 o0) fun y5 =>
    kn (IntKind.i64.wrap (t12 + 1)) y5
  else
    k1 o0
noncomputable def l39_2 {R : Type} (t10 : (List T36)) (t11 : Int) (k1 : (List Bool) → Option R) : Nat → Int → (List Bool) → Option R
  | 0, _, _ => none
  | n + 1, t12, o0 => s39_2 t10 t11 (l39_2 t10 t11 k1 n) k1 t12 o0
noncomputable def L39_2 : LE := ⟨4, 0, ⟨[(3, (.own 0)), (10, (.dat (.sl G36))), (11, (.dat (.int .i64))), (12, (.dat (.int .i64)))], [(.arr .bool)]⟩, fun R n x k => l39_2 x.1.2.1 x.1.2.2.1 (fun y0 => k (.exit 0) ⟨[(3, (.own 0))], [(.arr .bool y0)]⟩) n x.1.2.2.2.1 x.2.1⟩
noncomputable def C39 : Cfg := mkCfg [(4, ⟨[3, 10, 11, 12], []⟩), (8, ⟨[3, 10, 11, 12], []⟩)] [(4, (⟨[3], []⟩, ⟨[2], []⟩))] (([(0, L39_2)] : List (Nat × LE)).map (·.2))
theorem ek39_2 : EOk E39 C39 Try.f39.ntmps (bodyL Try.f39 0) L39_2 := eok_of (e := L39_2) (fun R x Kn k => s39_2 x.1.2.1 x.1.2.2.1 (fun v0 v1 => Kn (((), x.1.2.1, x.1.2.2.1, v0, ()), (v1, ()))) (fun y0 => k (.exit 0) ⟨[(3, (.own 0))], [(.arr .bool y0)]⟩) x.1.2.2.2.1 x.2.1) (fun _ _ _ => rfl) (fun _ _ _ _ => rfl) (fun R x Kn k => by kernel_rfl)
theorem lm39 : ∀ c, Try.f39.body = some c → LmOk E39 C39 Try.f39.ntmps c := lmOk_of (ps := [(0, L39_2)]) (by kernel_rfl) (by kernel_rfl) ⟨ek39_2, trivial⟩
noncomputable def m39 (a0 : (List T36)) : Option ((List Bool)) :=
  bif (decide ((List.length a0 : Int) < 0)) then
    none
  else
    (m57 (IntKind.u64.wrap (List.length [true] : Int)) (IntKind.u64.wrap (List.length a0 : Int))).bind fun r1 =>
    bif ((decide (r1.1 > 0)) || (decide (r1.2.1 > 9223372036854775807))) then
      none
    else
      asrt true (decide (0 ≤ (IntKind.i64.wrap r1.2.1)) && decide ((IntKind.i64.wrap r1.2.1) ≤ (IntKind.i64.wrap r1.2.1)) && decide ((IntKind.i64.wrap r1.2.1) ≤ (LIM : Int))) (
        l39_1 (fun y2 =>
            l39_2 a0 (List.length a0 : Int) (fun y6 =>
                some y6) FUEL 0 y2) FUEL ((min (List.length (α := Bool) [true]) (List.length (α := Bool) (List.replicate ((IntKind.i64.wrap r1.2.1) : Int).toNat false)) : Nat) : Int) (patch (α := Bool) (List.replicate ((IntKind.i64.wrap r1.2.1) : Int).toNat false) 0 (List.length (α := Bool) (List.replicate ((IntKind.i64.wrap r1.2.1) : Int).toNat false)) [true]))
noncomputable def e39 : PmE := entry 39 [(.sl G36)] false (.sl .bool) (fun x => m39 x.1)
theorem q39 (x : tyL [(.sl G36)]) : execF E39 C39 Try.f39 (datL [(.sl G36)] x) [] (retK false (.sl .bool)) = m39 x.1 := by kernel_rfl
theorem p39 : PmOk Try.prog e39 := pm_ok (E := E39) ok39 ord lm39 Try.func39 ca39 q39

noncomputable def cK39 : CmE := konE 39 [(.sl G36)] false (.sl .bool) (fun x => m39 x.1)
theorem dK39 : CmOk Try.prog cK39 := kon_ok p39

/-! 42: consol/trade.day -/
theorem ca42 : callable Try.prog 42 := ⟨Try.f42, Try.func42, by kernel_rfl, by kernel_rfl⟩
noncomputable def E42 : Env := mkEnv2 Try.prog [] []
theorem ok42 : EnvOk E42 := mkEnv2_ok (by simp) (by simp)
noncomputable def C42 : Cfg := noCfg
theorem lm42 : ∀ c, Try.f42.body = some c → LmOk E42 C42 Try.f42.ntmps c := fun _ _ => noCfg_lm
noncomputable def m42 (a0 : Int) : Option (Bool) :=
  some ((decide (a0 ≥ 0)) && (decide (a0 ≤ 200000)))
noncomputable def e42 : PmE := entry 42 [(.int .i64)] false .bool (fun x => m42 x.1)
theorem q42 (x : tyL [(.int .i64)]) : execF E42 C42 Try.f42 (datL [(.int .i64)] x) [] (retK false .bool) = m42 x.1 := by kernel_rfl
theorem p42 : PmOk Try.prog e42 := pm_ok (E := E42) ok42 ord lm42 Try.func42 ca42 q42

/-! 38: consol/trade.one -/
theorem ca52 : callable Try.prog 52 := ⟨Try.f52, Try.func52, by kernel_rfl, by kernel_rfl⟩
noncomputable def E38i52 : Env := mkEnv2 Try.prog [] []
theorem ok38i52 : EnvOk E38i52 := mkEnv2_ok (by simp) (by simp)
noncomputable def C38i52 : Cfg := noCfg
theorem lm38i52 : ∀ c, Try.f52.body = some c → LmOk E38i52 C38i52 Try.f52.ntmps c := fun _ _ => noCfg_lm
noncomputable def c38i52 : CmE := inl E38i52 C38i52 52 Try.f52
theorem d38i52 : CmOk Try.prog c38i52 := inl_ok (E := E38i52) ok38i52 ord lm38i52 Try.func52 ca52

theorem ca38 : callable Try.prog 38 := ⟨Try.f38, Try.func38, by kernel_rfl, by kernel_rfl⟩
noncomputable def E38 : Env := mkEnv2 Try.prog [e42] [c38i52]
theorem ok38 : EnvOk E38 := mkEnv2_ok (by simp only [List.mem_cons, List.not_mem_nil, or_false, forall_eq]; exact p42) (by simp only [List.mem_cons, List.not_mem_nil, or_false, forall_eq]; exact d38i52)
noncomputable def C38 : Cfg := noCfg
theorem lm38 : ∀ c, Try.f38.body = some c → LmOk E38 C38 Try.f38.ntmps c := fun _ _ => noCfg_lm
noncomputable def m38 (a0 : (List Bool)) (a1 : T45) : Option (Bool) :=
  (idxG (((decide (a1.2.1 ≥ 0)) && (decide (a1.2.1 < (List.length a0 : Int)))) == true) false a0 a1.2.1).bind fun x1 =>
  bif ((!(((decide (a1.2.1 ≥ 0)) && (decide (a1.2.1 < (List.length a0 : Int)))) && x1)) == false) then
    (idxG (((decide (a1.2.2.1 ≥ 0)) && (decide (a1.2.2.1 < (List.length a0 : Int)))) == true) false a0 a1.2.2.1).bind fun x2 =>
    bif (((((!(((decide (a1.2.1 ≥ 0)) && (decide (a1.2.1 < (List.length a0 : Int)))) && x1)) || (!(((decide (a1.2.2.1 ≥ 0)) && (decide (a1.2.2.1 < (List.length a0 : Int)))) && x2))) || (a1.2.1 == a1.2.2.1)) || (decide (a1.2.2.2.1 < 1))) || (decide (a1.2.2.2.1 > 1000000000))) then
      some false
    else
      (m42 a1.2.2.2.2.1).bind fun r3 =>
      (bif ((!r3) == false) then (m42 a1.2.2.2.2.2.1) else some false).bind fun r4 =>
      (bif (((((!r3) || (!r4)) || (decide (a1.2.2.2.2.1 > a1.2.2.2.2.2.1))) == false) && ((a1.2.2.2.2.2.2.1 != (-1)) == true)) then (m42 a1.2.2.2.2.2.2.1) else some false).bind fun r5 =>
      bif ((((!r3) || (!r4)) || (decide (a1.2.2.2.2.1 > a1.2.2.2.2.2.1))) || ((a1.2.2.2.2.2.2.1 != (-1)) && ((!r5) || (decide (a1.2.2.2.2.2.2.1 < a1.2.2.2.2.2.1))))) then
        some false
      else
        bif (a1.1 == 0) then
          some (a1.2.2.2.2.2.2.2.1 == 0)
        else
          bif (a1.1 == 1) then
            (m42 a1.2.2.2.2.2.2.2.1).bind fun r6 =>
            some (r6 && (decide (a1.2.2.2.2.2.2.2.1 > a1.2.2.2.2.2.1)))
          else
            some false
  else
    bif (((((!(((decide (a1.2.1 ≥ 0)) && (decide (a1.2.1 < (List.length a0 : Int)))) && x1)) || true) || (a1.2.1 == a1.2.2.1)) || (decide (a1.2.2.2.1 < 1))) || (decide (a1.2.2.2.1 > 1000000000))) then
      some false
    else
      (m42 a1.2.2.2.2.1).bind fun r7 =>
      (bif ((!r7) == false) then (m42 a1.2.2.2.2.2.1) else some false).bind fun r8 =>
      (bif (((((!r7) || (!r8)) || (decide (a1.2.2.2.2.1 > a1.2.2.2.2.2.1))) == false) && ((a1.2.2.2.2.2.2.1 != (-1)) == true)) then (m42 a1.2.2.2.2.2.2.1) else some false).bind fun r9 =>
      bif ((((!r7) || (!r8)) || (decide (a1.2.2.2.2.1 > a1.2.2.2.2.2.1))) || ((a1.2.2.2.2.2.2.1 != (-1)) && ((!r9) || (decide (a1.2.2.2.2.2.2.1 < a1.2.2.2.2.2.1))))) then
        some false
      else
        bif (a1.1 == 0) then
          some (a1.2.2.2.2.2.2.2.1 == 0)
        else
          bif (a1.1 == 1) then
            (m42 a1.2.2.2.2.2.2.2.1).bind fun r10 =>
            some (r10 && (decide (a1.2.2.2.2.2.2.2.1 > a1.2.2.2.2.2.1)))
          else
            some false
noncomputable def e38 : PmE := entry 38 [(.sl .bool), G45] false .bool (fun x => m38 x.1 x.2.1)
theorem q38 (x : tyL [(.sl .bool), G45]) : execF E38 C38 Try.f38 (datL [(.sl .bool), G45] x) [] (retK false .bool) = m38 x.1 x.2.1 := by kernel_rfl
theorem p38 : PmOk Try.prog e38 := pm_ok (E := E38) ok38 ord lm38 Try.func38 ca38 q38

/-! 28: consol/trade.Right -/
theorem ca45 : callable Try.prog 45 := ⟨Try.f45, Try.func45, by kernel_rfl, by kernel_rfl⟩
noncomputable def E28i45 : Env := mkEnv2 Try.prog [e38] []
theorem ok28i45 : EnvOk E28i45 := mkEnv2_ok (by simp only [List.mem_cons, List.not_mem_nil, or_false, forall_eq]; exact p38) (by simp)
noncomputable def C28i45 : Cfg := noCfg
theorem lm28i45 : ∀ c, Try.f45.body = some c → LmOk E28i45 C28i45 Try.f45.ntmps c := fun _ _ => noCfg_lm
noncomputable def c28i45 : CmE := inl E28i45 C28i45 45 Try.f45
theorem d28i45 : CmOk Try.prog c28i45 := inl_ok (E := E28i45) ok28i45 ord lm28i45 Try.func45 ca45

theorem ca54 : callable Try.prog 54 := ⟨Try.f54, Try.func54, by kernel_rfl, by kernel_rfl⟩
noncomputable def E28i54 : Env := mkEnv2 Try.prog [] [c28i45]
theorem ok28i54 : EnvOk E28i54 := mkEnv2_ok (by simp) (by simp only [List.mem_cons, List.not_mem_nil, or_false, forall_eq]; exact d28i45)
/-- a round of a loop of slices.IndexFunc[[]consol/api.Trade,consol/api.Trade] -/
noncomputable def s28_1 {R : Type} (t0 : (List T45)) (t7 : Int) (o0 : (List Bool)) (kn : Int → Option R) (k1 : Option R) (k2 : Int → Option R) (t8 : Int) : Option R :=
  bif (decide (t8 < t7)) then
    (idx t0 t8).bind fun x3 =>
    (m38 o0 x3).bind fun r4 =>
    bif (!r4) then
      k2 t8
    else
      kn (IntKind.i64.wrap (t8 + 1))
  else
    k1
noncomputable def l28_1 {R : Type} (t0 : (List T45)) (t7 : Int) (o0 : (List Bool)) (k1 : Option R) (k2 : Int → Option R) : Nat → Int → Option R
  | 0, _ => none
  | n + 1, t8 => s28_1 t0 t7 o0 (l28_1 t0 t7 o0 k1 k2 n) k1 k2 t8
noncomputable def L28_1 : LE := ⟨3, 1, ⟨[(0, (.dat (.sl G45))), (1, (.fn 45 (.scons (.box 0 [] 0) .snil))), (7, (.dat (.int .i64))), (8, (.dat (.int .i64)))], [(.box (.dat (.sl .bool)))]⟩, fun R n x k => l28_1 x.1.1 x.1.2.2.1 x.2.1 (k (.exit 0) ⟨[], [(.box (.dat (.sl .bool) x.2.1))]⟩) (fun y0 => k .ret ⟨[(4, (.dat (.int .i64) y0))], [(.box (.dat (.sl .bool) x.2.1))]⟩) n x.1.2.2.2.1⟩
noncomputable def C28i54 : Cfg := mkCfg [(3, ⟨[0, 1, 7, 8], []⟩)] [(3, (⟨[], []⟩, ⟨[4], []⟩))] (([(0, L28_1)] : List (Nat × LE)).map (·.2))
theorem ek28_1 : EOk E28i54 C28i54 Try.f54.ntmps (bodyL Try.f54 0) L28_1 := eok_of (e := L28_1) (fun R x Kn k => s28_1 x.1.1 x.1.2.2.1 x.2.1 (fun v0 => Kn ((x.1.1, ((), ()), x.1.2.2.1, v0, ()), (x.2.1, ()))) (k (.exit 0) ⟨[], [(.box (.dat (.sl .bool) x.2.1))]⟩) (fun y0 => k .ret ⟨[(4, (.dat (.int .i64) y0))], [(.box (.dat (.sl .bool) x.2.1))]⟩) x.1.2.2.2.1) (fun _ _ _ => rfl) (fun _ _ _ _ => rfl) (fun R x Kn k => by kernel_rfl)
theorem lm28i54 : ∀ c, Try.f54.body = some c → LmOk E28i54 C28i54 Try.f54.ntmps c := lmOk_of (ps := [(0, L28_1)]) (by kernel_rfl) (by kernel_rfl) ⟨ek28_1, trivial⟩
noncomputable def c28i54 : CmE := inl E28i54 C28i54 54 Try.f54
theorem d28i54 : CmOk Try.prog c28i54 := inl_ok (E := E28i54) ok28i54 ord lm28i54 Try.func54 ca54

theorem ca44 : callable Try.prog 44 := ⟨Try.f44, Try.func44, by kernel_rfl, by kernel_rfl⟩
noncomputable def E28i44 : Env := mkEnv2 Try.prog [] [c28i54]
theorem ok28i44 : EnvOk E28i44 := mkEnv2_ok (by simp) (by simp only [List.mem_cons, List.not_mem_nil, or_false, forall_eq]; exact d28i54)
noncomputable def C28i44 : Cfg := noCfg
theorem lm28i44 : ∀ c, Try.f44.body = some c → LmOk E28i44 C28i44 Try.f44.ntmps c := fun _ _ => noCfg_lm
noncomputable def c28i44 : CmE := inl E28i44 C28i44 44 Try.f44
theorem d28i44 : CmOk Try.prog c28i44 := inl_ok (E := E28i44) ok28i44 ord lm28i44 Try.func44 ca44

theorem ca28 : callable Try.prog 28 := ⟨Try.f28, Try.func28, by kernel_rfl, by kernel_rfl⟩
noncomputable def E28 : Env := mkEnv2 Try.prog [e33, e39] [c28i44]
theorem ok28 : EnvOk E28 := mkEnv2_ok (by simp only [List.mem_cons, List.not_mem_nil, or_false, forall_eq_or_imp, forall_eq]; exact ⟨p33, p39⟩) (by simp only [List.mem_cons, List.not_mem_nil, or_false, forall_eq]; exact d28i44)
noncomputable def C28 : Cfg := noCfg
theorem lm28 : ∀ c, Try.f28.body = some c → LmOk E28 C28 Try.f28.ntmps c := fun _ _ => noCfg_lm
noncomputable def m28 (a0 : (List T36)) (a1 : (List T45)) : Option (Bool) :=
  (m33 a0).bind fun r1 =>
  bif ((!r1) || (decide ((List.length a1 : Int) > 10000))) then
    some false
  else
    (m39 a0).bind fun r2 =>
    l28_1 a1 (List.length a1 : Int) r2 (
        some (!(decide ((-1) ≥ 0)))) (fun y5 =>
        some (!(decide (y5 ≥ 0)))) FUEL 0
noncomputable def e28 : PmE := entry 28 [(.sl G36), (.sl G45)] false .bool (fun x => m28 x.1 x.2.1)
theorem q28 (x : tyL [(.sl G36), (.sl G45)]) : execF E28 C28 Try.f28 (datL [(.sl G36), (.sl G45)] x) [] (retK false .bool) = m28 x.1 x.2.1 := by kernel_rfl
theorem p28 : PmOk Try.prog e28 := pm_ok (E := E28) ok28 ord lm28 Try.func28 ca28 q28

theorem ca29 : callable Try.prog 29 := ⟨Try.f29, Try.func29, by kernel_rfl, by kernel_rfl⟩
/-! 29: slices.Clone[[]int,int] -/
noncomputable def c29 : CmE := ownE 29 [(.sl (.int .i64))] (.int .i64) (fun x => cloneM x.1)
theorem d29 : CmOk Try.prog c29 := own_ok ca29 (clone_run (g := (.int .i64)) ord Try.func29 Try.underlying23 rfl (by kernel_rfl) (fun _ => by kernel_rfl) (by kernel_rfl) (fun _ => by kernel_rfl))

/-! 30: consol/entitle.passed -/
theorem ca30 : callable Try.prog 30 := ⟨Try.f30, Try.func30, by kernel_rfl, by kernel_rfl⟩
noncomputable def E30 : Env := mkEnv2 Try.prog [] []
theorem ok30 : EnvOk E30 := mkEnv2_ok (by simp) (by simp)
noncomputable def C30 : Cfg := noCfg
theorem lm30 : ∀ c, Try.f30.body = some c → LmOk E30 C30 Try.f30.ntmps c := fun _ _ => noCfg_lm
noncomputable def m30 (a0 : T45) (a1 : Int) : Option (Int) :=
  bif (((a0.1 == 0) && (decide (a0.2.2.2.2.2.1 ≤ a1))) && (!((decide (a0.2.2.2.2.2.2.1 ≥ 0)) && (decide (a0.2.2.2.2.2.2.1 ≤ a1))))) then
    some (IntKind.i64.wrap (0 - a0.2.2.2.1))
  else
    bif (((a0.1 == 1) && ((decide (a0.2.2.2.2.2.2.1 ≥ 0)) && (decide (a0.2.2.2.2.2.2.1 ≤ a1)))) && (decide (a0.2.2.2.2.2.2.2.1 > a1))) then
      some a0.2.2.2.1
    else
      some 0
noncomputable def e30 : PmE := entry 30 [G45, (.int .i64)] false (.int .i64) (fun x => m30 x.1 x.2.1)
theorem q30 (x : tyL [G45, (.int .i64)]) : execF E30 C30 Try.f30 (datL [G45, (.int .i64)] x) [] (retK false (.int .i64)) = m30 x.1 x.2.1 := by kernel_rfl
theorem p30 : PmOk Try.prog e30 := pm_ok (E := E30) ok30 ord lm30 Try.func30 ca30 q30

/-! 11: consol/entitle.Paid -/
theorem ca11 : callable Try.prog 11 := ⟨Try.f11, Try.func11, by kernel_rfl, by kernel_rfl⟩
noncomputable def E11 : Env := mkEnv2 Try.prog [e27, e28, e30] [c29]
theorem ok11 : EnvOk E11 := mkEnv2_ok (by simp only [List.mem_cons, List.not_mem_nil, or_false, forall_eq_or_imp, forall_eq]; exact ⟨p27, p28, p30⟩) (by simp only [List.mem_cons, List.not_mem_nil, or_false, forall_eq]; exact d29)
/-- a round of a loop of consol/entitle.Paid -/
noncomputable def s11_1 {R : Type} (t3 : Int) (t37 : (List T45)) (t38 : Int) (kn : Int → (List Int) → Option R) (k1 : (List Int) → Option R) (t39 : Int) (o0 : (List Int)) : Option R :=
  bif (decide (t39 < t38)) then
    (idx t37 t39).bind fun x4 =>
    (m30 x4 t3).bind fun r5 =>
    asrt true (decide (0 ≤ x4.2.1) && decide (x4.2.1 < (List.length o0 : Int))) (
      ((o0)[(x4.2.1 : Int).toNat]?).bind fun x6 =>
      asrt true (decide (0 ≤ x4.2.1) && decide (x4.2.1 < (List.length o0 : Int))) (
        ((o0)[(x4.2.1 : Int).toNat]?).bind fun x7 =>
        asrt true (decide (0 ≤ x4.2.2.1) && decide (x4.2.2.1 < (List.length (List.set o0 (x4.2.1 : Int).toNat (IntKind.i64.wrap (x6 + r5))) : Int))) (
          (((List.set o0 (x4.2.1 : Int).toNat (IntKind.i64.wrap (x6 + r5))))[(x4.2.2.1 : Int).toNat]?).bind fun x8 =>
          asrt true (decide (0 ≤ x4.2.2.1) && decide (x4.2.2.1 < (List.length (List.set o0 (x4.2.1 : Int).toNat (IntKind.i64.wrap (x6 + r5))) : Int))) (
            (((List.set o0 (x4.2.1 : Int).toNat (IntKind.i64.wrap (x6 + r5))))[(x4.2.2.1 : Int).toNat]?).bind fun x9 =>
            kn (IntKind.i64.wrap (t39 + 1)) (List.set (List.set o0 (x4.2.1 : Int).toNat (IntKind.i64.wrap (x6 + r5))) (x4.2.2.1 : Int).toNat (IntKind.i64.wrap (x8 - r5)))))))
  else
    k1 o0
noncomputable def l11_1 {R : Type} (t3 : Int) (t37 : (List T45)) (t38 : Int) (k1 : (List Int) → Option R) : Nat → Int → (List Int) → Option R
  | 0, _, _ => none
  | n + 1, t39, o0 => s11_1 t3 t37 t38 (l11_1 t3 t37 t38 k1 n) k1 t39 o0
noncomputable def L11_1 : LE := ⟨6, 0, ⟨[(3, (.dat (.int .i64))), (10, (.own 0)), (37, (.dat (.sl G45))), (38, (.dat (.int .i64))), (39, (.dat (.int .i64)))], [(.arr (.int .i64))]⟩, fun R n x k => l11_1 x.1.1 x.1.2.2.1 x.1.2.2.2.1 (fun y0 => k (.exit 0) ⟨[(10, (.own 0))], [(.arr (.int .i64) y0)]⟩) n x.1.2.2.2.2.1 x.2.1⟩
/-- a round of a loop of consol/entitle.Paid -/
noncomputable def s11_2 {R : Type} (t64 : Int) (o1 : (List Int)) (kn : Int → (List T36) → Option R) (k1 : (List T36) → Option R) (t65 : Int) (o0 : (List T36)) : Option R :=
  bif (decide (t65 < t64)) then
    cont (fun (k12 : (List T36) → _) =>
      asrt true (decide (0 ≤ t65) && decide (t65 < (List.length o1 : Int))) (
        ((o1)[(t65 : Int).toNat]?).bind fun x11 =>
        bif (x11 != 0) then
          asrt true (decide (List.length (α := T36) o0 + List.length (α := T36) [(t65, x11, ())] ≤ LIM)) (
            k12 (o0 ++ [(t65, x11, ())]))
        else
          k12 o0)) fun y12 =>
    kn (IntKind.i64.wrap (t65 + 1)) y12
  else
    k1 o0
noncomputable def l11_2 {R : Type} (t64 : Int) (o1 : (List Int)) (k1 : (List T36) → Option R) : Nat → Int → (List T36) → Option R
  | 0, _, _ => none
  | n + 1, t65, o0 => s11_2 t64 o1 (l11_2 t64 o1 k1 n) k1 t65 o0
noncomputable def L11_2 : LE := ⟨14, 0, ⟨[(14, (.own 0)), (63, (.own 1)), (64, (.dat (.int .i64))), (65, (.dat (.int .i64)))], [(.arr G36), (.arr (.int .i64))]⟩, fun R n x k => l11_2 x.1.2.2.1 x.2.2.1 (fun y0 => k (.exit 2) ⟨[(14, (.own 0))], [(.arr G36 y0)]⟩) n x.1.2.2.2.1 x.2.1⟩
noncomputable def C11 : Cfg := mkCfg [(6, ⟨[3, 10, 37, 38, 39], []⟩), (14, ⟨[14, 63, 64, 65], [(14, [], G36)]⟩), (18, ⟨[14, 63, 64, 65], [(14, [], G36)]⟩)] [(6, (⟨[10], []⟩, ⟨[8, 9], []⟩)), (14, (⟨[14], []⟩, ⟨[8, 9], []⟩))] (([(0, L11_1), (1, L11_2)] : List (Nat × LE)).map (·.2))
theorem ek11_1 : EOk E11 C11 Try.f11.ntmps (bodyL Try.f11 0) L11_1 := eok_of (e := L11_1) (fun R x Kn k => s11_1 x.1.1 x.1.2.2.1 x.1.2.2.2.1 (fun v0 v1 => Kn ((x.1.1, (), x.1.2.2.1, x.1.2.2.2.1, v0, ()), (v1, ()))) (fun y0 => k (.exit 0) ⟨[(10, (.own 0))], [(.arr (.int .i64) y0)]⟩) x.1.2.2.2.2.1 x.2.1) (fun _ _ _ => rfl) (fun _ _ _ _ => rfl) (fun R x Kn k => by kernel_rfl)
theorem ek11_2 : EOk E11 C11 Try.f11.ntmps (bodyL Try.f11 1) L11_2 := eok_of (e := L11_2) (fun R x Kn k => s11_2 x.1.2.2.1 x.2.2.1 (fun v0 v1 => Kn (((), (), x.1.2.2.1, v0, ()), (v1, x.2.2.1, ()))) (fun y0 => k (.exit 2) ⟨[(14, (.own 0))], [(.arr G36 y0)]⟩) x.1.2.2.2.1 x.2.1) (fun _ _ _ => rfl) (fun _ _ _ _ => rfl) (fun R x Kn k => by kernel_rfl)
theorem lm11 : ∀ c, Try.f11.body = some c → LmOk E11 C11 Try.f11.ntmps c := lmOk_of (ps := [(0, L11_1), (1, L11_2)]) (by kernel_rfl) (by kernel_rfl) ⟨ek11_1, ek11_2, trivial⟩
noncomputable def m11 (a0 : (List T36)) (a1 : (List Int)) (a2 : (List T45)) (a3 : Int) : Option (((List T36) × (Int × Unit))) :=
  (m27 a0 a1).bind fun r1 =>
  (bif ((!r1) == false) then (m28 a0 a2) else some false).bind fun r2 =>
  bif ((((!r1) || (!r2)) || (decide (a3 < 0))) || (decide (a3 > 200000))) then
    some ([], 1, ())
  else
    (cloneM a1).bind fun r3 =>
    l11_1 a3 a2 (List.length a2 : Int) (fun y10 =>
        l11_2 (List.length y10 : Int) y10 (fun y13 =>
            some (y13, 0, ())) FUEL 0 []) FUEL 0 r3
noncomputable def e11 : PmE := entry 11 [(.sl G36), (.sl (.int .i64)), (.sl G45), (.int .i64)] true (.cons (.sl G36) (.cons (.int .i64) .nil)) (fun x => m11 x.1 x.2.1 x.2.2.1 x.2.2.2.1)
theorem q11 (x : tyL [(.sl G36), (.sl (.int .i64)), (.sl G45), (.int .i64)]) : execF E11 C11 Try.f11 (datL [(.sl G36), (.sl (.int .i64)), (.sl G45), (.int .i64)] x) [] (retK true (.cons (.sl G36) (.cons (.int .i64) .nil))) = m11 x.1 x.2.1 x.2.2.1 x.2.2.2.1 := by kernel_rfl
theorem p11 : PmOk Try.prog e11 := pm_ok (E := E11) ok11 ord lm11 Try.func11 ca11 q11

noncomputable def cK11 : CmE := konE 11 [(.sl G36), (.sl (.int .i64)), (.sl G45), (.int .i64)] true (.cons (.sl G36) (.cons (.int .i64) .nil)) (fun x => m11 x.1 x.2.1 x.2.2.1 x.2.2.2.1)
theorem dK11 : CmOk Try.prog cK11 := kon_ok p11

/-! 15: consol/consolref33.Same -/
theorem ca15 : callable Try.prog 15 := ⟨Try.f15, Try.func15, by kernel_rfl, by kernel_rfl⟩
noncomputable def E15 : Env := mkEnv2 Try.prog [] []
theorem ok15 : EnvOk E15 := mkEnv2_ok (by simp) (by simp)
/-- a round of a loop of consol/consolref33.Same -/
noncomputable def s15_1 {R : Type} (t0 : (List T36)) (t1 : (List T36)) (kn : Int → Option R) (k1 : Option R) (k2 : Option R) (t5 : Int) : Option R :=
  bif (decide (t5 < (List.length t0 : Int))) then
    (idx t0 t5).bind fun x1 =>
    (idx t1 t5).bind fun x2 =>
    bif (!((x1.1 == x2.1) && ((x1.2.1 == x2.2.1) && true))) then
      k2
    else
      kn (IntKind.i64.wrap (t5 + 1))
  else
    k1
noncomputable def l15_1 {R : Type} (t0 : (List T36)) (t1 : (List T36)) (k1 : Option R) (k2 : Option R) : Nat → Int → Option R
  | 0, _ => none
  | n + 1, t5 => s15_1 t0 t1 (l15_1 t0 t1 k1 k2 n) k1 k2 t5
noncomputable def L15_1 : LE := ⟨5, 0, ⟨[(0, (.dat (.sl G36))), (1, (.dat (.sl G36))), (5, (.dat (.int .i64)))], []⟩, fun R n x k => l15_1 x.1.1 x.1.2.1 (k (.exit 0) ⟨[], []⟩) (k .ret ⟨[(4, (.dat .bool false))], []⟩) n x.1.2.2.1⟩
noncomputable def C15 : Cfg := mkCfg [(5, ⟨[0, 1, 5], []⟩)] [(5, (⟨[], []⟩, ⟨[4], []⟩))] (([(0, L15_1)] : List (Nat × LE)).map (·.2))
theorem ek15_1 : EOk E15 C15 Try.f15.ntmps (bodyL Try.f15 0) L15_1 := eok_of (e := L15_1) (fun R x Kn k => s15_1 x.1.1 x.1.2.1 (fun v0 => Kn ((x.1.1, x.1.2.1, v0, ()), (()))) (k (.exit 0) ⟨[], []⟩) (k .ret ⟨[(4, (.dat .bool false))], []⟩) x.1.2.2.1) (fun _ _ _ => rfl) (fun _ _ _ _ => rfl) (fun R x Kn k => by kernel_rfl)
theorem lm15 : ∀ c, Try.f15.body = some c → LmOk E15 C15 Try.f15.ntmps c := lmOk_of (ps := [(0, L15_1)]) (by kernel_rfl) (by kernel_rfl) ⟨ek15_1, trivial⟩
noncomputable def m15 (a0 : (List T36)) (a1 : (List T36)) : Option (Bool) :=
  bif ((List.length a0 : Int) != (List.length a1 : Int)) then
    some false
  else
    l15_1 a0 a1 (
        some true) (
        some false) FUEL 0
noncomputable def e15 : PmE := entry 15 [(.sl G36), (.sl G36)] false .bool (fun x => m15 x.1 x.2.1)
theorem q15 (x : tyL [(.sl G36), (.sl G36)]) : execF E15 C15 Try.f15 (datL [(.sl G36), (.sl G36)] x) [] (retK false .bool) = m15 x.1 x.2.1 := by kernel_rfl
theorem p15 : PmOk Try.prog e15 := pm_ok (E := E15) ok15 ord lm15 Try.func15 ca15 q15

/-! 26: consol/consollaw33.paid -/
theorem ca26 : callable Try.prog 26 := ⟨Try.f26, Try.func26, by kernel_rfl, by kernel_rfl⟩
noncomputable def E26 : Env := mkEnv2 Try.prog [e15, e25] [cK11]
theorem ok26 : EnvOk E26 := mkEnv2_ok (by simp only [List.mem_cons, List.not_mem_nil, or_false, forall_eq_or_imp, forall_eq]; exact ⟨p15, p25⟩) (by simp only [List.mem_cons, List.not_mem_nil, or_false, forall_eq]; exact dK11)
noncomputable def C26 : Cfg := noCfg
theorem lm26 : ∀ c, Try.f26.body = some c → LmOk E26 C26 Try.f26.ntmps c := fun _ _ => noCfg_lm
noncomputable def m26 (a0 : (List T45)) (a1 : (List T36)) : Option (Bool) :=
  (m25).bind fun r1 =>
  (m11 r1 [10, 0, 5] a0 20).bind fun r2 =>
  (bif ((r2.2.1 == 0) == true) then (m15 r2.1 a1) else some false).bind fun r3 =>
  some ((r2.2.1 == 0) && r3)
noncomputable def e26 : PmE := entry 26 [(.sl G45), (.sl G36)] false .bool (fun x => m26 x.1 x.2.1)
theorem q26 (x : tyL [(.sl G45), (.sl G36)]) : execF E26 C26 Try.f26 (datL [(.sl G45), (.sl G36)] x) [] (retK false .bool) = m26 x.1 x.2.1 := by kernel_rfl
theorem p26 : PmOk Try.prog e26 := pm_ok (E := E26) ok26 ord lm26 Try.func26 ca26 q26

/-! 16: consol/entitle.Through -/
theorem ca16 : callable Try.prog 16 := ⟨Try.f16, Try.func16, by kernel_rfl, by kernel_rfl⟩
noncomputable def E16 : Env := mkEnv2 Try.prog [e33] []
theorem ok16 : EnvOk E16 := mkEnv2_ok (by simp only [List.mem_cons, List.not_mem_nil, or_false, forall_eq]; exact p33) (by simp)
/-- a round of a loop of consol/entitle.Through -/
noncomputable def s16_1 {R : Type} (t0 : (List T36)) (t2 : Int) (kn : Int → Option R) (k1 : Int → Option R) (t10 : Int) : Option R :=
  bif (decide (t10 > t2)) then
    (idx t0 t10).bind fun x3 =>
    kn x3.1
  else
    k1 t10
noncomputable def l16_1 {R : Type} (t0 : (List T36)) (t2 : Int) (k1 : Int → Option R) : Nat → Int → Option R
  | 0, _ => none
  | n + 1, t10 => s16_1 t0 t2 (l16_1 t0 t2 k1 n) k1 t10
noncomputable def L16_1 : LE := ⟨10, 0, ⟨[(0, (.dat (.sl G36))), (2, (.dat (.int .i64))), (7, (.dat (.int .i64))), (9, (.box 0 [] 0)), (10, (.dat (.int .i64))), (24, (.dat (.sl G36))), (25, (.dat (.int .i64))), (26, (.dat (.int .i64)))], [(.box (.dat G36))]⟩, fun R n x k => l16_1 x.1.1 x.1.2.1 (fun y0 => k (.exit 2) ⟨[(0, (.dat (.sl G36) x.1.1)), (2, (.dat (.int .i64) x.1.2.1)), (7, (.dat (.int .i64) x.1.2.2.1)), (9, (.box 0 [] 0)), (10, (.dat (.int .i64) y0)), (24, (.dat (.sl G36) x.1.2.2.2.2.2.1)), (25, (.dat (.int .i64) x.1.2.2.2.2.2.2.1)), (26, (.dat (.int .i64) x.1.2.2.2.2.2.2.2.1))], [(.box (.dat G36 x.2.1))]⟩) n x.1.2.2.2.2.1⟩
/-- a round of a loop of consol/entitle.Through -/
noncomputable def s16_2 {R : Type} (t0 : (List T36)) (t2 : Int) (t24 : (List T36)) (t25 : Int) (kn : Int → Int → Option R) (k1 : Int → Option R) (t7 : Int) (t26 : Int) : Option R :=
  bif (decide (t26 < t25)) then
    cont (fun (k5 : Int → _) =>
      (idx t24 t26).bind fun x2 =>
      bif ((decide (x2.1 < 0)) || (decide (x2.1 ≥ (List.length t0 : Int)))) then
        k5 t7
      else
        l16_1 t0 t2 (fun y4 =>
            bif (y4 == t2) then
              k5 (IntKind.i64.wrap (t7 + x2.2.1))
            else
              k5 t7) FUEL x2.1) fun y5 =>
    kn y5 (IntKind.i64.wrap (t26 + 1))
  else
    k1 t7
noncomputable def l16_2 {R : Type} (t0 : (List T36)) (t2 : Int) (t24 : (List T36)) (t25 : Int) (k1 : Int → Option R) : Nat → Int → Int → Option R
  | 0, _, _ => none
  | n + 1, t7, t26 => s16_2 t0 t2 t24 t25 (l16_2 t0 t2 t24 t25 k1 n) k1 t7 t26
noncomputable def L16_2 : LE := ⟨6, 0, ⟨[(0, (.dat (.sl G36))), (2, (.dat (.int .i64))), (7, (.dat (.int .i64))), (24, (.dat (.sl G36))), (25, (.dat (.int .i64))), (26, (.dat (.int .i64)))], []⟩, fun R n x k => l16_2 x.1.1 x.1.2.1 x.1.2.2.2.1 x.1.2.2.2.2.1 (fun y0 => k (.exit 0) ⟨[(7, (.dat (.int .i64) y0))], []⟩) n x.1.2.2.1 x.1.2.2.2.2.2.1⟩
noncomputable def C16 : Cfg := mkCfg [(6, ⟨[0, 2, 7, 24, 25, 26], []⟩), (10, ⟨[0, 2, 7, 9, 10, 24, 25, 26], []⟩), (14, ⟨[0, 2, 7, 24, 25, 26], []⟩)] [(6, (⟨[7], []⟩, ⟨[6], []⟩)), (10, (⟨[0, 2, 7, 9, 10, 24, 25, 26], []⟩, ⟨[6], []⟩))] (([(1, L16_1), (0, L16_2)] : List (Nat × LE)).map (·.2))
theorem ek16_1 : EOk E16 C16 Try.f16.ntmps (bodyL Try.f16 1) L16_1 := eok_of (e := L16_1) (fun R x Kn k => s16_1 x.1.1 x.1.2.1 (fun v0 => Kn ((x.1.1, x.1.2.1, x.1.2.2.1, (), v0, x.1.2.2.2.2.2.1, x.1.2.2.2.2.2.2.1, x.1.2.2.2.2.2.2.2.1, ()), (x.2.1, ()))) (fun y0 => k (.exit 2) ⟨[(0, (.dat (.sl G36) x.1.1)), (2, (.dat (.int .i64) x.1.2.1)), (7, (.dat (.int .i64) x.1.2.2.1)), (9, (.box 0 [] 0)), (10, (.dat (.int .i64) y0)), (24, (.dat (.sl G36) x.1.2.2.2.2.2.1)), (25, (.dat (.int .i64) x.1.2.2.2.2.2.2.1)), (26, (.dat (.int .i64) x.1.2.2.2.2.2.2.2.1))], [(.box (.dat G36 x.2.1))]⟩) x.1.2.2.2.2.1) (fun _ _ _ => rfl) (fun _ _ _ _ => rfl) (fun R x Kn k => by kernel_rfl)
theorem ek16_2 : EOk E16 C16 Try.f16.ntmps (bodyL Try.f16 0) L16_2 := eok_of (e := L16_2) (fun R x Kn k => s16_2 x.1.1 x.1.2.1 x.1.2.2.2.1 x.1.2.2.2.2.1 (fun v0 v1 => Kn ((x.1.1, x.1.2.1, v0, x.1.2.2.2.1, x.1.2.2.2.2.1, v1, ()), (()))) (fun y0 => k (.exit 0) ⟨[(7, (.dat (.int .i64) y0))], []⟩) x.1.2.2.1 x.1.2.2.2.2.2.1) (fun _ _ _ => rfl) (fun _ _ _ _ => rfl) (fun R x Kn k => by kernel_rfl)
theorem lm16 : ∀ c, Try.f16.body = some c → LmOk E16 C16 Try.f16.ntmps c := lmOk_of (ps := [(1, L16_1), (0, L16_2)]) (by kernel_rfl) (by kernel_rfl) ⟨ek16_1, ek16_2, trivial⟩
noncomputable def m16 (a0 : (List T36)) (a1 : (List T36)) (a2 : Int) : Option (Int) :=
  (m33 a0).bind fun r1 =>
  bif (((!r1) || (decide (a2 < 0))) || (decide (a2 ≥ (List.length a0 : Int)))) then
    some 0
  else
    l16_2 a0 a2 a1 (List.length a1 : Int) (fun y6 =>
        some y6) FUEL 0 0
noncomputable def e16 : PmE := entry 16 [(.sl G36), (.sl G36), (.int .i64)] false (.int .i64) (fun x => m16 x.1 x.2.1 x.2.2.1)
theorem q16 (x : tyL [(.sl G36), (.sl G36), (.int .i64)]) : execF E16 C16 Try.f16 (datL [(.sl G36), (.sl G36), (.int .i64)] x) [] (retK false (.int .i64)) = m16 x.1 x.2.1 x.2.2.1 := by kernel_rfl
theorem p16 : PmOk Try.prog e16 := pm_ok (E := E16) ok16 ord lm16 Try.func16 ca16 q16

/-! 8: consol/consollaw33.small -/
theorem ca8 : callable Try.prog 8 := ⟨Try.f8, Try.func8, by kernel_rfl, by kernel_rfl⟩
noncomputable def E8 : Env := mkEnv2 Try.prog [e15, e16, e20, e25, e26] [cK13]
theorem ok8 : EnvOk E8 := mkEnv2_ok (by simp only [List.mem_cons, List.not_mem_nil, or_false, forall_eq_or_imp, forall_eq]; exact ⟨p15, p16, p20, p25, p26⟩) (by simp only [List.mem_cons, List.not_mem_nil, or_false, forall_eq]; exact dK13)
noncomputable def C8 : Cfg := noCfg
theorem lm8 : ∀ c, Try.f8.body = some c → LmOk E8 C8 Try.f8.ntmps c := fun _ _ => noCfg_lm
noncomputable def m8  : Option (Bool) :=
  (m25).bind fun r1 =>
  (m13 r1 [10, 0, 5] 4).bind fun r2 =>
  (m20 0 10).bind fun r3 =>
  (m20 2 5).bind fun r4 =>
  (m26 [] [r3, r4]).bind fun r5 =>
  (bif (r5 == true) then (m20 0 6) else some (0, 0, ())).bind fun r6 =>
  (bif (r5 == true) then (m20 1 4) else some (0, 0, ())).bind fun r7 =>
  (bif (r5 == true) then (m20 2 5) else some (0, 0, ())).bind fun r8 =>
  bif (r5 == true) then
    (bif (r5 == true) then (m26 [(0, 0, 1, 4, 0, 18, (-1), 0, ())] [r6, r7, r8]) else some false).bind fun r9 =>
    (bif ((r5 && r9) == true) then (m20 0 13) else some (0, 0, ())).bind fun r10 =>
    (bif ((r5 && r9) == true) then (m20 2 2) else some (0, 0, ())).bind fun r11 =>
    bif ((r5 && r9) == true) then
      (bif ((r5 && r9) == true) then (m26 [(1, 0, 2, 3, 0, 15, 15, 25, ())] [r10, r11]) else some false).bind fun r12 =>
      (bif (((r5 && r9) && r12) == true) then (m20 0 12) else some (0, 0, ())).bind fun r13 =>
      (bif (((r5 && r9) && r12) == true) then (m20 1 (-2)) else some (0, 0, ())).bind fun r14 =>
      (bif (((r5 && r9) && r12) == true) then (m20 2 5) else some (0, 0, ())).bind fun r15 =>
      bif (((r5 && r9) && r12) == true) then
        (bif (((r5 && r9) && r12) == true) then (m26 [(0, 1, 0, 2, 0, 19, 21, 0, ())] [r13, r14, r15]) else some false).bind fun r16 =>
        (bif (((((r5 && r9) && r12) && r16) && (r2.2.1 == 0)) == true) then (m20 0 10) else some (0, 0, ())).bind fun r17 =>
        bif (((((r5 && r9) && r12) && r16) && (r2.2.1 == 0)) == true) then
          (bif (((((r5 && r9) && r12) && r16) && (r2.2.1 == 0)) == true) then (m15 r2.1 [r17]) else some false).bind fun r18 =>
          (bif ((((((r5 && r9) && r12) && r16) && (r2.2.1 == 0)) && r18) == true) then m25 else some []).bind fun r19 =>
          (bif ((((((r5 && r9) && r12) && r16) && (r2.2.1 == 0)) && r18) == true) then (m16 r19 r2.1 0) else some 0).bind fun r20 =>
          (bif (((((((r5 && r9) && r12) && r16) && (r2.2.1 == 0)) && r18) && (r20 == 10)) == true) then m25 else some []).bind fun r21 =>
          (bif (((((((r5 && r9) && r12) && r16) && (r2.2.1 == 0)) && r18) && (r20 == 10)) == true) then (m16 r21 r2.1 1) else some 0).bind fun r22 =>
          some (((((((r5 && r9) && r12) && r16) && (r2.2.1 == 0)) && r18) && (r20 == 10)) && (r22 == 0))
        else
          (bif (((((r5 && r9) && r12) && r16) && (r2.2.1 == 0)) == true) then (m15 r2.1 []) else some false).bind fun r23 =>
          (bif ((((((r5 && r9) && r12) && r16) && (r2.2.1 == 0)) && r23) == true) then m25 else some []).bind fun r24 =>
          (bif ((((((r5 && r9) && r12) && r16) && (r2.2.1 == 0)) && r23) == true) then (m16 r24 r2.1 0) else some 0).bind fun r25 =>
          (bif (((((((r5 && r9) && r12) && r16) && (r2.2.1 == 0)) && r23) && (r25 == 10)) == true) then m25 else some []).bind fun r26 =>
          (bif (((((((r5 && r9) && r12) && r16) && (r2.2.1 == 0)) && r23) && (r25 == 10)) == true) then (m16 r26 r2.1 1) else some 0).bind fun r27 =>
          some (((((((r5 && r9) && r12) && r16) && (r2.2.1 == 0)) && r23) && (r25 == 10)) && (r27 == 0))
      else
        (bif (((r5 && r9) && r12) == true) then (m26 [(0, 1, 0, 2, 0, 19, 21, 0, ())] []) else some false).bind fun r28 =>
        (bif (((((r5 && r9) && r12) && r28) && (r2.2.1 == 0)) == true) then (m20 0 10) else some (0, 0, ())).bind fun r29 =>
        bif (((((r5 && r9) && r12) && r28) && (r2.2.1 == 0)) == true) then
          (bif (((((r5 && r9) && r12) && r28) && (r2.2.1 == 0)) == true) then (m15 r2.1 [r29]) else some false).bind fun r30 =>
          (bif ((((((r5 && r9) && r12) && r28) && (r2.2.1 == 0)) && r30) == true) then m25 else some []).bind fun r31 =>
          (bif ((((((r5 && r9) && r12) && r28) && (r2.2.1 == 0)) && r30) == true) then (m16 r31 r2.1 0) else some 0).bind fun r32 =>
          (bif (((((((r5 && r9) && r12) && r28) && (r2.2.1 == 0)) && r30) && (r32 == 10)) == true) then m25 else some []).bind fun r33 =>
          (bif (((((((r5 && r9) && r12) && r28) && (r2.2.1 == 0)) && r30) && (r32 == 10)) == true) then (m16 r33 r2.1 1) else some 0).bind fun r34 =>
          some (((((((r5 && r9) && r12) && r28) && (r2.2.1 == 0)) && r30) && (r32 == 10)) && (r34 == 0))
        else
          (bif (((((r5 && r9) && r12) && r28) && (r2.2.1 == 0)) == true) then (m15 r2.1 []) else some false).bind fun r35 =>
          (bif ((((((r5 && r9) && r12) && r28) && (r2.2.1 == 0)) && r35) == true) then m25 else some []).bind fun r36 =>
          (bif ((((((r5 && r9) && r12) && r28) && (r2.2.1 == 0)) && r35) == true) then (m16 r36 r2.1 0) else some 0).bind fun r37 =>
          (bif (((((((r5 && r9) && r12) && r28) && (r2.2.1 == 0)) && r35) && (r37 == 10)) == true) then m25 else some []).bind fun r38 =>
          (bif (((((((r5 && r9) && r12) && r28) && (r2.2.1 == 0)) && r35) && (r37 == 10)) == true) then (m16 r38 r2.1 1) else some 0).bind fun r39 =>
          some (((((((r5 && r9) && r12) && r28) && (r2.2.1 == 0)) && r35) && (r37 == 10)) && (r39 == 0))
    else
      (bif ((r5 && r9) == true) then (m26 [(1, 0, 2, 3, 0, 15, 15, 25, ())] []) else some false).bind fun r40 =>
      (bif (((r5 && r9) && r40) == true) then (m20 0 12) else some (0, 0, ())).bind fun r41 =>
      (bif (((r5 && r9) && r40) == true) then (m20 1 (-2)) else some (0, 0, ())).bind fun r42 =>
      (bif (((r5 && r9) && r40) == true) then (m20 2 5) else some (0, 0, ())).bind fun r43 =>
      bif (((r5 && r9) && r40) == true) then
        (bif (((r5 && r9) && r40) == true) then (m26 [(0, 1, 0, 2, 0, 19, 21, 0, ())] [r41, r42, r43]) else some false).bind fun r44 =>
        (bif (((((r5 && r9) && r40) && r44) && (r2.2.1 == 0)) == true) then (m20 0 10) else some (0, 0, ())).bind fun r45 =>
        bif (((((r5 && r9) && r40) && r44) && (r2.2.1 == 0)) == true) then
          (bif (((((r5 && r9) && r40) && r44) && (r2.2.1 == 0)) == true) then (m15 r2.1 [r45]) else some false).bind fun r46 =>
          (bif ((((((r5 && r9) && r40) && r44) && (r2.2.1 == 0)) && r46) == true) then m25 else some []).bind fun r47 =>
          (bif ((((((r5 && r9) && r40) && r44) && (r2.2.1 == 0)) && r46) == true) then (m16 r47 r2.1 0) else some 0).bind fun r48 =>
          (bif (((((((r5 && r9) && r40) && r44) && (r2.2.1 == 0)) && r46) && (r48 == 10)) == true) then m25 else some []).bind fun r49 =>
          (bif (((((((r5 && r9) && r40) && r44) && (r2.2.1 == 0)) && r46) && (r48 == 10)) == true) then (m16 r49 r2.1 1) else some 0).bind fun r50 =>
          some (((((((r5 && r9) && r40) && r44) && (r2.2.1 == 0)) && r46) && (r48 == 10)) && (r50 == 0))
        else
          (bif (((((r5 && r9) && r40) && r44) && (r2.2.1 == 0)) == true) then (m15 r2.1 []) else some false).bind fun r51 =>
          (bif ((((((r5 && r9) && r40) && r44) && (r2.2.1 == 0)) && r51) == true) then m25 else some []).bind fun r52 =>
          (bif ((((((r5 && r9) && r40) && r44) && (r2.2.1 == 0)) && r51) == true) then (m16 r52 r2.1 0) else some 0).bind fun r53 =>
          (bif (((((((r5 && r9) && r40) && r44) && (r2.2.1 == 0)) && r51) && (r53 == 10)) == true) then m25 else some []).bind fun r54 =>
          (bif (((((((r5 && r9) && r40) && r44) && (r2.2.1 == 0)) && r51) && (r53 == 10)) == true) then (m16 r54 r2.1 1) else some 0).bind fun r55 =>
          some (((((((r5 && r9) && r40) && r44) && (r2.2.1 == 0)) && r51) && (r53 == 10)) && (r55 == 0))
      else
        (bif (((r5 && r9) && r40) == true) then (m26 [(0, 1, 0, 2, 0, 19, 21, 0, ())] []) else some false).bind fun r56 =>
        (bif (((((r5 && r9) && r40) && r56) && (r2.2.1 == 0)) == true) then (m20 0 10) else some (0, 0, ())).bind fun r57 =>
        bif (((((r5 && r9) && r40) && r56) && (r2.2.1 == 0)) == true) then
          (bif (((((r5 && r9) && r40) && r56) && (r2.2.1 == 0)) == true) then (m15 r2.1 [r57]) else some false).bind fun r58 =>
          (bif ((((((r5 && r9) && r40) && r56) && (r2.2.1 == 0)) && r58) == true) then m25 else some []).bind fun r59 =>
          (bif ((((((r5 && r9) && r40) && r56) && (r2.2.1 == 0)) && r58) == true) then (m16 r59 r2.1 0) else some 0).bind fun r60 =>
          (bif (((((((r5 && r9) && r40) && r56) && (r2.2.1 == 0)) && r58) && (r60 == 10)) == true) then m25 else some []).bind fun r61 =>
          (bif (((((((r5 && r9) && r40) && r56) && (r2.2.1 == 0)) && r58) && (r60 == 10)) == true) then (m16 r61 r2.1 1) else some 0).bind fun r62 =>
          some (((((((r5 && r9) && r40) && r56) && (r2.2.1 == 0)) && r58) && (r60 == 10)) && (r62 == 0))
        else
          (bif (((((r5 && r9) && r40) && r56) && (r2.2.1 == 0)) == true) then (m15 r2.1 []) else some false).bind fun r63 =>
          (bif ((((((r5 && r9) && r40) && r56) && (r2.2.1 == 0)) && r63) == true) then m25 else some []).bind fun r64 =>
          (bif ((((((r5 && r9) && r40) && r56) && (r2.2.1 == 0)) && r63) == true) then (m16 r64 r2.1 0) else some 0).bind fun r65 =>
          (bif (((((((r5 && r9) && r40) && r56) && (r2.2.1 == 0)) && r63) && (r65 == 10)) == true) then m25 else some []).bind fun r66 =>
          (bif (((((((r5 && r9) && r40) && r56) && (r2.2.1 == 0)) && r63) && (r65 == 10)) == true) then (m16 r66 r2.1 1) else some 0).bind fun r67 =>
          some (((((((r5 && r9) && r40) && r56) && (r2.2.1 == 0)) && r63) && (r65 == 10)) && (r67 == 0))
  else
    (bif (r5 == true) then (m26 [(0, 0, 1, 4, 0, 18, (-1), 0, ())] []) else some false).bind fun r68 =>
    (bif ((r5 && r68) == true) then (m20 0 13) else some (0, 0, ())).bind fun r69 =>
    (bif ((r5 && r68) == true) then (m20 2 2) else some (0, 0, ())).bind fun r70 =>
    bif ((r5 && r68) == true) then
      (bif ((r5 && r68) == true) then (m26 [(1, 0, 2, 3, 0, 15, 15, 25, ())] [r69, r70]) else some false).bind fun r71 =>
      (bif (((r5 && r68) && r71) == true) then (m20 0 12) else some (0, 0, ())).bind fun r72 =>
      (bif (((r5 && r68) && r71) == true) then (m20 1 (-2)) else some (0, 0, ())).bind fun r73 =>
      (bif (((r5 && r68) && r71) == true) then (m20 2 5) else some (0, 0, ())).bind fun r74 =>
      bif (((r5 && r68) && r71) == true) then
        (bif (((r5 && r68) && r71) == true) then (m26 [(0, 1, 0, 2, 0, 19, 21, 0, ())] [r72, r73, r74]) else some false).bind fun r75 =>
        (bif (((((r5 && r68) && r71) && r75) && (r2.2.1 == 0)) == true) then (m20 0 10) else some (0, 0, ())).bind fun r76 =>
        bif (((((r5 && r68) && r71) && r75) && (r2.2.1 == 0)) == true) then
          (bif (((((r5 && r68) && r71) && r75) && (r2.2.1 == 0)) == true) then (m15 r2.1 [r76]) else some false).bind fun r77 =>
          (bif ((((((r5 && r68) && r71) && r75) && (r2.2.1 == 0)) && r77) == true) then m25 else some []).bind fun r78 =>
          (bif ((((((r5 && r68) && r71) && r75) && (r2.2.1 == 0)) && r77) == true) then (m16 r78 r2.1 0) else some 0).bind fun r79 =>
          (bif (((((((r5 && r68) && r71) && r75) && (r2.2.1 == 0)) && r77) && (r79 == 10)) == true) then m25 else some []).bind fun r80 =>
          (bif (((((((r5 && r68) && r71) && r75) && (r2.2.1 == 0)) && r77) && (r79 == 10)) == true) then (m16 r80 r2.1 1) else some 0).bind fun r81 =>
          some (((((((r5 && r68) && r71) && r75) && (r2.2.1 == 0)) && r77) && (r79 == 10)) && (r81 == 0))
        else
          (bif (((((r5 && r68) && r71) && r75) && (r2.2.1 == 0)) == true) then (m15 r2.1 []) else some false).bind fun r82 =>
          (bif ((((((r5 && r68) && r71) && r75) && (r2.2.1 == 0)) && r82) == true) then m25 else some []).bind fun r83 =>
          (bif ((((((r5 && r68) && r71) && r75) && (r2.2.1 == 0)) && r82) == true) then (m16 r83 r2.1 0) else some 0).bind fun r84 =>
          (bif (((((((r5 && r68) && r71) && r75) && (r2.2.1 == 0)) && r82) && (r84 == 10)) == true) then m25 else some []).bind fun r85 =>
          (bif (((((((r5 && r68) && r71) && r75) && (r2.2.1 == 0)) && r82) && (r84 == 10)) == true) then (m16 r85 r2.1 1) else some 0).bind fun r86 =>
          some (((((((r5 && r68) && r71) && r75) && (r2.2.1 == 0)) && r82) && (r84 == 10)) && (r86 == 0))
      else
        (bif (((r5 && r68) && r71) == true) then (m26 [(0, 1, 0, 2, 0, 19, 21, 0, ())] []) else some false).bind fun r87 =>
        (bif (((((r5 && r68) && r71) && r87) && (r2.2.1 == 0)) == true) then (m20 0 10) else some (0, 0, ())).bind fun r88 =>
        bif (((((r5 && r68) && r71) && r87) && (r2.2.1 == 0)) == true) then
          (bif (((((r5 && r68) && r71) && r87) && (r2.2.1 == 0)) == true) then (m15 r2.1 [r88]) else some false).bind fun r89 =>
          (bif ((((((r5 && r68) && r71) && r87) && (r2.2.1 == 0)) && r89) == true) then m25 else some []).bind fun r90 =>
          (bif ((((((r5 && r68) && r71) && r87) && (r2.2.1 == 0)) && r89) == true) then (m16 r90 r2.1 0) else some 0).bind fun r91 =>
          (bif (((((((r5 && r68) && r71) && r87) && (r2.2.1 == 0)) && r89) && (r91 == 10)) == true) then m25 else some []).bind fun r92 =>
          (bif (((((((r5 && r68) && r71) && r87) && (r2.2.1 == 0)) && r89) && (r91 == 10)) == true) then (m16 r92 r2.1 1) else some 0).bind fun r93 =>
          some (((((((r5 && r68) && r71) && r87) && (r2.2.1 == 0)) && r89) && (r91 == 10)) && (r93 == 0))
        else
          (bif (((((r5 && r68) && r71) && r87) && (r2.2.1 == 0)) == true) then (m15 r2.1 []) else some false).bind fun r94 =>
          (bif ((((((r5 && r68) && r71) && r87) && (r2.2.1 == 0)) && r94) == true) then m25 else some []).bind fun r95 =>
          (bif ((((((r5 && r68) && r71) && r87) && (r2.2.1 == 0)) && r94) == true) then (m16 r95 r2.1 0) else some 0).bind fun r96 =>
          (bif (((((((r5 && r68) && r71) && r87) && (r2.2.1 == 0)) && r94) && (r96 == 10)) == true) then m25 else some []).bind fun r97 =>
          (bif (((((((r5 && r68) && r71) && r87) && (r2.2.1 == 0)) && r94) && (r96 == 10)) == true) then (m16 r97 r2.1 1) else some 0).bind fun r98 =>
          some (((((((r5 && r68) && r71) && r87) && (r2.2.1 == 0)) && r94) && (r96 == 10)) && (r98 == 0))
    else
      (bif ((r5 && r68) == true) then (m26 [(1, 0, 2, 3, 0, 15, 15, 25, ())] []) else some false).bind fun r99 =>
      (bif (((r5 && r68) && r99) == true) then (m20 0 12) else some (0, 0, ())).bind fun r100 =>
      (bif (((r5 && r68) && r99) == true) then (m20 1 (-2)) else some (0, 0, ())).bind fun r101 =>
      (bif (((r5 && r68) && r99) == true) then (m20 2 5) else some (0, 0, ())).bind fun r102 =>
      bif (((r5 && r68) && r99) == true) then
        (bif (((r5 && r68) && r99) == true) then (m26 [(0, 1, 0, 2, 0, 19, 21, 0, ())] [r100, r101, r102]) else some false).bind fun r103 =>
        (bif (((((r5 && r68) && r99) && r103) && (r2.2.1 == 0)) == true) then (m20 0 10) else some (0, 0, ())).bind fun r104 =>
        bif (((((r5 && r68) && r99) && r103) && (r2.2.1 == 0)) == true) then
          (bif (((((r5 && r68) && r99) && r103) && (r2.2.1 == 0)) == true) then (m15 r2.1 [r104]) else some false).bind fun r105 =>
          (bif ((((((r5 && r68) && r99) && r103) && (r2.2.1 == 0)) && r105) == true) then m25 else some []).bind fun r106 =>
          (bif ((((((r5 && r68) && r99) && r103) && (r2.2.1 == 0)) && r105) == true) then (m16 r106 r2.1 0) else some 0).bind fun r107 =>
          (bif (((((((r5 && r68) && r99) && r103) && (r2.2.1 == 0)) && r105) && (r107 == 10)) == true) then m25 else some []).bind fun r108 =>
          (bif (((((((r5 && r68) && r99) && r103) && (r2.2.1 == 0)) && r105) && (r107 == 10)) == true) then (m16 r108 r2.1 1) else some 0).bind fun r109 =>
          some (((((((r5 && r68) && r99) && r103) && (r2.2.1 == 0)) && r105) && (r107 == 10)) && (r109 == 0))
        else
          (bif (((((r5 && r68) && r99) && r103) && (r2.2.1 == 0)) == true) then (m15 r2.1 []) else some false).bind fun r110 =>
          (bif ((((((r5 && r68) && r99) && r103) && (r2.2.1 == 0)) && r110) == true) then m25 else some []).bind fun r111 =>
          (bif ((((((r5 && r68) && r99) && r103) && (r2.2.1 == 0)) && r110) == true) then (m16 r111 r2.1 0) else some 0).bind fun r112 =>
          (bif (((((((r5 && r68) && r99) && r103) && (r2.2.1 == 0)) && r110) && (r112 == 10)) == true) then m25 else some []).bind fun r113 =>
          (bif (((((((r5 && r68) && r99) && r103) && (r2.2.1 == 0)) && r110) && (r112 == 10)) == true) then (m16 r113 r2.1 1) else some 0).bind fun r114 =>
          some (((((((r5 && r68) && r99) && r103) && (r2.2.1 == 0)) && r110) && (r112 == 10)) && (r114 == 0))
      else
        (bif (((r5 && r68) && r99) == true) then (m26 [(0, 1, 0, 2, 0, 19, 21, 0, ())] []) else some false).bind fun r115 =>
        (bif (((((r5 && r68) && r99) && r115) && (r2.2.1 == 0)) == true) then (m20 0 10) else some (0, 0, ())).bind fun r116 =>
        bif (((((r5 && r68) && r99) && r115) && (r2.2.1 == 0)) == true) then
          (bif (((((r5 && r68) && r99) && r115) && (r2.2.1 == 0)) == true) then (m15 r2.1 [r116]) else some false).bind fun r117 =>
          (bif ((((((r5 && r68) && r99) && r115) && (r2.2.1 == 0)) && r117) == true) then m25 else some []).bind fun r118 =>
          (bif ((((((r5 && r68) && r99) && r115) && (r2.2.1 == 0)) && r117) == true) then (m16 r118 r2.1 0) else some 0).bind fun r119 =>
          (bif (((((((r5 && r68) && r99) && r115) && (r2.2.1 == 0)) && r117) && (r119 == 10)) == true) then m25 else some []).bind fun r120 =>
          (bif (((((((r5 && r68) && r99) && r115) && (r2.2.1 == 0)) && r117) && (r119 == 10)) == true) then (m16 r120 r2.1 1) else some 0).bind fun r121 =>
          some (((((((r5 && r68) && r99) && r115) && (r2.2.1 == 0)) && r117) && (r119 == 10)) && (r121 == 0))
        else
          (bif (((((r5 && r68) && r99) && r115) && (r2.2.1 == 0)) == true) then (m15 r2.1 []) else some false).bind fun r122 =>
          (bif ((((((r5 && r68) && r99) && r115) && (r2.2.1 == 0)) && r122) == true) then m25 else some []).bind fun r123 =>
          (bif ((((((r5 && r68) && r99) && r115) && (r2.2.1 == 0)) && r122) == true) then (m16 r123 r2.1 0) else some 0).bind fun r124 =>
          (bif (((((((r5 && r68) && r99) && r115) && (r2.2.1 == 0)) && r122) && (r124 == 10)) == true) then m25 else some []).bind fun r125 =>
          (bif (((((((r5 && r68) && r99) && r115) && (r2.2.1 == 0)) && r122) && (r124 == 10)) == true) then (m16 r125 r2.1 1) else some 0).bind fun r126 =>
          some (((((((r5 && r68) && r99) && r115) && (r2.2.1 == 0)) && r122) && (r124 == 10)) && (r126 == 0))
noncomputable def e8 : PmE := entry 8 [] false .bool (fun x => m8 )
theorem q8 (x : tyL []) : execF E8 C8 Try.f8 (datL [] x) [] (retK false .bool) = m8  := by kernel_rfl
theorem p8 : PmOk Try.prog e8 := pm_ok (E := E8) ok8 ord lm8 Try.func8 ca8 q8

/-! 9: consol/consolref32.Few -/
theorem ca9 : callable Try.prog 9 := ⟨Try.f9, Try.func9, by kernel_rfl, by kernel_rfl⟩
noncomputable def E9 : Env := mkEnv2 Try.prog [] []
theorem ok9 : EnvOk E9 := mkEnv2_ok (by simp) (by simp)
noncomputable def C9 : Cfg := noCfg
theorem lm9 : ∀ c, Try.f9.body = some c → LmOk E9 C9 Try.f9.ntmps c := fun _ _ => noCfg_lm
noncomputable def m9 (a0 : (List T36)) (a1 : (List Int)) (a2 : (List T45)) : Option (Bool) :=
  some (((decide ((List.length a0 : Int) ≤ 10)) && (decide ((List.length a1 : Int) ≤ 10))) && (decide ((List.length a2 : Int) ≤ 12)))
noncomputable def e9 : PmE := entry 9 [(.sl G36), (.sl (.int .i64)), (.sl G45)] false .bool (fun x => m9 x.1 x.2.1 x.2.2.1)
theorem q9 (x : tyL [(.sl G36), (.sl (.int .i64)), (.sl G45)]) : execF E9 C9 Try.f9 (datL [(.sl G36), (.sl (.int .i64)), (.sl G45)] x) [] (retK false .bool) = m9 x.1 x.2.1 x.2.2.1 := by kernel_rfl
theorem p9 : PmOk Try.prog e9 := pm_ok (E := E9) ok9 ord lm9 Try.func9 ca9 q9

/-! 10: consol/consolref33.Small -/
theorem ca10 : callable Try.prog 10 := ⟨Try.f10, Try.func10, by kernel_rfl, by kernel_rfl⟩
noncomputable def E10 : Env := mkEnv2 Try.prog [] []
theorem ok10 : EnvOk E10 := mkEnv2_ok (by simp) (by simp)
/-- a round of a loop of consol/consolref33.Small -/
noncomputable def s10_1 {R : Type} (t0 : (List T36)) (kn : Int → Option R) (k1 : Option R) (k2 : Option R) (t3 : Int) : Option R :=
  bif ((decide (t3 < (List.length t0 : Int))) && (decide (t3 ≤ 12))) then
    (idx t0 t3).bind fun x1 =>
    (idxG ((decide (x1.2.1 > 1000000000000000)) == false) (0, 0, ()) t0 t3).bind fun x2 =>
    bif ((decide (x1.2.1 > 1000000000000000)) || (decide (x2.2.1 < (-1000000000000000)))) then
      k2
    else
      kn (IntKind.i64.wrap (t3 + 1))
  else
    k1
noncomputable def l10_1 {R : Type} (t0 : (List T36)) (k1 : Option R) (k2 : Option R) : Nat → Int → Option R
  | 0, _ => none
  | n + 1, t3 => s10_1 t0 (l10_1 t0 k1 k2 n) k1 k2 t3
noncomputable def L10_1 : LE := ⟨3, 0, ⟨[(0, (.dat (.sl G36))), (3, (.dat (.int .i64)))], []⟩, fun R n x k => l10_1 x.1.1 (k (.exit 0) ⟨[(0, (.dat (.sl G36) x.1.1))], []⟩) (k .ret ⟨[(2, (.dat .bool false))], []⟩) n x.1.2.1⟩
noncomputable def C10 : Cfg := mkCfg [(3, ⟨[0, 3], []⟩)] [(3, (⟨[0], []⟩, ⟨[2], []⟩))] (([(0, L10_1)] : List (Nat × LE)).map (·.2))
theorem ek10_1 : EOk E10 C10 Try.f10.ntmps (bodyL Try.f10 0) L10_1 := eok_of (e := L10_1) (fun R x Kn k => s10_1 x.1.1 (fun v0 => Kn ((x.1.1, v0, ()), (()))) (k (.exit 0) ⟨[(0, (.dat (.sl G36) x.1.1))], []⟩) (k .ret ⟨[(2, (.dat .bool false))], []⟩) x.1.2.1) (fun _ _ _ => rfl) (fun _ _ _ _ => rfl) (fun R x Kn k => by kernel_rfl)
theorem lm10 : ∀ c, Try.f10.body = some c → LmOk E10 C10 Try.f10.ntmps c := lmOk_of (ps := [(0, L10_1)]) (by kernel_rfl) (by kernel_rfl) ⟨ek10_1, trivial⟩
noncomputable def m10 (a0 : (List T36)) : Option (Bool) :=
  l10_1 a0 (
      some (decide ((List.length a0 : Int) ≤ 12))) (
      some false) FUEL 0
noncomputable def e10 : PmE := entry 10 [(.sl G36)] false .bool (fun x => m10 x.1)
theorem q10 (x : tyL [(.sl G36)]) : execF E10 C10 Try.f10 (datL [(.sl G36)] x) [] (retK false .bool) = m10 x.1 := by kernel_rfl
theorem p10 : PmOk Try.prog e10 := pm_ok (E := E10) ok10 ord lm10 Try.func10 ca10 q10

/-! 48: consol/consolref30.above -/
theorem ca48 : callable Try.prog 48 := ⟨Try.f48, Try.func48, by kernel_rfl, by kernel_rfl⟩
noncomputable def E48 : Env := mkEnv2 Try.prog [] []
theorem ok48 : EnvOk E48 := mkEnv2_ok (by simp) (by simp)
/-- a round of a loop of consol/consolref30.above -/
noncomputable def s48_1 {R : Type} (t0 : (List T36)) (kn : Int → Int → Option R) (k1 : Int → Option R) (t1 : Int) (t5 : Int) : Option R :=
  (idx t0 t1).bind fun x1 =>
  bif (decide (x1.1 ≥ 0)) then
    (idx t0 t1).bind fun x2 =>
    kn x2.1 (IntKind.i64.wrap (t5 + 1))
  else
    k1 t5
noncomputable def l48_1 {R : Type} (t0 : (List T36)) (k1 : Int → Option R) : Nat → Int → Int → Option R
  | 0, _, _ => none
  | n + 1, t1, t5 => s48_1 t0 (l48_1 t0 k1 n) k1 t1 t5
noncomputable def L48_1 : LE := ⟨3, 0, ⟨[(0, (.dat (.sl G36))), (1, (.dat (.int .i64))), (5, (.dat (.int .i64)))], []⟩, fun R n x k => l48_1 x.1.1 (fun y0 => k (.exit 0) ⟨[(5, (.dat (.int .i64) y0))], []⟩) n x.1.2.1 x.1.2.2.1⟩
noncomputable def C48 : Cfg := mkCfg [(3, ⟨[0, 1, 5], []⟩)] [(3, (⟨[5], []⟩, ⟨[4], []⟩))] (([(0, L48_1)] : List (Nat × LE)).map (·.2))
theorem ek48_1 : EOk E48 C48 Try.f48.ntmps (bodyL Try.f48 0) L48_1 := eok_of (e := L48_1) (fun R x Kn k => s48_1 x.1.1 (fun v0 v1 => Kn ((x.1.1, v0, v1, ()), (()))) (fun y0 => k (.exit 0) ⟨[(5, (.dat (.int .i64) y0))], []⟩) x.1.2.1 x.1.2.2.1) (fun _ _ _ => rfl) (fun _ _ _ _ => rfl) (fun R x Kn k => by kernel_rfl)
theorem lm48 : ∀ c, Try.f48.body = some c → LmOk E48 C48 Try.f48.ntmps c := lmOk_of (ps := [(0, L48_1)]) (by kernel_rfl) (by kernel_rfl) ⟨ek48_1, trivial⟩
noncomputable def m48 (a0 : (List T36)) (a1 : Int) : Option (Int) :=
  l48_1 a0 (fun y3 =>
      some y3) FUEL a1 0
noncomputable def e48 : PmE := entry 48 [(.sl G36), (.int .i64)] false (.int .i64) (fun x => m48 x.1 x.2.1)
theorem q48 (x : tyL [(.sl G36), (.int .i64)]) : execF E48 C48 Try.f48 (datL [(.sl G36), (.int .i64)] x) [] (retK false (.int .i64)) = m48 x.1 x.2.1 := by kernel_rfl
theorem p48 : PmOk Try.prog e48 := pm_ok (E := E48) ok48 ord lm48 Try.func48 ca48 q48

/-! 34: consol/consolref30.Right -/
theorem ca34 : callable Try.prog 34 := ⟨Try.f34, Try.func34, by kernel_rfl, by kernel_rfl⟩
noncomputable def E34 : Env := mkEnv2 Try.prog [e48] []
theorem ok34 : EnvOk E34 := mkEnv2_ok (by simp only [List.mem_cons, List.not_mem_nil, or_false, forall_eq]; exact p48) (by simp)
/-- a round of a loop of consol/consolref30.Right -/
noncomputable def s34_1 {R : Type} (t0 : (List T36)) (kn : Int → Option R) (k1 : Option R) (k2 : Option R) (t3 : Int) : Option R :=
  bif (decide (t3 < (List.length t0 : Int))) then
    (idx t0 t3).bind fun x1 =>
    bif ((((decide (x1.1 < (-1))) || (decide (x1.1 ≥ t3))) || (decide (x1.2.1 < (-1)))) || (decide (x1.2.1 ≥ 60))) then
      k2
    else
      kn (IntKind.i64.wrap (t3 + 1))
  else
    k1
noncomputable def l34_1 {R : Type} (t0 : (List T36)) (k1 : Option R) (k2 : Option R) : Nat → Int → Option R
  | 0, _ => none
  | n + 1, t3 => s34_1 t0 (l34_1 t0 k1 k2 n) k1 k2 t3
noncomputable def L34_1 : LE := ⟨3, 0, ⟨[(0, (.dat (.sl G36))), (3, (.dat (.int .i64)))], []⟩, fun R n x k => l34_1 x.1.1 (k (.exit 0) ⟨[(0, (.dat (.sl G36) x.1.1))], []⟩) (k .ret ⟨[(2, (.dat .bool false))], []⟩) n x.1.2.1⟩
/-- a round of a loop of consol/consolref30.Right -/
noncomputable def s34_2 {R : Type} (t0 : (List T36)) (kn : Int → Option R) (k1 : Option R) (k2 : Option R) (t5 : Int) : Option R :=
  bif (decide (t5 < (List.length t0 : Int))) then
    (m48 t0 t5).bind fun r2 =>
    bif (decide (r2 > 4)) then
      k2
    else
      kn (IntKind.i64.wrap (t5 + 1))
  else
    k1
noncomputable def l34_2 {R : Type} (t0 : (List T36)) (k1 : Option R) (k2 : Option R) : Nat → Int → Option R
  | 0, _ => none
  | n + 1, t5 => s34_2 t0 (l34_2 t0 k1 k2 n) k1 k2 t5
noncomputable def L34_2 : LE := ⟨9, 0, ⟨[(0, (.dat (.sl G36))), (5, (.dat (.int .i64)))], []⟩, fun R n x k => l34_2 x.1.1 (k (.exit 2) ⟨[(0, (.dat (.sl G36) x.1.1))], []⟩) (k .ret ⟨[(2, (.dat .bool false))], []⟩) n x.1.2.1⟩
noncomputable def C34 : Cfg := mkCfg [(3, ⟨[0, 3], []⟩), (9, ⟨[0, 5], []⟩)] [(3, (⟨[0], []⟩, ⟨[2], []⟩)), (9, (⟨[0], []⟩, ⟨[2], []⟩))] (([(0, L34_1), (1, L34_2)] : List (Nat × LE)).map (·.2))
theorem ek34_1 : EOk E34 C34 Try.f34.ntmps (bodyL Try.f34 0) L34_1 := eok_of (e := L34_1) (fun R x Kn k => s34_1 x.1.1 (fun v0 => Kn ((x.1.1, v0, ()), (()))) (k (.exit 0) ⟨[(0, (.dat (.sl G36) x.1.1))], []⟩) (k .ret ⟨[(2, (.dat .bool false))], []⟩) x.1.2.1) (fun _ _ _ => rfl) (fun _ _ _ _ => rfl) (fun R x Kn k => by kernel_rfl)
theorem ek34_2 : EOk E34 C34 Try.f34.ntmps (bodyL Try.f34 1) L34_2 := eok_of (e := L34_2) (fun R x Kn k => s34_2 x.1.1 (fun v0 => Kn ((x.1.1, v0, ()), (()))) (k (.exit 2) ⟨[(0, (.dat (.sl G36) x.1.1))], []⟩) (k .ret ⟨[(2, (.dat .bool false))], []⟩) x.1.2.1) (fun _ _ _ => rfl) (fun _ _ _ _ => rfl) (fun R x Kn k => by kernel_rfl)
theorem lm34 : ∀ c, Try.f34.body = some c → LmOk E34 C34 Try.f34.ntmps c := lmOk_of (ps := [(0, L34_1), (1, L34_2)]) (by kernel_rfl) (by kernel_rfl) ⟨ek34_1, ek34_2, trivial⟩
noncomputable def m34 (a0 : (List T36)) : Option (Bool) :=
  l34_1 a0 (
      l34_2 a0 (
          some (decide ((List.length a0 : Int) ≤ 20000))) (
          some false) FUEL 0) (
      some false) FUEL 0
noncomputable def e34 : PmE := entry 34 [(.sl G36)] false .bool (fun x => m34 x.1)
theorem q34 (x : tyL [(.sl G36)]) : execF E34 C34 Try.f34 (datL [(.sl G36)] x) [] (retK false .bool) = m34 x.1 := by kernel_rfl
theorem p34 : PmOk Try.prog e34 := pm_ok (E := E34) ok34 ord lm34 Try.func34 ca34 q34

/-! 51: consol/consolref30.is -/
theorem ca51 : callable Try.prog 51 := ⟨Try.f51, Try.func51, by kernel_rfl, by kernel_rfl⟩
noncomputable def E51 : Env := mkEnv2 Try.prog [e34] []
theorem ok51 : EnvOk E51 := mkEnv2_ok (by simp only [List.mem_cons, List.not_mem_nil, or_false, forall_eq]; exact p34) (by simp)
noncomputable def C51 : Cfg := noCfg
theorem lm51 : ∀ c, Try.f51.body = some c → LmOk E51 C51 Try.f51.ntmps c := fun _ _ => noCfg_lm
noncomputable def m51 (a0 : (List T36)) (a1 : Int) : Option (Bool) :=
  (bif (((decide (a1 ≥ 0)) && (decide (a1 < (List.length a0 : Int)))) == true) then (m34 a0) else some false).bind fun r1 =>
  some (((decide (a1 ≥ 0)) && (decide (a1 < (List.length a0 : Int)))) && r1)
noncomputable def e51 : PmE := entry 51 [(.sl G36), (.int .i64)] false .bool (fun x => m51 x.1 x.2.1)
theorem q51 (x : tyL [(.sl G36), (.int .i64)]) : execF E51 C51 Try.f51 (datL [(.sl G36), (.int .i64)] x) [] (retK false .bool) = m51 x.1 x.2.1 := by kernel_rfl
theorem p51 : PmOk Try.prog e51 := pm_ok (E := E51) ok51 ord lm51 Try.func51 ca51 q51

/-! 37: consol/consolref30.Leaf -/
theorem ca37 : callable Try.prog 37 := ⟨Try.f37, Try.func37, by kernel_rfl, by kernel_rfl⟩
noncomputable def E37 : Env := mkEnv2 Try.prog [e51] []
theorem ok37 : EnvOk E37 := mkEnv2_ok (by simp only [List.mem_cons, List.not_mem_nil, or_false, forall_eq]; exact p51) (by simp)
/-- a round of a loop of consol/consolref30.Leaf -/
noncomputable def s37_1 {R : Type} (t0 : (List T36)) (t1 : Int) (kn : Int → Option R) (k1 : Option R) (k2 : Option R) (t5 : Int) : Option R :=
  bif (decide (t5 < (List.length t0 : Int))) then
    (idx t0 t5).bind fun x2 =>
    bif (x2.1 == t1) then
      k2
    else
      kn (IntKind.i64.wrap (t5 + 1))
  else
    k1
noncomputable def l37_1 {R : Type} (t0 : (List T36)) (t1 : Int) (k1 : Option R) (k2 : Option R) : Nat → Int → Option R
  | 0, _ => none
  | n + 1, t5 => s37_1 t0 t1 (l37_1 t0 t1 k1 k2 n) k1 k2 t5
noncomputable def L37_1 : LE := ⟨5, 0, ⟨[(0, (.dat (.sl G36))), (1, (.dat (.int .i64))), (5, (.dat (.int .i64)))], []⟩, fun R n x k => l37_1 x.1.1 x.1.2.1 (k (.exit 0) ⟨[], []⟩) (k .ret ⟨[(4, (.dat .bool false))], []⟩) n x.1.2.2.1⟩
noncomputable def C37 : Cfg := mkCfg [(5, ⟨[0, 1, 5], []⟩)] [(5, (⟨[], []⟩, ⟨[4], []⟩))] (([(0, L37_1)] : List (Nat × LE)).map (·.2))
theorem ek37_1 : EOk E37 C37 Try.f37.ntmps (bodyL Try.f37 0) L37_1 := eok_of (e := L37_1) (fun R x Kn k => s37_1 x.1.1 x.1.2.1 (fun v0 => Kn ((x.1.1, x.1.2.1, v0, ()), (()))) (k (.exit 0) ⟨[], []⟩) (k .ret ⟨[(4, (.dat .bool false))], []⟩) x.1.2.2.1) (fun _ _ _ => rfl) (fun _ _ _ _ => rfl) (fun R x Kn k => by kernel_rfl)
theorem lm37 : ∀ c, Try.f37.body = some c → LmOk E37 C37 Try.f37.ntmps c := lmOk_of (ps := [(0, L37_1)]) (by kernel_rfl) (by kernel_rfl) ⟨ek37_1, trivial⟩
noncomputable def m37 (a0 : (List T36)) (a1 : Int) : Option (Bool) :=
  (m51 a0 a1).bind fun r1 =>
  bif (!r1) then
    some false
  else
    l37_1 a0 a1 (
        some true) (
        some false) FUEL 0
noncomputable def e37 : PmE := entry 37 [(.sl G36), (.int .i64)] false .bool (fun x => m37 x.1 x.2.1)
theorem q37 (x : tyL [(.sl G36), (.int .i64)]) : execF E37 C37 Try.f37 (datL [(.sl G36), (.int .i64)] x) [] (retK false .bool) = m37 x.1 x.2.1 := by kernel_rfl
theorem p37 : PmOk Try.prog e37 := pm_ok (E := E37) ok37 ord lm37 Try.func37 ca37 q37

/-! 19: consol/consolref30.Units -/
theorem ca19 : callable Try.prog 19 := ⟨Try.f19, Try.func19, by kernel_rfl, by kernel_rfl⟩
noncomputable def E19 : Env := mkEnv2 Try.prog [e34, e37] []
theorem ok19 : EnvOk E19 := mkEnv2_ok (by simp only [List.mem_cons, List.not_mem_nil, or_false, forall_eq_or_imp, forall_eq]; exact ⟨p34, p37⟩) (by simp)
/-- a round of a loop of consol/consolref30.Units -/
noncomputable def s19_1 {R : Type} (t0 : (List T36)) (t1 : (List Int)) (kn : Int → Int → Option R) (k1 : Int → Option R) (k2 : Option R) (t5 : Int) (t6 : Int) : Option R :=
  bif (decide (t6 < (List.length t1 : Int))) then
    (idx t1 t6).bind fun x2 =>
    (idxG ((decide (x2 < 0)) == false) 0 t1 t6).bind fun x3 =>
    (idxG (((decide (x2 < 0)) || (decide (x3 > 1000000000))) == false) 0 t1 t6).bind fun x4 =>
    (bif ((((decide (x2 < 0)) || (decide (x3 > 1000000000))) == false) && ((decide (x4 > 0)) == true)) then (m37 t0 t6) else some false).bind fun r5 =>
    bif (((decide (x2 < 0)) || (decide (x3 > 1000000000))) || ((decide (x4 > 0)) && (!r5))) then
      k2
    else
      (idx t1 t6).bind fun x6 =>
      kn (IntKind.i64.wrap (t5 + x6)) (IntKind.i64.wrap (t6 + 1))
  else
    k1 t5
noncomputable def l19_1 {R : Type} (t0 : (List T36)) (t1 : (List Int)) (k1 : Int → Option R) (k2 : Option R) : Nat → Int → Int → Option R
  | 0, _, _ => none
  | n + 1, t5, t6 => s19_1 t0 t1 (l19_1 t0 t1 k1 k2 n) k1 k2 t5 t6
noncomputable def L19_1 : LE := ⟨6, 0, ⟨[(0, (.dat (.sl G36))), (1, (.dat (.sl (.int .i64)))), (5, (.dat (.int .i64))), (6, (.dat (.int .i64)))], []⟩, fun R n x k => l19_1 x.1.1 x.1.2.1 (fun y0 => k (.exit 0) ⟨[(5, (.dat (.int .i64) y0))], []⟩) (k .ret ⟨[(4, (.dat .bool false))], []⟩) n x.1.2.2.1 x.1.2.2.2.1⟩
noncomputable def C19 : Cfg := mkCfg [(6, ⟨[0, 1, 5, 6], []⟩)] [(6, (⟨[5], []⟩, ⟨[4], []⟩))] (([(0, L19_1)] : List (Nat × LE)).map (·.2))
theorem ek19_1 : EOk E19 C19 Try.f19.ntmps (bodyL Try.f19 0) L19_1 := eok_of (e := L19_1) (fun R x Kn k => s19_1 x.1.1 x.1.2.1 (fun v0 v1 => Kn ((x.1.1, x.1.2.1, v0, v1, ()), (()))) (fun y0 => k (.exit 0) ⟨[(5, (.dat (.int .i64) y0))], []⟩) (k .ret ⟨[(4, (.dat .bool false))], []⟩) x.1.2.2.1 x.1.2.2.2.1) (fun _ _ _ => rfl) (fun _ _ _ _ => rfl) (fun R x Kn k => by kernel_rfl)
theorem lm19 : ∀ c, Try.f19.body = some c → LmOk E19 C19 Try.f19.ntmps c := lmOk_of (ps := [(0, L19_1)]) (by kernel_rfl) (by kernel_rfl) ⟨ek19_1, trivial⟩
noncomputable def m19 (a0 : (List T36)) (a1 : (List Int)) : Option (Bool) :=
  (m34 a0).bind fun r1 =>
  bif ((!r1) || ((List.length a1 : Int) != (List.length a0 : Int))) then
    some false
  else
    l19_1 a0 a1 (fun y7 =>
        some (decide (y7 ≤ 1000000000))) (
        some false) FUEL 0 0
noncomputable def e19 : PmE := entry 19 [(.sl G36), (.sl (.int .i64))] false .bool (fun x => m19 x.1 x.2.1)
theorem q19 (x : tyL [(.sl G36), (.sl (.int .i64))]) : execF E19 C19 Try.f19 (datL [(.sl G36), (.sl (.int .i64))] x) [] (retK false .bool) = m19 x.1 x.2.1 := by kernel_rfl
theorem p19 : PmOk Try.prog e19 := pm_ok (E := E19) ok19 ord lm19 Try.func19 ca19 q19

/-! 55: consol/consolref32.day -/
theorem ca55 : callable Try.prog 55 := ⟨Try.f55, Try.func55, by kernel_rfl, by kernel_rfl⟩
noncomputable def E55 : Env := mkEnv2 Try.prog [] []
theorem ok55 : EnvOk E55 := mkEnv2_ok (by simp) (by simp)
noncomputable def C55 : Cfg := noCfg
theorem lm55 : ∀ c, Try.f55.body = some c → LmOk E55 C55 Try.f55.ntmps c := fun _ _ => noCfg_lm
noncomputable def m55 (a0 : Int) : Option (Bool) :=
  some ((decide (a0 ≥ 0)) && (decide (a0 ≤ 200000)))
noncomputable def e55 : PmE := entry 55 [(.int .i64)] false .bool (fun x => m55 x.1)
theorem q55 (x : tyL [(.int .i64)]) : execF E55 C55 Try.f55 (datL [(.int .i64)] x) [] (retK false .bool) = m55 x.1 := by kernel_rfl
theorem p55 : PmOk Try.prog e55 := pm_ok (E := E55) ok55 ord lm55 Try.func55 ca55 q55

/-! 46: consol/consolref32.One -/
theorem ca46 : callable Try.prog 46 := ⟨Try.f46, Try.func46, by kernel_rfl, by kernel_rfl⟩
noncomputable def E46 : Env := mkEnv2 Try.prog [e37, e55] []
theorem ok46 : EnvOk E46 := mkEnv2_ok (by simp only [List.mem_cons, List.not_mem_nil, or_false, forall_eq_or_imp, forall_eq]; exact ⟨p37, p55⟩) (by simp)
noncomputable def C46 : Cfg := noCfg
theorem lm46 : ∀ c, Try.f46.body = some c → LmOk E46 C46 Try.f46.ntmps c := fun _ _ => noCfg_lm
noncomputable def m46 (a0 : (List T36)) (a1 : T45) : Option (Bool) :=
  (bif ((((decide (a1.1 < 0)) || (decide (a1.1 ≥ 2))) || (a1.2.1 == a1.2.2.1)) == false) then (m37 a0 a1.2.1) else some false).bind fun r1 =>
  (bif (((((decide (a1.1 < 0)) || (decide (a1.1 ≥ 2))) || (a1.2.1 == a1.2.2.1)) || (!r1)) == false) then (m37 a0 a1.2.2.1) else some false).bind fun r2 =>
  bif (((((((decide (a1.1 < 0)) || (decide (a1.1 ≥ 2))) || (a1.2.1 == a1.2.2.1)) || (!r1)) || (!r2)) || (decide (a1.2.2.2.1 < 1))) || (decide (a1.2.2.2.1 > 1000000000))) then
    some false
  else
    (m55 a1.2.2.2.2.1).bind fun r3 =>
    (bif ((!r3) == false) then (m55 a1.2.2.2.2.2.1) else some false).bind fun r4 =>
    (bif (((((!r3) || (!r4)) || (decide (a1.2.2.2.2.1 > a1.2.2.2.2.2.1))) == false) && ((a1.2.2.2.2.2.2.1 != (-1)) == true)) then (m55 a1.2.2.2.2.2.2.1) else some false).bind fun r5 =>
    bif ((((!r3) || (!r4)) || (decide (a1.2.2.2.2.1 > a1.2.2.2.2.2.1))) || ((a1.2.2.2.2.2.2.1 != (-1)) && ((!r5) || (decide (a1.2.2.2.2.2.2.1 < a1.2.2.2.2.2.1))))) then
      some false
    else
      bif (a1.1 == 0) then
        some (a1.2.2.2.2.2.2.2.1 == 0)
      else
        (m55 a1.2.2.2.2.2.2.2.1).bind fun r6 =>
        some (r6 && (decide (a1.2.2.2.2.2.2.2.1 > a1.2.2.2.2.2.1)))
noncomputable def e46 : PmE := entry 46 [(.sl G36), G45] false .bool (fun x => m46 x.1 x.2.1)
theorem q46 (x : tyL [(.sl G36), G45]) : execF E46 C46 Try.f46 (datL [(.sl G36), G45] x) [] (retK false .bool) = m46 x.1 x.2.1 := by kernel_rfl
theorem p46 : PmOk Try.prog e46 := pm_ok (E := E46) ok46 ord lm46 Try.func46 ca46 q46

/-! 31: consol/consolref32.Right -/
theorem ca31 : callable Try.prog 31 := ⟨Try.f31, Try.func31, by kernel_rfl, by kernel_rfl⟩
noncomputable def E31 : Env := mkEnv2 Try.prog [e34, e46] []
theorem ok31 : EnvOk E31 := mkEnv2_ok (by simp only [List.mem_cons, List.not_mem_nil, or_false, forall_eq_or_imp, forall_eq]; exact ⟨p34, p46⟩) (by simp)
/-- a round of a loop of consol/consolref32.Right -/
noncomputable def s31_1 {R : Type} (t0 : (List T36)) (t1 : (List T45)) (kn : Int → Option R) (k1 : Option R) (k2 : Option R) (t5 : Int) : Option R :=
  bif (decide (t5 < (List.length t1 : Int))) then
    (idx t1 t5).bind fun x2 =>
    (m46 t0 x2).bind fun r3 =>
    bif (!r3) then
      k2
    else
      kn (IntKind.i64.wrap (t5 + 1))
  else
    k1
noncomputable def l31_1 {R : Type} (t0 : (List T36)) (t1 : (List T45)) (k1 : Option R) (k2 : Option R) : Nat → Int → Option R
  | 0, _ => none
  | n + 1, t5 => s31_1 t0 t1 (l31_1 t0 t1 k1 k2 n) k1 k2 t5
noncomputable def L31_1 : LE := ⟨5, 0, ⟨[(0, (.dat (.sl G36))), (1, (.dat (.sl G45))), (5, (.dat (.int .i64)))], []⟩, fun R n x k => l31_1 x.1.1 x.1.2.1 (k (.exit 0) ⟨[], []⟩) (k .ret ⟨[(4, (.dat .bool false))], []⟩) n x.1.2.2.1⟩
noncomputable def C31 : Cfg := mkCfg [(5, ⟨[0, 1, 5], []⟩)] [(5, (⟨[], []⟩, ⟨[4], []⟩))] (([(0, L31_1)] : List (Nat × LE)).map (·.2))
theorem ek31_1 : EOk E31 C31 Try.f31.ntmps (bodyL Try.f31 0) L31_1 := eok_of (e := L31_1) (fun R x Kn k => s31_1 x.1.1 x.1.2.1 (fun v0 => Kn ((x.1.1, x.1.2.1, v0, ()), (()))) (k (.exit 0) ⟨[], []⟩) (k .ret ⟨[(4, (.dat .bool false))], []⟩) x.1.2.2.1) (fun _ _ _ => rfl) (fun _ _ _ _ => rfl) (fun R x Kn k => by kernel_rfl)
theorem lm31 : ∀ c, Try.f31.body = some c → LmOk E31 C31 Try.f31.ntmps c := lmOk_of (ps := [(0, L31_1)]) (by kernel_rfl) (by kernel_rfl) ⟨ek31_1, trivial⟩
noncomputable def m31 (a0 : (List T36)) (a1 : (List T45)) : Option (Bool) :=
  (m34 a0).bind fun r1 =>
  bif ((!r1) || (decide ((List.length a1 : Int) > 10000))) then
    some false
  else
    l31_1 a0 a1 (
        some true) (
        some false) FUEL 0
noncomputable def e31 : PmE := entry 31 [(.sl G36), (.sl G45)] false .bool (fun x => m31 x.1 x.2.1)
theorem q31 (x : tyL [(.sl G36), (.sl G45)]) : execF E31 C31 Try.f31 (datL [(.sl G36), (.sl G45)] x) [] (retK false .bool) = m31 x.1 x.2.1 := by kernel_rfl
theorem p31 : PmOk Try.prog e31 := pm_ok (E := E31) ok31 ord lm31 Try.func31 ca31 q31

/-! 23: consol/consolref33.Late -/
theorem ca23 : callable Try.prog 23 := ⟨Try.f23, Try.func23, by kernel_rfl, by kernel_rfl⟩
noncomputable def E23 : Env := mkEnv2 Try.prog [] []
theorem ok23 : EnvOk E23 := mkEnv2_ok (by simp) (by simp)
noncomputable def C23 : Cfg := noCfg
theorem lm23 : ∀ c, Try.f23.body = some c → LmOk E23 C23 Try.f23.ntmps c := fun _ _ => noCfg_lm
noncomputable def m23 (a0 : T45) (a1 : Int) : Option (Bool) :=
  some (((a0.1 == 0) && (decide (a0.2.2.2.2.2.1 ≤ a1))) && ((a0.2.2.2.2.2.2.1 == (-1)) || (decide (a0.2.2.2.2.2.2.1 > a1))))
noncomputable def e23 : PmE := entry 23 [G45, (.int .i64)] false .bool (fun x => m23 x.1 x.2.1)
theorem q23 (x : tyL [G45, (.int .i64)]) : execF E23 C23 Try.f23 (datL [G45, (.int .i64)] x) [] (retK false .bool) = m23 x.1 x.2.1 := by kernel_rfl
theorem p23 : PmOk Try.prog e23 := pm_ok (E := E23) ok23 ord lm23 Try.func23 ca23 q23

/-! 24: consol/consolref33.Runs -/
theorem ca24 : callable Try.prog 24 := ⟨Try.f24, Try.func24, by kernel_rfl, by kernel_rfl⟩
noncomputable def E24 : Env := mkEnv2 Try.prog [] []
theorem ok24 : EnvOk E24 := mkEnv2_ok (by simp) (by simp)
noncomputable def C24 : Cfg := noCfg
theorem lm24 : ∀ c, Try.f24.body = some c → LmOk E24 C24 Try.f24.ntmps c := fun _ _ => noCfg_lm
noncomputable def m24 (a0 : T45) (a1 : Int) : Option (Bool) :=
  some ((((a0.1 == 1) && (decide (a0.2.2.2.2.2.2.1 ≥ 0))) && (decide (a0.2.2.2.2.2.2.1 ≤ a1))) && (decide (a0.2.2.2.2.2.2.2.1 > a1)))
noncomputable def e24 : PmE := entry 24 [G45, (.int .i64)] false .bool (fun x => m24 x.1 x.2.1)
theorem q24 (x : tyL [G45, (.int .i64)]) : execF E24 C24 Try.f24 (datL [G45, (.int .i64)] x) [] (retK false .bool) = m24 x.1 x.2.1 := by kernel_rfl
theorem p24 : PmOk Try.prog e24 := pm_ok (E := E24) ok24 ord lm24 Try.func24 ca24 q24

/-! 32: consol/consolref33.For -/
theorem ca32 : callable Try.prog 32 := ⟨Try.f32, Try.func32, by kernel_rfl, by kernel_rfl⟩
noncomputable def E32 : Env := mkEnv2 Try.prog [e23, e24] []
theorem ok32 : EnvOk E32 := mkEnv2_ok (by simp only [List.mem_cons, List.not_mem_nil, or_false, forall_eq_or_imp, forall_eq]; exact ⟨p23, p24⟩) (by simp)
/-- a round of a loop of consol/consolref33.For -/
noncomputable def s32_1 {R : Type} (t1 : (List T45)) (t2 : Int) (t3 : Int) (kn : Int → Int → Option R) (k1 : Int → Option R) (t9 : Int) (t10 : Int) : Option R :=
  bif (decide (t10 < (List.length t1 : Int))) then
    cont (fun (k8 : Int → _) =>
      (idx t1 t10).bind fun x2 =>
      cont (fun (k5 : Int → _) =>
        (m23 x2 t2).bind fun r3 =>
        (bif ((r3 && (x2.2.1 == t3)) == false) then (m24 x2 t2) else some false).bind fun r4 =>
        bif ((r3 && (x2.2.1 == t3)) || (r4 && (x2.2.2.1 == t3))) then
          k5 (IntKind.i64.wrap (t9 - x2.2.2.2.1))
        else
          k5 t9) fun y5 =>
      (m23 x2 t2).bind fun r6 =>
      (bif ((r6 && (x2.2.2.1 == t3)) == false) then (m24 x2 t2) else some false).bind fun r7 =>
      bif ((r6 && (x2.2.2.1 == t3)) || (r7 && (x2.2.1 == t3))) then
        k8 (IntKind.i64.wrap (y5 + x2.2.2.2.1))
      else
        k8 y5) fun y8 =>
    kn y8 (IntKind.i64.wrap (t10 + 1))
  else
    k1 t9
noncomputable def l32_1 {R : Type} (t1 : (List T45)) (t2 : Int) (t3 : Int) (k1 : Int → Option R) : Nat → Int → Int → Option R
  | 0, _, _ => none
  | n + 1, t9, t10 => s32_1 t1 t2 t3 (l32_1 t1 t2 t3 k1 n) k1 t9 t10
noncomputable def L32_1 : LE := ⟨4, 0, ⟨[(1, (.dat (.sl G45))), (2, (.dat (.int .i64))), (3, (.dat (.int .i64))), (9, (.dat (.int .i64))), (10, (.dat (.int .i64)))], []⟩, fun R n x k => l32_1 x.1.1 x.1.2.1 x.1.2.2.1 (fun y0 => k (.exit 0) ⟨[(9, (.dat (.int .i64) y0))], []⟩) n x.1.2.2.2.1 x.1.2.2.2.2.1⟩
noncomputable def C32 : Cfg := mkCfg [(4, ⟨[1, 2, 3, 9, 10], []⟩), (5, ⟨[1, 2, 3, 9, 10], []⟩), (9, ⟨[1, 2, 3, 9, 10, 11], []⟩)] [(4, (⟨[9], []⟩, ⟨[8], []⟩))] (([(0, L32_1)] : List (Nat × LE)).map (·.2))
theorem ek32_1 : EOk E32 C32 Try.f32.ntmps (bodyL Try.f32 0) L32_1 := eok_of (e := L32_1) (fun R x Kn k => s32_1 x.1.1 x.1.2.1 x.1.2.2.1 (fun v0 v1 => Kn ((x.1.1, x.1.2.1, x.1.2.2.1, v0, v1, ()), (()))) (fun y0 => k (.exit 0) ⟨[(9, (.dat (.int .i64) y0))], []⟩) x.1.2.2.2.1 x.1.2.2.2.2.1) (fun _ _ _ => rfl) (fun _ _ _ _ => rfl) (fun R x Kn k => by kernel_rfl)
theorem lm32 : ∀ c, Try.f32.body = some c → LmOk E32 C32 Try.f32.ntmps c := lmOk_of (ps := [(0, L32_1)]) (by kernel_rfl) (by kernel_rfl) ⟨ek32_1, trivial⟩
noncomputable def m32 (a0 : (List Int)) (a1 : (List T45)) (a2 : Int) (a3 : Int) : Option (Int) :=
  (idx a0 a3).bind fun x1 =>
  l32_1 a1 a2 a3 (fun y9 =>
      some y9) FUEL x1 0
noncomputable def e32 : PmE := entry 32 [(.sl (.int .i64)), (.sl G45), (.int .i64), (.int .i64)] false (.int .i64) (fun x => m32 x.1 x.2.1 x.2.2.1 x.2.2.2.1)
theorem q32 (x : tyL [(.sl (.int .i64)), (.sl G45), (.int .i64), (.int .i64)]) : execF E32 C32 Try.f32 (datL [(.sl (.int .i64)), (.sl G45), (.int .i64), (.int .i64)] x) [] (retK false (.int .i64)) = m32 x.1 x.2.1 x.2.2.1 x.2.2.2.1 := by kernel_rfl
theorem p32 : PmOk Try.prog e32 := pm_ok (E := E32) ok32 ord lm32 Try.func32 ca32 q32

/-! 12: consol/consolref33.Paid -/
theorem ca12 : callable Try.prog 12 := ⟨Try.f12, Try.func12, by kernel_rfl, by kernel_rfl⟩
noncomputable def E12 : Env := mkEnv2 Try.prog [e19, e31, e32] []
theorem ok12 : EnvOk E12 := mkEnv2_ok (by simp only [List.mem_cons, List.not_mem_nil, or_false, forall_eq_or_imp, forall_eq]; exact ⟨p19, p31, p32⟩) (by simp)
/-- a round of a loop of consol/consolref33.Paid -/
noncomputable def s12_1 {R : Type} (t0 : (List T36)) (t1 : (List Int)) (t2 : (List T45)) (t3 : Int) (kn : Int → (List T36) → Option R) (k1 : (List T36) → Option R) (t11 : Int) (o0 : (List T36)) : Option R :=
  bif (decide (t11 < (List.length t0 : Int))) then
    cont (fun (k4 : (List T36) → _) =>
      (m32 t1 t2 t3 t11).bind fun r3 =>
      bif (r3 != 0) then
        asrt true (decide (List.length (α := T36) o0 + List.length (α := T36) [(t11, r3, ())] ≤ LIM)) (
          k4 (o0 ++ [(t11, r3, ())]))
      else
        k4 o0) fun y4 =>
    kn (IntKind.i64.wrap (t11 + 1)) y4
  else
    k1 o0
noncomputable def l12_1 {R : Type} (t0 : (List T36)) (t1 : (List Int)) (t2 : (List T45)) (t3 : Int) (k1 : (List T36) → Option R) : Nat → Int → (List T36) → Option R
  | 0, _, _ => none
  | n + 1, t11, o0 => s12_1 t0 t1 t2 t3 (l12_1 t0 t1 t2 t3 k1 n) k1 t11 o0
noncomputable def L12_1 : LE := ⟨6, 0, ⟨[(0, (.dat (.sl G36))), (1, (.dat (.sl (.int .i64)))), (2, (.dat (.sl G45))), (3, (.dat (.int .i64))), (10, (.own 0)), (11, (.dat (.int .i64)))], [(.arr G36)]⟩, fun R n x k => l12_1 x.1.1 x.1.2.1 x.1.2.2.1 x.1.2.2.2.1 (fun y0 => k (.exit 0) ⟨[(10, (.own 0))], [(.arr G36 y0)]⟩) n x.1.2.2.2.2.2.1 x.2.1⟩
noncomputable def C12 : Cfg := mkCfg [(6, ⟨[0, 1, 2, 3, 10, 11], [(10, [], G36)]⟩), (7, ⟨[0, 1, 2, 3, 10, 11], [(10, [], G36)]⟩)] [(6, (⟨[10], []⟩, ⟨[8, 9], []⟩))] (([(0, L12_1)] : List (Nat × LE)).map (·.2))
theorem ek12_1 : EOk E12 C12 Try.f12.ntmps (bodyL Try.f12 0) L12_1 := eok_of (e := L12_1) (fun R x Kn k => s12_1 x.1.1 x.1.2.1 x.1.2.2.1 x.1.2.2.2.1 (fun v0 v1 => Kn ((x.1.1, x.1.2.1, x.1.2.2.1, x.1.2.2.2.1, (), v0, ()), (v1, ()))) (fun y0 => k (.exit 0) ⟨[(10, (.own 0))], [(.arr G36 y0)]⟩) x.1.2.2.2.2.2.1 x.2.1) (fun _ _ _ => rfl) (fun _ _ _ _ => rfl) (fun R x Kn k => by kernel_rfl)
theorem lm12 : ∀ c, Try.f12.body = some c → LmOk E12 C12 Try.f12.ntmps c := lmOk_of (ps := [(0, L12_1)]) (by kernel_rfl) (by kernel_rfl) ⟨ek12_1, trivial⟩
noncomputable def m12 (a0 : (List T36)) (a1 : (List Int)) (a2 : (List T45)) (a3 : Int) : Option (((List T36) × (Int × Unit))) :=
  (m19 a0 a1).bind fun r1 =>
  (bif ((!r1) == false) then (m31 a0 a2) else some false).bind fun r2 =>
  bif ((((!r1) || (!r2)) || (decide (a3 < 0))) || (decide (a3 > 200000))) then
    some ([], 1, ())
  else
    l12_1 a0 a1 a2 a3 (fun y5 =>
        some (y5, 0, ())) FUEL 0 []
noncomputable def e12 : PmE := entry 12 [(.sl G36), (.sl (.int .i64)), (.sl G45), (.int .i64)] true (.cons (.sl G36) (.cons (.int .i64) .nil)) (fun x => m12 x.1 x.2.1 x.2.2.1 x.2.2.2.1)
theorem q12 (x : tyL [(.sl G36), (.sl (.int .i64)), (.sl G45), (.int .i64)]) : execF E12 C12 Try.f12 (datL [(.sl G36), (.sl (.int .i64)), (.sl G45), (.int .i64)] x) [] (retK true (.cons (.sl G36) (.cons (.int .i64) .nil))) = m12 x.1 x.2.1 x.2.2.1 x.2.2.2.1 := by kernel_rfl
theorem p12 : PmOk Try.prog e12 := pm_ok (E := E12) ok12 ord lm12 Try.func12 ca12 q12

noncomputable def cK12 : CmE := konE 12 [(.sl G36), (.sl (.int .i64)), (.sl G45), (.int .i64)] true (.cons (.sl G36) (.cons (.int .i64) .nil)) (fun x => m12 x.1 x.2.1 x.2.2.1 x.2.2.2.1)
theorem dK12 : CmOk Try.prog cK12 := kon_ok p12

/-! 14: consol/consolref33.Votes -/
theorem ca14 : callable Try.prog 14 := ⟨Try.f14, Try.func14, by kernel_rfl, by kernel_rfl⟩
noncomputable def E14 : Env := mkEnv2 Try.prog [e19] []
theorem ok14 : EnvOk E14 := mkEnv2_ok (by simp only [List.mem_cons, List.not_mem_nil, or_false, forall_eq]; exact p19) (by simp)
/-- a round of a loop of consol/consolref33.Votes -/
noncomputable def s14_1 {R : Type} (t0 : (List T36)) (t1 : (List Int)) (t2 : Int) (kn : Int → (List T36) → Option R) (k1 : (List T36) → Option R) (t9 : Int) (o0 : (List T36)) : Option R :=
  bif (decide (t9 < (List.length t0 : Int))) then
    cont (fun (k6 : (List T36) → _) =>
      (idx t1 t9).bind fun x2 =>
      (idxG ((decide (x2 > 0)) == true) (0, 0, ()) t0 t9).bind fun x3 =>
      (idxG (((decide (x2 > 0)) == true) && ((x3.2.1 == (-1)) == false)) (0, 0, ()) t0 t9).bind fun x4 =>
      bif ((decide (x2 > 0)) && ((x3.2.1 == (-1)) || (x4.2.1 != t2))) then
        (idx t1 t9).bind fun x5 =>
        asrt true (decide (List.length (α := T36) o0 + List.length (α := T36) [(t9, x5, ())] ≤ LIM)) (
          k6 (o0 ++ [(t9, x5, ())]))
      else
        k6 o0) fun y6 =>
    kn (IntKind.i64.wrap (t9 + 1)) y6
  else
    k1 o0
noncomputable def l14_1 {R : Type} (t0 : (List T36)) (t1 : (List Int)) (t2 : Int) (k1 : (List T36) → Option R) : Nat → Int → (List T36) → Option R
  | 0, _, _ => none
  | n + 1, t9, o0 => s14_1 t0 t1 t2 (l14_1 t0 t1 t2 k1 n) k1 t9 o0
noncomputable def L14_1 : LE := ⟨6, 0, ⟨[(0, (.dat (.sl G36))), (1, (.dat (.sl (.int .i64)))), (2, (.dat (.int .i64))), (8, (.own 0)), (9, (.dat (.int .i64)))], [(.arr G36)]⟩, fun R n x k => l14_1 x.1.1 x.1.2.1 x.1.2.2.1 (fun y0 => k (.exit 0) ⟨[(8, (.own 0))], [(.arr G36 y0)]⟩) n x.1.2.2.2.2.1 x.2.1⟩
noncomputable def C14 : Cfg := mkCfg [(6, ⟨[0, 1, 2, 8, 9], [(8, [], G36)]⟩), (7, ⟨[0, 1, 2, 8, 9], [(8, [], G36)]⟩)] [(6, (⟨[8], []⟩, ⟨[6, 7], []⟩))] (([(0, L14_1)] : List (Nat × LE)).map (·.2))
theorem ek14_1 : EOk E14 C14 Try.f14.ntmps (bodyL Try.f14 0) L14_1 := eok_of (e := L14_1) (fun R x Kn k => s14_1 x.1.1 x.1.2.1 x.1.2.2.1 (fun v0 v1 => Kn ((x.1.1, x.1.2.1, x.1.2.2.1, (), v0, ()), (v1, ()))) (fun y0 => k (.exit 0) ⟨[(8, (.own 0))], [(.arr G36 y0)]⟩) x.1.2.2.2.2.1 x.2.1) (fun _ _ _ => rfl) (fun _ _ _ _ => rfl) (fun R x Kn k => by kernel_rfl)
theorem lm14 : ∀ c, Try.f14.body = some c → LmOk E14 C14 Try.f14.ntmps c := lmOk_of (ps := [(0, L14_1)]) (by kernel_rfl) (by kernel_rfl) ⟨ek14_1, trivial⟩
noncomputable def m14 (a0 : (List T36)) (a1 : (List Int)) (a2 : Int) : Option (((List T36) × (Int × Unit))) :=
  (m19 a0 a1).bind fun r1 =>
  bif (((!r1) || (decide (a2 < (-1)))) || (decide (a2 > 59))) then
    some ([], 1, ())
  else
    l14_1 a0 a1 a2 (fun y7 =>
        some (y7, 0, ())) FUEL 0 []
noncomputable def e14 : PmE := entry 14 [(.sl G36), (.sl (.int .i64)), (.int .i64)] true (.cons (.sl G36) (.cons (.int .i64) .nil)) (fun x => m14 x.1 x.2.1 x.2.2.1)
theorem q14 (x : tyL [(.sl G36), (.sl (.int .i64)), (.int .i64)]) : execF E14 C14 Try.f14 (datL [(.sl G36), (.sl (.int .i64)), (.int .i64)] x) [] (retK true (.cons (.sl G36) (.cons (.int .i64) .nil))) = m14 x.1 x.2.1 x.2.2.1 := by kernel_rfl
theorem p14 : PmOk Try.prog e14 := pm_ok (E := E14) ok14 ord lm14 Try.func14 ca14 q14

noncomputable def cK14 : CmE := konE 14 [(.sl G36), (.sl (.int .i64)), (.int .i64)] true (.cons (.sl G36) (.cons (.int .i64) .nil)) (fun x => m14 x.1 x.2.1 x.2.2.1)
theorem dK14 : CmOk Try.prog cK14 := kon_ok p14

/-! 35: consol/consolref30.Below -/
theorem ca35 : callable Try.prog 35 := ⟨Try.f35, Try.func35, by kernel_rfl, by kernel_rfl⟩
noncomputable def E35 : Env := mkEnv2 Try.prog [] []
theorem ok35 : EnvOk E35 := mkEnv2_ok (by simp) (by simp)
/-- a round of a loop of consol/consolref30.Below -/
noncomputable def s35_1 {R : Type} (t0 : (List T36)) (t2 : Int) (kn : Int → Option R) (k1 : Int → Option R) (t1 : Int) : Option R :=
  (idxG ((t1 != t2) == true) (0, 0, ()) t0 t1).bind fun x1 =>
  bif ((t1 != t2) && (decide (x1.1 ≥ 0))) then
    (idx t0 t1).bind fun x2 =>
    kn x2.1
  else
    k1 t1
noncomputable def l35_1 {R : Type} (t0 : (List T36)) (t2 : Int) (k1 : Int → Option R) : Nat → Int → Option R
  | 0, _ => none
  | n + 1, t1 => s35_1 t0 t2 (l35_1 t0 t2 k1 n) k1 t1
noncomputable def L35_1 : LE := ⟨2, 0, ⟨[(0, (.dat (.sl G36))), (1, (.dat (.int .i64))), (2, (.dat (.int .i64)))], []⟩, fun R n x k => l35_1 x.1.1 x.1.2.2.1 (fun y0 => k (.exit 0) ⟨[(1, (.dat (.int .i64) y0)), (2, (.dat (.int .i64) x.1.2.2.1))], []⟩) n x.1.2.1⟩
noncomputable def C35 : Cfg := mkCfg [(2, ⟨[0, 1, 2], []⟩)] [(2, (⟨[1, 2], []⟩, ⟨[6], []⟩))] (([(0, L35_1)] : List (Nat × LE)).map (·.2))
theorem ek35_1 : EOk E35 C35 Try.f35.ntmps (bodyL Try.f35 0) L35_1 := eok_of (e := L35_1) (fun R x Kn k => s35_1 x.1.1 x.1.2.2.1 (fun v0 => Kn ((x.1.1, v0, x.1.2.2.1, ()), (()))) (fun y0 => k (.exit 0) ⟨[(1, (.dat (.int .i64) y0)), (2, (.dat (.int .i64) x.1.2.2.1))], []⟩) x.1.2.1) (fun _ _ _ => rfl) (fun _ _ _ _ => rfl) (fun R x Kn k => by kernel_rfl)
theorem lm35 : ∀ c, Try.f35.body = some c → LmOk E35 C35 Try.f35.ntmps c := lmOk_of (ps := [(0, L35_1)]) (by kernel_rfl) (by kernel_rfl) ⟨ek35_1, trivial⟩
noncomputable def m35 (a0 : (List T36)) (a1 : Int) (a2 : Int) : Option (Bool) :=
  l35_1 a0 a2 (fun y3 =>
      some (y3 == a2)) FUEL a1
noncomputable def e35 : PmE := entry 35 [(.sl G36), (.int .i64), (.int .i64)] false .bool (fun x => m35 x.1 x.2.1 x.2.2.1)
theorem q35 (x : tyL [(.sl G36), (.int .i64), (.int .i64)]) : execF E35 C35 Try.f35 (datL [(.sl G36), (.int .i64), (.int .i64)] x) [] (retK false .bool) = m35 x.1 x.2.1 x.2.2.1 := by kernel_rfl
theorem p35 : PmOk Try.prog e35 := pm_ok (E := E35) ok35 ord lm35 Try.func35 ca35 q35

/-! 17: consol/consolref33.Through -/
theorem ca17 : callable Try.prog 17 := ⟨Try.f17, Try.func17, by kernel_rfl, by kernel_rfl⟩
noncomputable def E17 : Env := mkEnv2 Try.prog [e34, e35] []
theorem ok17 : EnvOk E17 := mkEnv2_ok (by simp only [List.mem_cons, List.not_mem_nil, or_false, forall_eq_or_imp, forall_eq]; exact ⟨p34, p35⟩) (by simp)
/-- a round of a loop of consol/consolref33.Through -/
noncomputable def s17_1 {R : Type} (t0 : (List T36)) (t1 : (List T36)) (t2 : Int) (kn : Int → Int → Option R) (k1 : Int → Option R) (t7 : Int) (t8 : Int) : Option R :=
  bif (decide (t8 < (List.length t1 : Int))) then
    cont (fun (k7 : Int → _) =>
      (idx t1 t8).bind fun x2 =>
      (idxG ((decide (x2.1 ≥ 0)) == true) (0, 0, ()) t1 t8).bind fun x3 =>
      bif ((decide (x2.1 ≥ 0)) && (decide (x3.1 < (List.length t0 : Int)))) then
        (idx t1 t8).bind fun x4 =>
        (m35 t0 x4.1 t2).bind fun r5 =>
        bif r5 then
          (idx t1 t8).bind fun x6 =>
          k7 (IntKind.i64.wrap (t7 + x6.2.1))
        else
          k7 t7
      else
        k7 t7) fun y7 =>
    kn y7 (IntKind.i64.wrap (t8 + 1))
  else
    k1 t7
noncomputable def l17_1 {R : Type} (t0 : (List T36)) (t1 : (List T36)) (t2 : Int) (k1 : Int → Option R) : Nat → Int → Int → Option R
  | 0, _, _ => none
  | n + 1, t7, t8 => s17_1 t0 t1 t2 (l17_1 t0 t1 t2 k1 n) k1 t7 t8
noncomputable def L17_1 : LE := ⟨6, 0, ⟨[(0, (.dat (.sl G36))), (1, (.dat (.sl G36))), (2, (.dat (.int .i64))), (7, (.dat (.int .i64))), (8, (.dat (.int .i64)))], []⟩, fun R n x k => l17_1 x.1.1 x.1.2.1 x.1.2.2.1 (fun y0 => k (.exit 0) ⟨[(7, (.dat (.int .i64) y0))], []⟩) n x.1.2.2.2.1 x.1.2.2.2.2.1⟩
noncomputable def C17 : Cfg := mkCfg [(6, ⟨[0, 1, 2, 7, 8], []⟩), (7, ⟨[0, 1, 2, 7, 8], []⟩)] [(6, (⟨[7], []⟩, ⟨[6], []⟩))] (([(0, L17_1)] : List (Nat × LE)).map (·.2))
theorem ek17_1 : EOk E17 C17 Try.f17.ntmps (bodyL Try.f17 0) L17_1 := eok_of (e := L17_1) (fun R x Kn k => s17_1 x.1.1 x.1.2.1 x.1.2.2.1 (fun v0 v1 => Kn ((x.1.1, x.1.2.1, x.1.2.2.1, v0, v1, ()), (()))) (fun y0 => k (.exit 0) ⟨[(7, (.dat (.int .i64) y0))], []⟩) x.1.2.2.2.1 x.1.2.2.2.2.1) (fun _ _ _ => rfl) (fun _ _ _ _ => rfl) (fun R x Kn k => by kernel_rfl)
theorem lm17 : ∀ c, Try.f17.body = some c → LmOk E17 C17 Try.f17.ntmps c := lmOk_of (ps := [(0, L17_1)]) (by kernel_rfl) (by kernel_rfl) ⟨ek17_1, trivial⟩
noncomputable def m17 (a0 : (List T36)) (a1 : (List T36)) (a2 : Int) : Option (Int) :=
  (m34 a0).bind fun r1 =>
  bif (((!r1) || (decide (a2 < 0))) || (decide (a2 ≥ (List.length a0 : Int)))) then
    some 0
  else
    l17_1 a0 a1 a2 (fun y8 =>
        some y8) FUEL 0 0
noncomputable def e17 : PmE := entry 17 [(.sl G36), (.sl G36), (.int .i64)] false (.int .i64) (fun x => m17 x.1 x.2.1 x.2.2.1)
theorem q17 (x : tyL [(.sl G36), (.sl G36), (.int .i64)]) : execF E17 C17 Try.f17 (datL [(.sl G36), (.sl G36), (.int .i64)] x) [] (retK false (.int .i64)) = m17 x.1 x.2.1 x.2.2.1 := by kernel_rfl
theorem p17 : PmOk Try.prog e17 := pm_ok (E := E17) ok17 ord lm17 Try.func17 ca17 q17

/-! 3: consol/consollaw33.EntitleTells -/
theorem ca3 : callable Try.prog 3 := ⟨Try.f3, Try.func3, by kernel_rfl, by kernel_rfl⟩
noncomputable def E3 : Env := mkEnv2 Try.prog [e8, e9, e10, e11, e12, e13, e14, e15, e16, e17] []
theorem ok3 : EnvOk E3 := mkEnv2_ok (by simp only [List.mem_cons, List.not_mem_nil, or_false, forall_eq_or_imp, forall_eq]; exact ⟨p8, p9, p10, p11, p12, p13, p14, p15, p16, p17⟩) (by simp)
noncomputable def C3 : Cfg := noCfg
theorem lm3 : ∀ c, Try.f3.body = some c → LmOk E3 C3 Try.f3.ntmps c := fun _ _ => noCfg_lm
noncomputable def m3 (a0 : (List T36)) (a1 : (List Int)) (a2 : (List T45)) (a3 : Int) (a4 : Int) (a5 : (List T36)) (a6 : Int) : Option (Bool) :=
  (m8).bind fun r1 =>
  (m9 a0 a1 a2).bind fun r2 =>
  (bif ((!r2) == false) then (m10 a5) else some false).bind fun r3 =>
  bif ((!r2) || (!r3)) then
    some r1
  else
    (m11 a0 a1 a2 a3).bind fun r4 =>
    (m12 a0 a1 a2 a3).bind fun r5 =>
    (m13 a0 a1 a4).bind fun r6 =>
    (m14 a0 a1 a4).bind fun r7 =>
    (bif (((r1 && (r4.2.1 == r5.2.1)) && (r6.2.1 == r7.2.1)) == true) then (m15 r4.1 r5.1) else some false).bind fun r8 =>
    (bif ((((r1 && (r4.2.1 == r5.2.1)) && (r6.2.1 == r7.2.1)) && r8) == true) then (m15 r6.1 r7.1) else some false).bind fun r9 =>
    (bif (((((r1 && (r4.2.1 == r5.2.1)) && (r6.2.1 == r7.2.1)) && r8) && r9) == true) then (m16 a0 a5 a6) else some 0).bind fun r10 =>
    (bif (((((r1 && (r4.2.1 == r5.2.1)) && (r6.2.1 == r7.2.1)) && r8) && r9) == true) then (m17 a0 a5 a6) else some 0).bind fun r11 =>
    some (((((r1 && (r4.2.1 == r5.2.1)) && (r6.2.1 == r7.2.1)) && r8) && r9) && (r10 == r11))
noncomputable def e3 : PmE := entry 3 [(.sl G36), (.sl (.int .i64)), (.sl G45), (.int .i64), (.int .i64), (.sl G36), (.int .i64)] false .bool (fun x => m3 x.1 x.2.1 x.2.2.1 x.2.2.2.1 x.2.2.2.2.1 x.2.2.2.2.2.1 x.2.2.2.2.2.2.1)
theorem q3 (x : tyL [(.sl G36), (.sl (.int .i64)), (.sl G45), (.int .i64), (.int .i64), (.sl G36), (.int .i64)]) : execF E3 C3 Try.f3 (datL [(.sl G36), (.sl (.int .i64)), (.sl G45), (.int .i64), (.int .i64), (.sl G36), (.int .i64)] x) [] (retK false .bool) = m3 x.1 x.2.1 x.2.2.1 x.2.2.2.1 x.2.2.2.2.1 x.2.2.2.2.2.1 x.2.2.2.2.2.2.1 := by kernel_rfl
theorem p3 : PmOk Try.prog e3 := pm_ok (E := E3) ok3 ord lm3 Try.func3 ca3 q3

/-! 4: consol/consollaw33.EntitleOnce -/
theorem ca4 : callable Try.prog 4 := ⟨Try.f4, Try.func4, by kernel_rfl, by kernel_rfl⟩
noncomputable def E4 : Env := mkEnv2 Try.prog [e8, e9, e11, e16, e18] []
theorem ok4 : EnvOk E4 := mkEnv2_ok (by simp only [List.mem_cons, List.not_mem_nil, or_false, forall_eq_or_imp, forall_eq]; exact ⟨p8, p9, p11, p16, p18⟩) (by simp)
/-- a round of a loop of consol/consollaw33.EntitleOnce -/
noncomputable def s4_1 {R : Type} (t1 : (List Int)) (kn : Int → Int → Option R) (k1 : Int → Option R) (t13 : Int) (t14 : Int) : Option R :=
  bif (decide (t14 < (List.length t1 : Int))) then
    (idx t1 t14).bind fun x4 =>
    kn (IntKind.i64.wrap (t13 + x4)) (IntKind.i64.wrap (t14 + 1))
  else
    k1 t13
noncomputable def l4_1 {R : Type} (t1 : (List Int)) (k1 : Int → Option R) : Nat → Int → Int → Option R
  | 0, _, _ => none
  | n + 1, t13, t14 => s4_1 t1 (l4_1 t1 k1 n) k1 t13 t14
noncomputable def L4_1 : LE := ⟨11, 0, ⟨[(0, (.dat (.sl G36))), (1, (.dat (.sl (.int .i64)))), (9, (.dat .bool)), (10, (.dat (.sl G36))), (12, (.dat (.int .i64))), (13, (.dat (.int .i64))), (14, (.dat (.int .i64)))], []⟩, fun R n x k => l4_1 x.1.2.1 (fun y0 => k (.exit 0) ⟨[(0, (.dat (.sl G36) x.1.1)), (9, (.dat .bool x.1.2.2.1)), (10, (.dat (.sl G36) x.1.2.2.2.1)), (12, (.dat (.int .i64) x.1.2.2.2.2.1)), (13, (.dat (.int .i64) y0))], []⟩) n x.1.2.2.2.2.2.1 x.1.2.2.2.2.2.2.1⟩
/-- a round of a loop of consol/consollaw33.EntitleOnce -/
noncomputable def s4_2 {R : Type} (t0 : (List T36)) (t10 : (List T36)) (kn : Int → Int → Option R) (k1 : Int → Option R) (k2 : Option R) (t12 : Int) (t15 : Int) : Option R :=
  bif (decide (t15 < (List.length t10 : Int))) then
    (idx t10 t15).bind fun x6 =>
    (idx t10 t15).bind fun x7 =>
    (idxG ((x7.2.1 == 0) == false) (0, 0, ()) t10 t15).bind fun x8 =>
    (bif ((x7.2.1 == 0) == false) then (m18 t0 x8.1) else some false).bind fun r9 =>
    (idxG ((((x7.2.1 == 0) || (!r9)) == false) && ((decide (t15 > 0)) == true)) (0, 0, ()) t10 t15).bind fun x10 =>
    (idxG ((((x7.2.1 == 0) || (!r9)) == false) && ((decide (t15 > 0)) == true)) (0, 0, ()) t10 (bif decide (0 > (IntKind.i64.wrap (t15 - 1))) then 0 else (IntKind.i64.wrap (t15 - 1)))).bind fun x11 =>
    bif (((x7.2.1 == 0) || (!r9)) || ((decide (t15 > 0)) && (decide (x10.1 ≤ x11.1)))) then
      k2
    else
      kn (IntKind.i64.wrap (t12 + x6.2.1)) (IntKind.i64.wrap (t15 + 1))
  else
    k1 t12
noncomputable def l4_2 {R : Type} (t0 : (List T36)) (t10 : (List T36)) (k1 : Int → Option R) (k2 : Option R) : Nat → Int → Int → Option R
  | 0, _, _ => none
  | n + 1, t12, t15 => s4_2 t0 t10 (l4_2 t0 t10 k1 k2 n) k1 k2 t12 t15
noncomputable def L4_2 : LE := ⟨15, 0, ⟨[(0, (.dat (.sl G36))), (9, (.dat .bool)), (10, (.dat (.sl G36))), (12, (.dat (.int .i64))), (13, (.dat (.int .i64))), (15, (.dat (.int .i64)))], []⟩, fun R n x k => l4_2 x.1.1 x.1.2.2.1 (fun y0 => k (.exit 2) ⟨[(0, (.dat (.sl G36) x.1.1)), (9, (.dat .bool x.1.2.1)), (10, (.dat (.sl G36) x.1.2.2.1)), (12, (.dat (.int .i64) y0)), (13, (.dat (.int .i64) x.1.2.2.2.2.1))], []⟩) (k .ret ⟨[(8, (.dat .bool false))], []⟩) n x.1.2.2.2.1 x.1.2.2.2.2.2.1⟩
/-- a round of a loop of consol/consollaw33.EntitleOnce -/
noncomputable def s4_3 {R : Type} (t0 : (List T36)) (t10 : (List T36)) (t17 : Int) (kn : Int → Bool → Int → Option R) (k1 : Int → Bool → Option R) (t19 : Int) (t20 : Bool) (t21 : Int) : Option R :=
  bif (decide (t21 < (List.length t0 : Int))) then
    cont (fun (k18 : (Int × Bool) → _) =>
      (idx t0 t21).bind fun x16 =>
      bif (x16.1 == t17) then
        (m16 t0 t10 t21).bind fun r17 =>
        k18 ((IntKind.i64.wrap (t19 + r17)), false)
      else
        k18 (t19, t20)) fun y18 =>
    kn y18.1 y18.2 (IntKind.i64.wrap (t21 + 1))
  else
    k1 t19 t20
noncomputable def l4_3 {R : Type} (t0 : (List T36)) (t10 : (List T36)) (t17 : Int) (k1 : Int → Bool → Option R) : Nat → Int → Bool → Int → Option R
  | 0, _, _, _ => none
  | n + 1, t19, t20, t21 => s4_3 t0 t10 t17 (l4_3 t0 t10 t17 k1 n) k1 t19 t20 t21
noncomputable def L4_3 : LE := ⟨30, 0, ⟨[(0, (.dat (.sl G36))), (9, (.dat .bool)), (10, (.dat (.sl G36))), (12, (.dat (.int .i64))), (13, (.dat (.int .i64))), (16, (.dat (.int .i64))), (17, (.dat (.int .i64))), (18, (.dat (.int .i64))), (19, (.dat (.int .i64))), (20, (.dat .bool)), (21, (.dat (.int .i64)))], []⟩, fun R n x k => l4_3 x.1.1 x.1.2.2.1 x.1.2.2.2.2.2.2.1 (fun y0 y1 => k (.exit 6) ⟨[(0, (.dat (.sl G36) x.1.1)), (9, (.dat .bool x.1.2.1)), (10, (.dat (.sl G36) x.1.2.2.1)), (12, (.dat (.int .i64) x.1.2.2.2.1)), (13, (.dat (.int .i64) x.1.2.2.2.2.1)), (16, (.dat (.int .i64) x.1.2.2.2.2.2.1)), (17, (.dat (.int .i64) x.1.2.2.2.2.2.2.1)), (18, (.dat (.int .i64) x.1.2.2.2.2.2.2.2.1)), (19, (.dat (.int .i64) y0)), (20, (.dat .bool y1))], []⟩) n x.1.2.2.2.2.2.2.2.2.1 x.1.2.2.2.2.2.2.2.2.2.1 x.1.2.2.2.2.2.2.2.2.2.2.1⟩
/-- a round of a loop of consol/consollaw33.EntitleOnce -/
noncomputable def s4_4 {R : Type} (t0 : (List T36)) (t10 : (List T36)) (kn : Int → Int → Option R) (k1 : Int → Option R) (k2 : Option R) (t16 : Int) (t17 : Int) : Option R :=
  bif (decide (t17 < (List.length t0 : Int))) then
    (m16 t0 t10 t17).bind fun r13 =>
    cont (fun (k15 : Int → _) =>
      (idx t0 t17).bind fun x14 =>
      bif (decide (x14.1 < 0)) then
        k15 (IntKind.i64.wrap (t16 + r13))
      else
        k15 t16) fun y15 =>
    l4_3 t0 t10 t17 (fun y19 y20 =>
        bif ((!y20) && (y19 != r13)) then
          k2
        else
          kn y15 (IntKind.i64.wrap (t17 + 1))) FUEL 0 true 0
  else
    k1 t16
noncomputable def l4_4 {R : Type} (t0 : (List T36)) (t10 : (List T36)) (k1 : Int → Option R) (k2 : Option R) : Nat → Int → Int → Option R
  | 0, _, _ => none
  | n + 1, t16, t17 => s4_4 t0 t10 (l4_4 t0 t10 k1 k2 n) k1 k2 t16 t17
noncomputable def L4_4 : LE := ⟨22, 0, ⟨[(0, (.dat (.sl G36))), (9, (.dat .bool)), (10, (.dat (.sl G36))), (12, (.dat (.int .i64))), (13, (.dat (.int .i64))), (16, (.dat (.int .i64))), (17, (.dat (.int .i64)))], []⟩, fun R n x k => l4_4 x.1.1 x.1.2.2.1 (fun y0 => k (.exit 4) ⟨[(9, (.dat .bool x.1.2.1)), (12, (.dat (.int .i64) x.1.2.2.2.1)), (13, (.dat (.int .i64) x.1.2.2.2.2.1)), (16, (.dat (.int .i64) y0))], []⟩) (k .ret ⟨[(8, (.dat .bool false))], []⟩) n x.1.2.2.2.2.2.1 x.1.2.2.2.2.2.2.1⟩
noncomputable def C4 : Cfg := mkCfg [(11, ⟨[0, 1, 9, 10, 12, 13, 14], []⟩), (15, ⟨[0, 9, 10, 12, 13, 15], []⟩), (22, ⟨[0, 9, 10, 12, 13, 16, 17], []⟩), (23, ⟨[0, 9, 10, 12, 13, 16, 17], []⟩), (27, ⟨[0, 9, 10, 12, 13, 16, 17, 18], []⟩), (30, ⟨[0, 9, 10, 12, 13, 16, 17, 18, 19, 20, 21], []⟩), (31, ⟨[0, 9, 10, 12, 13, 16, 17, 18, 19, 20, 21], []⟩)] [(11, (⟨[0, 9, 10, 12, 13], []⟩, ⟨[8], []⟩)), (15, (⟨[0, 9, 10, 12, 13], []⟩, ⟨[8], []⟩)), (22, (⟨[9, 12, 13, 16], []⟩, ⟨[8], []⟩)), (30, (⟨[0, 9, 10, 12, 13, 16, 17, 18, 19, 20], []⟩, ⟨[8], []⟩))] (([(0, L4_1), (1, L4_2), (3, L4_3), (2, L4_4)] : List (Nat × LE)).map (·.2))
theorem ek4_1 : EOk E4 C4 Try.f4.ntmps (bodyL Try.f4 0) L4_1 := eok_of (e := L4_1) (fun R x Kn k => s4_1 x.1.2.1 (fun v0 v1 => Kn ((x.1.1, x.1.2.1, x.1.2.2.1, x.1.2.2.2.1, x.1.2.2.2.2.1, v0, v1, ()), (()))) (fun y0 => k (.exit 0) ⟨[(0, (.dat (.sl G36) x.1.1)), (9, (.dat .bool x.1.2.2.1)), (10, (.dat (.sl G36) x.1.2.2.2.1)), (12, (.dat (.int .i64) x.1.2.2.2.2.1)), (13, (.dat (.int .i64) y0))], []⟩) x.1.2.2.2.2.2.1 x.1.2.2.2.2.2.2.1) (fun _ _ _ => rfl) (fun _ _ _ _ => rfl) (fun R x Kn k => by kernel_rfl)
theorem ek4_2 : EOk E4 C4 Try.f4.ntmps (bodyL Try.f4 1) L4_2 := eok_of (e := L4_2) (fun R x Kn k => s4_2 x.1.1 x.1.2.2.1 (fun v0 v1 => Kn ((x.1.1, x.1.2.1, x.1.2.2.1, v0, x.1.2.2.2.2.1, v1, ()), (()))) (fun y0 => k (.exit 2) ⟨[(0, (.dat (.sl G36) x.1.1)), (9, (.dat .bool x.1.2.1)), (10, (.dat (.sl G36) x.1.2.2.1)), (12, (.dat (.int .i64) y0)), (13, (.dat (.int .i64) x.1.2.2.2.2.1))], []⟩) (k .ret ⟨[(8, (.dat .bool false))], []⟩) x.1.2.2.2.1 x.1.2.2.2.2.2.1) (fun _ _ _ => rfl) (fun _ _ _ _ => rfl) (fun R x Kn k => by kernel_rfl)
theorem ek4_3 : EOk E4 C4 Try.f4.ntmps (bodyL Try.f4 3) L4_3 := eok_of (e := L4_3) (fun R x Kn k => s4_3 x.1.1 x.1.2.2.1 x.1.2.2.2.2.2.2.1 (fun v0 v1 v2 => Kn ((x.1.1, x.1.2.1, x.1.2.2.1, x.1.2.2.2.1, x.1.2.2.2.2.1, x.1.2.2.2.2.2.1, x.1.2.2.2.2.2.2.1, x.1.2.2.2.2.2.2.2.1, v0, v1, v2, ()), (()))) (fun y0 y1 => k (.exit 6) ⟨[(0, (.dat (.sl G36) x.1.1)), (9, (.dat .bool x.1.2.1)), (10, (.dat (.sl G36) x.1.2.2.1)), (12, (.dat (.int .i64) x.1.2.2.2.1)), (13, (.dat (.int .i64) x.1.2.2.2.2.1)), (16, (.dat (.int .i64) x.1.2.2.2.2.2.1)), (17, (.dat (.int .i64) x.1.2.2.2.2.2.2.1)), (18, (.dat (.int .i64) x.1.2.2.2.2.2.2.2.1)), (19, (.dat (.int .i64) y0)), (20, (.dat .bool y1))], []⟩) x.1.2.2.2.2.2.2.2.2.1 x.1.2.2.2.2.2.2.2.2.2.1 x.1.2.2.2.2.2.2.2.2.2.2.1) (fun _ _ _ => rfl) (fun _ _ _ _ => rfl) (fun R x Kn k => by kernel_rfl)
theorem ek4_4 : EOk E4 C4 Try.f4.ntmps (bodyL Try.f4 2) L4_4 := eok_of (e := L4_4) (fun R x Kn k => s4_4 x.1.1 x.1.2.2.1 (fun v0 v1 => Kn ((x.1.1, x.1.2.1, x.1.2.2.1, x.1.2.2.2.1, x.1.2.2.2.2.1, v0, v1, ()), (()))) (fun y0 => k (.exit 4) ⟨[(9, (.dat .bool x.1.2.1)), (12, (.dat (.int .i64) x.1.2.2.2.1)), (13, (.dat (.int .i64) x.1.2.2.2.2.1)), (16, (.dat (.int .i64) y0))], []⟩) (k .ret ⟨[(8, (.dat .bool false))], []⟩) x.1.2.2.2.2.2.1 x.1.2.2.2.2.2.2.1) (fun _ _ _ => rfl) (fun _ _ _ _ => rfl) (fun R x Kn k => by kernel_rfl)
theorem lm4 : ∀ c, Try.f4.body = some c → LmOk E4 C4 Try.f4.ntmps c := lmOk_of (ps := [(0, L4_1), (1, L4_2), (3, L4_3), (2, L4_4)]) (by kernel_rfl) (by kernel_rfl) ⟨ek4_1, ek4_2, ek4_3, ek4_4, trivial⟩
noncomputable def m4 (a0 : (List T36)) (a1 : (List Int)) (a2 : (List T45)) (a3 : Int) : Option (Bool) :=
  (m8).bind fun r1 =>
  (m9 a0 a1 a2).bind fun r2 =>
  bif (!r2) then
    some r1
  else
    (m11 a0 a1 a2 a3).bind fun r3 =>
    bif (r3.2.1 != 0) then
      some (r1 && ((List.length r3.1 : Int) == 0))
    else
      l4_1 a1 (fun y5 =>
          l4_2 a0 r3.1 (fun y12 =>
              l4_4 a0 r3.1 (fun y21 =>
                  some ((r1 && (y12 == y5)) && (y21 == y5))) (
                  some false) FUEL 0 0) (
              some false) FUEL 0 0) FUEL 0 0
noncomputable def e4 : PmE := entry 4 [(.sl G36), (.sl (.int .i64)), (.sl G45), (.int .i64)] false .bool (fun x => m4 x.1 x.2.1 x.2.2.1 x.2.2.2.1)
theorem q4 (x : tyL [(.sl G36), (.sl (.int .i64)), (.sl G45), (.int .i64)]) : execF E4 C4 Try.f4 (datL [(.sl G36), (.sl (.int .i64)), (.sl G45), (.int .i64)] x) [] (retK false .bool) = m4 x.1 x.2.1 x.2.2.1 x.2.2.2.1 := by kernel_rfl
theorem p4 : PmOk Try.prog e4 := pm_ok (E := E4) ok4 ord lm4 Try.func4 ca4 q4

/-! 5: consol/consollaw33.EntitleVotes -/
theorem ca5 : callable Try.prog 5 := ⟨Try.f5, Try.func5, by kernel_rfl, by kernel_rfl⟩
noncomputable def E5 : Env := mkEnv2 Try.prog [e8, e9, e13, e19, e20] []
theorem ok5 : EnvOk E5 := mkEnv2_ok (by simp only [List.mem_cons, List.not_mem_nil, or_false, forall_eq_or_imp, forall_eq]; exact ⟨p8, p9, p13, p19, p20⟩) (by simp)
/-- a round of a loop of consol/consollaw33.EntitleVotes -/
noncomputable def s5_1 {R : Type} (t0 : (List T36)) (t1 : (List Int)) (t2 : Int) (t8 : (List T36)) (kn : Int → Int → Option R) (k1 : Int → Option R) (k2 : Option R) (t10 : Int) (t11 : Int) : Option R :=
  bif (decide (t11 < (List.length t0 : Int))) then
    cont (fun (k10 : Int → _) =>
      (idx t1 t11).bind fun x5 =>
      (idxG (((x5 == 0) == false) && ((decide (t2 ≥ 0)) == true)) (0, 0, ()) t0 t11).bind fun x6 =>
      bif ((x5 == 0) || ((decide (t2 ≥ 0)) && (x6.2.1 == t2))) then
        k10 t10
      else
        bif (decide (t10 ≥ (List.length t8 : Int))) then
          k2
        else
          (idx t8 t10).bind fun x7 =>
          (idx t1 t11).bind fun x8 =>
          (m20 t11 x8).bind fun r9 =>
          bif (!((x7.1 == r9.1) && ((x7.2.1 == r9.2.1) && true))) then
            k2
          else
            k10 (IntKind.i64.wrap (t10 + 1))) fun y10 =>
    kn y10 (IntKind.i64.wrap (t11 + 1))
  else
    k1 t10
noncomputable def l5_1 {R : Type} (t0 : (List T36)) (t1 : (List Int)) (t2 : Int) (t8 : (List T36)) (k1 : Int → Option R) (k2 : Option R) : Nat → Int → Int → Option R
  | 0, _, _ => none
  | n + 1, t10, t11 => s5_1 t0 t1 t2 t8 (l5_1 t0 t1 t2 t8 k1 k2 n) k1 k2 t10 t11
noncomputable def L5_1 : LE := ⟨10, 0, ⟨[(0, (.dat (.sl G36))), (1, (.dat (.sl (.int .i64)))), (2, (.dat (.int .i64))), (7, (.dat .bool)), (8, (.dat (.sl G36))), (10, (.dat (.int .i64))), (11, (.dat (.int .i64)))], []⟩, fun R n x k => l5_1 x.1.1 x.1.2.1 x.1.2.2.1 x.1.2.2.2.2.1 (fun y0 => k (.exit 0) ⟨[(0, (.dat (.sl G36) x.1.1)), (1, (.dat (.sl (.int .i64)) x.1.2.1)), (7, (.dat .bool x.1.2.2.2.1)), (8, (.dat (.sl G36) x.1.2.2.2.2.1)), (10, (.dat (.int .i64) y0))], []⟩) (k .ret ⟨[(6, (.dat .bool false))], []⟩) n x.1.2.2.2.2.2.1 x.1.2.2.2.2.2.2.1⟩
/-- a round of a loop of consol/consollaw33.EntitleVotes -/
noncomputable def s5_2 {R : Type} (t12 : (List T36)) (kn : Int → Int → Option R) (k1 : Int → Option R) (t14 : Int) (t15 : Int) : Option R :=
  bif (decide (t15 < (List.length t12 : Int))) then
    (idx t12 t15).bind fun x13 =>
    kn (IntKind.i64.wrap (t14 + x13.2.1)) (IntKind.i64.wrap (t15 + 1))
  else
    k1 t14
noncomputable def l5_2 {R : Type} (t12 : (List T36)) (k1 : Int → Option R) : Nat → Int → Int → Option R
  | 0, _, _ => none
  | n + 1, t14, t15 => s5_2 t12 (l5_2 t12 k1 n) k1 t14 t15
noncomputable def L5_2 : LE := ⟨21, 0, ⟨[(1, (.dat (.sl (.int .i64)))), (7, (.dat .bool)), (8, (.dat (.sl G36))), (10, (.dat (.int .i64))), (12, (.dat (.sl G36))), (13, (.dat (.int .i64))), (14, (.dat (.int .i64))), (15, (.dat (.int .i64)))], []⟩, fun R n x k => l5_2 x.1.2.2.2.2.1 (fun y0 => k (.exit 2) ⟨[(1, (.dat (.sl (.int .i64)) x.1.1)), (7, (.dat .bool x.1.2.1)), (8, (.dat (.sl G36) x.1.2.2.1)), (10, (.dat (.int .i64) x.1.2.2.2.1)), (13, (.dat (.int .i64) x.1.2.2.2.2.2.1)), (14, (.dat (.int .i64) y0))], []⟩) n x.1.2.2.2.2.2.2.1 x.1.2.2.2.2.2.2.2.1⟩
/-- a round of a loop of consol/consollaw33.EntitleVotes -/
noncomputable def s5_3 {R : Type} (t1 : (List Int)) (kn : Int → Int → Option R) (k1 : Int → Option R) (t16 : Int) (t17 : Int) : Option R :=
  bif (decide (t17 < (List.length t1 : Int))) then
    (idx t1 t17).bind fun x15 =>
    kn (IntKind.i64.wrap (t16 + x15)) (IntKind.i64.wrap (t17 + 1))
  else
    k1 t16
noncomputable def l5_3 {R : Type} (t1 : (List Int)) (k1 : Int → Option R) : Nat → Int → Int → Option R
  | 0, _, _ => none
  | n + 1, t16, t17 => s5_3 t1 (l5_3 t1 k1 n) k1 t16 t17
noncomputable def L5_3 : LE := ⟨26, 0, ⟨[(1, (.dat (.sl (.int .i64)))), (7, (.dat .bool)), (8, (.dat (.sl G36))), (10, (.dat (.int .i64))), (13, (.dat (.int .i64))), (14, (.dat (.int .i64))), (16, (.dat (.int .i64))), (17, (.dat (.int .i64)))], []⟩, fun R n x k => l5_3 x.1.1 (fun y0 => k (.exit 4) ⟨[(7, (.dat .bool x.1.2.1)), (8, (.dat (.sl G36) x.1.2.2.1)), (10, (.dat (.int .i64) x.1.2.2.2.1)), (13, (.dat (.int .i64) x.1.2.2.2.2.1)), (14, (.dat (.int .i64) x.1.2.2.2.2.2.1)), (16, (.dat (.int .i64) y0))], []⟩) n x.1.2.2.2.2.2.2.1 x.1.2.2.2.2.2.2.2.1⟩
noncomputable def C5 : Cfg := mkCfg [(10, ⟨[0, 1, 2, 7, 8, 10, 11], []⟩), (11, ⟨[0, 1, 2, 7, 8, 10, 11], []⟩), (21, ⟨[1, 7, 8, 10, 12, 13, 14, 15], []⟩), (26, ⟨[1, 7, 8, 10, 13, 14, 16, 17], []⟩)] [(10, (⟨[0, 1, 7, 8, 10], []⟩, ⟨[6], []⟩)), (21, (⟨[1, 7, 8, 10, 13, 14], []⟩, ⟨[6], []⟩)), (26, (⟨[7, 8, 10, 13, 14, 16], []⟩, ⟨[6], []⟩))] (([(0, L5_1), (1, L5_2), (2, L5_3)] : List (Nat × LE)).map (·.2))
theorem ek5_1 : EOk E5 C5 Try.f5.ntmps (bodyL Try.f5 0) L5_1 := eok_of (e := L5_1) (fun R x Kn k => s5_1 x.1.1 x.1.2.1 x.1.2.2.1 x.1.2.2.2.2.1 (fun v0 v1 => Kn ((x.1.1, x.1.2.1, x.1.2.2.1, x.1.2.2.2.1, x.1.2.2.2.2.1, v0, v1, ()), (()))) (fun y0 => k (.exit 0) ⟨[(0, (.dat (.sl G36) x.1.1)), (1, (.dat (.sl (.int .i64)) x.1.2.1)), (7, (.dat .bool x.1.2.2.2.1)), (8, (.dat (.sl G36) x.1.2.2.2.2.1)), (10, (.dat (.int .i64) y0))], []⟩) (k .ret ⟨[(6, (.dat .bool false))], []⟩) x.1.2.2.2.2.2.1 x.1.2.2.2.2.2.2.1) (fun _ _ _ => rfl) (fun _ _ _ _ => rfl) (fun R x Kn k => by kernel_rfl)
theorem ek5_2 : EOk E5 C5 Try.f5.ntmps (bodyL Try.f5 1) L5_2 := eok_of (e := L5_2) (fun R x Kn k => s5_2 x.1.2.2.2.2.1 (fun v0 v1 => Kn ((x.1.1, x.1.2.1, x.1.2.2.1, x.1.2.2.2.1, x.1.2.2.2.2.1, x.1.2.2.2.2.2.1, v0, v1, ()), (()))) (fun y0 => k (.exit 2) ⟨[(1, (.dat (.sl (.int .i64)) x.1.1)), (7, (.dat .bool x.1.2.1)), (8, (.dat (.sl G36) x.1.2.2.1)), (10, (.dat (.int .i64) x.1.2.2.2.1)), (13, (.dat (.int .i64) x.1.2.2.2.2.2.1)), (14, (.dat (.int .i64) y0))], []⟩) x.1.2.2.2.2.2.2.1 x.1.2.2.2.2.2.2.2.1) (fun _ _ _ => rfl) (fun _ _ _ _ => rfl) (fun R x Kn k => by kernel_rfl)
theorem ek5_3 : EOk E5 C5 Try.f5.ntmps (bodyL Try.f5 2) L5_3 := eok_of (e := L5_3) (fun R x Kn k => s5_3 x.1.1 (fun v0 v1 => Kn ((x.1.1, x.1.2.1, x.1.2.2.1, x.1.2.2.2.1, x.1.2.2.2.2.1, x.1.2.2.2.2.2.1, v0, v1, ()), (()))) (fun y0 => k (.exit 4) ⟨[(7, (.dat .bool x.1.2.1)), (8, (.dat (.sl G36) x.1.2.2.1)), (10, (.dat (.int .i64) x.1.2.2.2.1)), (13, (.dat (.int .i64) x.1.2.2.2.2.1)), (14, (.dat (.int .i64) x.1.2.2.2.2.2.1)), (16, (.dat (.int .i64) y0))], []⟩) x.1.2.2.2.2.2.2.1 x.1.2.2.2.2.2.2.2.1) (fun _ _ _ => rfl) (fun _ _ _ _ => rfl) (fun R x Kn k => by kernel_rfl)
theorem lm5 : ∀ c, Try.f5.body = some c → LmOk E5 C5 Try.f5.ntmps c := lmOk_of (ps := [(0, L5_1), (1, L5_2), (2, L5_3)]) (by kernel_rfl) (by kernel_rfl) ⟨ek5_1, ek5_2, ek5_3, trivial⟩
noncomputable def m5 (a0 : (List T36)) (a1 : (List Int)) (a2 : Int) : Option (Bool) :=
  (m8).bind fun r1 =>
  (m9 a0 a1 []).bind fun r2 =>
  bif (!r2) then
    some r1
  else
    (m13 a0 a1 a2).bind fun r3 =>
    bif (r3.2.1 != 0) then
      (bif (((r1 && ((List.length r3.1 : Int) == 0)) == true) && (((decide (a2 < (-1))) || (decide (a2 ≥ 60))) == false)) then (m19 a0 a1) else some false).bind fun r4 =>
      some ((r1 && ((List.length r3.1 : Int) == 0)) && (((decide (a2 < (-1))) || (decide (a2 ≥ 60))) || (!r4)))
    else
      l5_1 a0 a1 a2 r3.1 (fun y11 =>
          (m13 a0 a1 (-1)).bind fun r12 =>
          l5_2 r12.1 (fun y14 =>
              l5_3 a1 (fun y16 =>
                  some (((r1 && (y11 == (List.length r3.1 : Int))) && (r12.2.1 == 0)) && (y14 == y16))) FUEL 0 0) FUEL 0 0) (
          some false) FUEL 0 0
noncomputable def e5 : PmE := entry 5 [(.sl G36), (.sl (.int .i64)), (.int .i64)] false .bool (fun x => m5 x.1 x.2.1 x.2.2.1)
theorem q5 (x : tyL [(.sl G36), (.sl (.int .i64)), (.int .i64)]) : execF E5 C5 Try.f5 (datL [(.sl G36), (.sl (.int .i64)), (.int .i64)] x) [] (retK false .bool) = m5 x.1 x.2.1 x.2.2.1 := by kernel_rfl
theorem p5 : PmOk Try.prog e5 := pm_ok (E := E5) ok5 ord lm5 Try.func5 ca5 q5

theorem ca40 : callable Try.prog 40 := ⟨Try.f40, Try.func40, by kernel_rfl, by kernel_rfl⟩
/-! 40: slices.Clone[[]consol/api.Trade,consol/api.Trade] -/
noncomputable def c40 : CmE := ownE 40 [(.sl G45)] G45 (fun x => cloneM x.1)
theorem d40 : CmOk Try.prog c40 := own_ok ca40 (clone_run (g := G45) ord Try.func40 Try.underlying24 rfl (by kernel_rfl) (fun _ => by kernel_rfl) (by kernel_rfl) (fun _ => by kernel_rfl))

/-! 21: consol/trade.Add -/
theorem ca21 : callable Try.prog 21 := ⟨Try.f21, Try.func21, by kernel_rfl, by kernel_rfl⟩
noncomputable def E21 : Env := mkEnv2 Try.prog [e28, e38, e39] [c40]
theorem ok21 : EnvOk E21 := mkEnv2_ok (by simp only [List.mem_cons, List.not_mem_nil, or_false, forall_eq_or_imp, forall_eq]; exact ⟨p28, p38, p39⟩) (by simp only [List.mem_cons, List.not_mem_nil, or_false, forall_eq]; exact d40)
noncomputable def C21 : Cfg := noCfg
theorem lm21 : ∀ c, Try.f21.body = some c → LmOk E21 C21 Try.f21.ntmps c := fun _ _ => noCfg_lm
noncomputable def m21 (a0 : (List T36)) (a1 : (List T45)) (a2 : T45) : Option (((List T45) × (Int × Unit))) :=
  (m28 a0 a1).bind fun r1 =>
  (bif ((!r1) == false) then (m39 a0) else some []).bind fun r2 =>
  (bif ((!r1) == false) then (m38 r2 a2) else some false).bind fun r3 =>
  bif (((!r1) || (!r3)) || (a2.2.2.2.2.2.2.1 != (-1))) then
    some ([], 1, ())
  else
    bif (decide ((List.length a1 : Int) ≥ 5000)) then
      some ([], 6, ())
    else
      (cloneM a1).bind fun r4 =>
      asrt true (decide (List.length (α := T45) r4 + List.length (α := T45) [a2] ≤ LIM)) (
        some ((r4 ++ [a2]), 0, ()))
noncomputable def e21 : PmE := entry 21 [(.sl G36), (.sl G45), G45] true (.cons (.sl G45) (.cons (.int .i64) .nil)) (fun x => m21 x.1 x.2.1 x.2.2.1)
theorem q21 (x : tyL [(.sl G36), (.sl G45), G45]) : execF E21 C21 Try.f21 (datL [(.sl G36), (.sl G45), G45] x) [] (retK true (.cons (.sl G45) (.cons (.int .i64) .nil))) = m21 x.1 x.2.1 x.2.2.1 := by kernel_rfl
theorem p21 : PmOk Try.prog e21 := pm_ok (E := E21) ok21 ord lm21 Try.func21 ca21 q21

noncomputable def cK21 : CmE := konE 21 [(.sl G36), (.sl G45), G45] true (.cons (.sl G45) (.cons (.int .i64) .nil)) (fun x => m21 x.1 x.2.1 x.2.2.1)
theorem dK21 : CmOk Try.prog cK21 := kon_ok p21

/-! 6: consol/consollaw33.EntitleAdds -/
theorem ca6 : callable Try.prog 6 := ⟨Try.f6, Try.func6, by kernel_rfl, by kernel_rfl⟩
noncomputable def E6 : Env := mkEnv2 Try.prog [e8, e9, e11, e16, e18, e21] []
theorem ok6 : EnvOk E6 := mkEnv2_ok (by simp only [List.mem_cons, List.not_mem_nil, or_false, forall_eq_or_imp, forall_eq]; exact ⟨p8, p9, p11, p16, p18, p21⟩) (by simp)
/-- a round of a loop of consol/consollaw33.EntitleAdds -/
noncomputable def s6_1 {R : Type} (t0 : (List T36)) (t4 : Int) (t14 : (List T36)) (t16 : (List T36)) (o0 : T45) (kn : Int → Option R) (k1 : Option R) (k2 : Option R) (t18 : Int) : Option R :=
  bif (decide (t18 < (List.length t0 : Int))) then
    cont (fun (k11 : Unit → _) =>
      (m18 t0 t18).bind fun r6 =>
      bif (!r6) then
        k11 ()
      else
        (m16 t0 t14 t18).bind fun r7 =>
        cont (fun (k9 : Int → _) =>
          bif ((o0.1 == 0) && (decide (o0.2.2.2.2.2.1 ≤ t4))) then
            cont (fun (k8 : Int → _) =>
              bif (o0.2.1 == t18) then
                k8 (IntKind.i64.wrap (r7 - o0.2.2.2.1))
              else
                k8 r7) fun y8 =>
            bif (o0.2.2.1 == t18) then
              k9 (IntKind.i64.wrap (y8 + o0.2.2.2.1))
            else
              k9 y8
          else
            k9 r7) fun y9 =>
        (m16 t0 t16 t18).bind fun r10 =>
        bif (r10 != y9) then
          k2
        else
          k11 ()) fun _ =>
    kn (IntKind.i64.wrap (t18 + 1))
  else
    k1
noncomputable def l6_1 {R : Type} (t0 : (List T36)) (t4 : Int) (t14 : (List T36)) (t16 : (List T36)) (o0 : T45) (k1 : Option R) (k2 : Option R) : Nat → Int → Option R
  | 0, _ => none
  | n + 1, t18 => s6_1 t0 t4 t14 t16 o0 (l6_1 t0 t4 t14 t16 o0 k1 k2 n) k1 k2 t18
noncomputable def L6_1 : LE := ⟨15, 0, ⟨[(0, (.dat (.sl G36))), (4, (.dat (.int .i64))), (8, (.box 0 [] 0)), (11, (.dat .bool)), (14, (.dat (.sl G36))), (16, (.dat (.sl G36))), (18, (.dat (.int .i64)))], [(.box (.dat G45))]⟩, fun R n x k => l6_1 x.1.1 x.1.2.1 x.1.2.2.2.2.1 x.1.2.2.2.2.2.1 x.2.1 (k (.exit 0) ⟨[(11, (.dat .bool x.1.2.2.2.1))], []⟩) (k .ret ⟨[(10, (.dat .bool false))], []⟩) n x.1.2.2.2.2.2.2.1⟩
noncomputable def C6 : Cfg := mkCfg [(15, ⟨[0, 4, 8, 11, 14, 16, 18], []⟩), (16, ⟨[0, 4, 8, 11, 14, 16, 18], []⟩), (22, ⟨[0, 4, 8, 11, 14, 16, 18, 19], []⟩), (24, ⟨[0, 4, 8, 11, 14, 16, 18, 19], []⟩)] [(15, (⟨[11], []⟩, ⟨[10], []⟩))] (([(0, L6_1)] : List (Nat × LE)).map (·.2))
theorem ek6_1 : EOk E6 C6 Try.f6.ntmps (bodyL Try.f6 0) L6_1 := eok_of (e := L6_1) (fun R x Kn k => s6_1 x.1.1 x.1.2.1 x.1.2.2.2.2.1 x.1.2.2.2.2.2.1 x.2.1 (fun v0 => Kn ((x.1.1, x.1.2.1, (), x.1.2.2.2.1, x.1.2.2.2.2.1, x.1.2.2.2.2.2.1, v0, ()), (x.2.1, ()))) (k (.exit 0) ⟨[(11, (.dat .bool x.1.2.2.2.1))], []⟩) (k .ret ⟨[(10, (.dat .bool false))], []⟩) x.1.2.2.2.2.2.2.1) (fun _ _ _ => rfl) (fun _ _ _ _ => rfl) (fun R x Kn k => by kernel_rfl)
theorem lm6 : ∀ c, Try.f6.body = some c → LmOk E6 C6 Try.f6.ntmps c := lmOk_of (ps := [(0, L6_1)]) (by kernel_rfl) (by kernel_rfl) ⟨ek6_1, trivial⟩
noncomputable def m6 (a0 : (List T36)) (a1 : (List Int)) (a2 : (List T45)) (a3 : T45) (a4 : Int) : Option (Bool) :=
  (m8).bind fun r1 =>
  (m9 a0 a1 a2).bind fun r2 =>
  bif ((!r2) || (decide ((List.length a2 : Int) > 11))) then
    some r1
  else
    (m21 a0 a2 a3).bind fun r3 =>
    bif (r3.2.1 != 0) then
      some r1
    else
      (m11 a0 a1 a2 a4).bind fun r4 =>
      (m11 a0 a1 r3.1 a4).bind fun r5 =>
      bif (r4.2.1 != r5.2.1) then
        some false
      else
        bif (r4.2.1 != 0) then
          some r1
        else
          l6_1 a0 a4 r4.1 r5.1 a3 (
              some r1) (
              some false) FUEL 0
noncomputable def e6 : PmE := entry 6 [(.sl G36), (.sl (.int .i64)), (.sl G45), G45, (.int .i64)] false .bool (fun x => m6 x.1 x.2.1 x.2.2.1 x.2.2.2.1 x.2.2.2.2.1)
theorem q6 (x : tyL [(.sl G36), (.sl (.int .i64)), (.sl G45), G45, (.int .i64)]) : execF E6 C6 Try.f6 (datL [(.sl G36), (.sl (.int .i64)), (.sl G45), G45, (.int .i64)] x) [] (retK false .bool) = m6 x.1 x.2.1 x.2.2.1 x.2.2.2.1 x.2.2.2.2.1 := by kernel_rfl
theorem p6 : PmOk Try.prog e6 := pm_ok (E := E6) ok6 ord lm6 Try.func6 ca6 q6

/-! 41: consol/trade.valid -/
theorem ca41 : callable Try.prog 41 := ⟨Try.f41, Try.func41, by kernel_rfl, by kernel_rfl⟩
noncomputable def E41 : Env := mkEnv2 Try.prog [e39] []
theorem ok41 : EnvOk E41 := mkEnv2_ok (by simp only [List.mem_cons, List.not_mem_nil, or_false, forall_eq]; exact p39) (by simp)
/-- a round of a loop of consol/trade.valid -/
noncomputable def s41_1 {R : Type} (t1 : (List Int)) (t15 : (List Bool)) (t16 : Int) (kn : Int → Int → Option R) (k1 : Option R) (k2 : Option R) (t5 : Int) (t17 : Int) : Option R :=
  bif (decide (t17 < t16)) then
    (idx t15 t17).bind fun x2 =>
    (idx t1 t17).bind fun x3 =>
    bif (((decide (x3 < 0)) || (decide (x3 > (IntKind.i64.wrap (1000000000 - t5))))) || ((!x2) && (x3 != 0))) then
      k2
    else
      kn (IntKind.i64.wrap (t5 + x3)) (IntKind.i64.wrap (t17 + 1))
  else
    k1
noncomputable def l41_1 {R : Type} (t1 : (List Int)) (t15 : (List Bool)) (t16 : Int) (k1 : Option R) (k2 : Option R) : Nat → Int → Int → Option R
  | 0, _, _ => none
  | n + 1, t5, t17 => s41_1 t1 t15 t16 (l41_1 t1 t15 t16 k1 k2 n) k1 k2 t5 t17
noncomputable def L41_1 : LE := ⟨6, 0, ⟨[(1, (.dat (.sl (.int .i64)))), (5, (.dat (.int .i64))), (15, (.dat (.sl .bool))), (16, (.dat (.int .i64))), (17, (.dat (.int .i64)))], []⟩, fun R n x k => l41_1 x.1.1 x.1.2.2.1 x.1.2.2.2.1 (k (.exit 0) ⟨[], []⟩) (k .ret ⟨[(4, (.dat .bool false))], []⟩) n x.1.2.1 x.1.2.2.2.2.1⟩
noncomputable def C41 : Cfg := mkCfg [(6, ⟨[1, 5, 15, 16, 17], []⟩)] [(6, (⟨[], []⟩, ⟨[4], []⟩))] (([(0, L41_1)] : List (Nat × LE)).map (·.2))
theorem ek41_1 : EOk E41 C41 Try.f41.ntmps (bodyL Try.f41 0) L41_1 := eok_of (e := L41_1) (fun R x Kn k => s41_1 x.1.1 x.1.2.2.1 x.1.2.2.2.1 (fun v0 v1 => Kn ((x.1.1, v0, x.1.2.2.1, x.1.2.2.2.1, v1, ()), (()))) (k (.exit 0) ⟨[], []⟩) (k .ret ⟨[(4, (.dat .bool false))], []⟩) x.1.2.1 x.1.2.2.2.2.1) (fun _ _ _ => rfl) (fun _ _ _ _ => rfl) (fun R x Kn k => by kernel_rfl)
theorem lm41 : ∀ c, Try.f41.body = some c → LmOk E41 C41 Try.f41.ntmps c := lmOk_of (ps := [(0, L41_1)]) (by kernel_rfl) (by kernel_rfl) ⟨ek41_1, trivial⟩
noncomputable def m41 (a0 : (List T36)) (a1 : (List Int)) : Option (Bool) :=
  bif ((List.length a1 : Int) != (List.length a0 : Int)) then
    some false
  else
    (m39 a0).bind fun r1 =>
    l41_1 a1 r1 (List.length r1 : Int) (
        some true) (
        some false) FUEL 0 0
noncomputable def e41 : PmE := entry 41 [(.sl G36), (.sl (.int .i64))] false .bool (fun x => m41 x.1 x.2.1)
theorem q41 (x : tyL [(.sl G36), (.sl (.int .i64))]) : execF E41 C41 Try.f41 (datL [(.sl G36), (.sl (.int .i64))] x) [] (retK false .bool) = m41 x.1 x.2.1 := by kernel_rfl
theorem p41 : PmOk Try.prog e41 := pm_ok (E := E41) ok41 ord lm41 Try.func41 ca41 q41

/-! 43: consol/trade.back -/
theorem ca43 : callable Try.prog 43 := ⟨Try.f43, Try.func43, by kernel_rfl, by kernel_rfl⟩
noncomputable def E43 : Env := mkEnv2 Try.prog [] []
theorem ok43 : EnvOk E43 := mkEnv2_ok (by simp) (by simp)
noncomputable def C43 : Cfg := noCfg
theorem lm43 : ∀ c, Try.f43.body = some c → LmOk E43 C43 Try.f43.ntmps c := fun _ _ => noCfg_lm
noncomputable def m43 (a0 : T45) (a1 : Int) : Option (T45) :=
  some (0, a0.2.2.1, a0.2.1, a0.2.2.2.1, a1, (bif decide (a1 > a0.2.2.2.2.2.2.2.1) then a1 else a0.2.2.2.2.2.2.2.1), (-1), 0, ())
noncomputable def e43 : PmE := entry 43 [G45, (.int .i64)] false G45 (fun x => m43 x.1 x.2.1)
theorem q43 (x : tyL [G45, (.int .i64)]) : execF E43 C43 Try.f43 (datL [G45, (.int .i64)] x) [] (retK false G45) = m43 x.1 x.2.1 := by kernel_rfl
theorem p43 : PmOk Try.prog e43 := pm_ok (E := E43) ok43 ord lm43 Try.func43 ca43 q43

/-! 22: consol/trade.Settle -/
theorem ca22 : callable Try.prog 22 := ⟨Try.f22, Try.func22, by kernel_rfl, by kernel_rfl⟩
noncomputable def E22 : Env := mkEnv2 Try.prog [e28, e41, e42, e43] [c29, c40]
theorem ok22 : EnvOk E22 := mkEnv2_ok (by simp only [List.mem_cons, List.not_mem_nil, or_false, forall_eq_or_imp, forall_eq]; exact ⟨p28, p41, p42, p43⟩) (by simp only [List.mem_cons, List.not_mem_nil, or_false, forall_eq_or_imp, forall_eq]; exact ⟨d29, d40⟩)
/-- a round of a loop of consol/trade.Settle -/
noncomputable def s22_1 {R : Type} (t3 : Int) (kn : Int → (List Int) → (List T45) → Option R) (k1 : (List Int) → (List T45) → Option R) (t13 : Int) (o0 : (List Int)) (o1 : (List T45)) : Option R :=
  bif (decide (t13 < (List.length o1 : Int))) then
    cont (fun (k15 : (Int × (List Int) × (List T45)) → _) =>
      asrt true (decide (0 ≤ t13) && decide (t13 < (List.length o1 : Int))) (
        ((o1)[(t13 : Int).toNat]?).bind fun x6 =>
        asrt (((x6.2.2.2.2.2.2.1 != (-1)) || (decide (x6.2.2.2.2.2.1 > t3))) == false) (decide (0 ≤ x6.2.1) && decide (x6.2.1 < (List.length o0 : Int))) (
          ((bif (((x6.2.2.2.2.2.2.1 != (-1)) || (decide (x6.2.2.2.2.2.1 > t3))) == false) then (o0)[(x6.2.1 : Int).toNat]? else some 0)).bind fun x7 =>
          bif (((x6.2.2.2.2.2.2.1 != (-1)) || (decide (x6.2.2.2.2.2.1 > t3))) || (decide (x7 < x6.2.2.2.1))) then
            k15 (t13, o0, o1)
          else
            asrt true (decide (0 ≤ x6.2.1) && decide (x6.2.1 < (List.length o0 : Int))) (
              ((o0)[(x6.2.1 : Int).toNat]?).bind fun x8 =>
              asrt true (decide (0 ≤ x6.2.1) && decide (x6.2.1 < (List.length o0 : Int))) (
                ((o0)[(x6.2.1 : Int).toNat]?).bind fun x9 =>
                asrt true (decide (0 ≤ x6.2.2.1) && decide (x6.2.2.1 < (List.length (List.set o0 (x6.2.1 : Int).toNat (IntKind.i64.wrap (x8 - x6.2.2.2.1))) : Int))) (
                  (((List.set o0 (x6.2.1 : Int).toNat (IntKind.i64.wrap (x8 - x6.2.2.2.1))))[(x6.2.2.1 : Int).toNat]?).bind fun x10 =>
                  asrt true (decide (0 ≤ x6.2.2.1) && decide (x6.2.2.1 < (List.length (List.set o0 (x6.2.1 : Int).toNat (IntKind.i64.wrap (x8 - x6.2.2.2.1))) : Int))) (
                    (((List.set o0 (x6.2.1 : Int).toNat (IntKind.i64.wrap (x8 - x6.2.2.2.1))))[(x6.2.2.1 : Int).toNat]?).bind fun x11 =>
                    asrt true (decide (0 ≤ t13) && decide (t13 < (List.length o1 : Int))) (
                      ((o1)[(t13 : Int).toNat]?).bind fun x12 =>
                      cont (fun (k14 : (List T45) → _) =>
                        bif (x6.1 == 1) then
                          (m43 x6 t3).bind fun r13 =>
                          asrt true (decide (List.length (α := T45) (List.set o1 (t13 : Int).toNat (x12.1, x12.2.1, x12.2.2.1, x12.2.2.2.1, x12.2.2.2.2.1, x12.2.2.2.2.2.1, t3, x12.2.2.2.2.2.2.2.1, ())) + List.length (α := T45) [r13] ≤ LIM)) (
                            k14 ((List.set o1 (t13 : Int).toNat (x12.1, x12.2.1, x12.2.2.1, x12.2.2.2.1, x12.2.2.2.2.1, x12.2.2.2.2.2.1, t3, x12.2.2.2.2.2.2.2.1, ())) ++ [r13]))
                        else
                          k14 (List.set o1 (t13 : Int).toNat (x12.1, x12.2.1, x12.2.2.1, x12.2.2.2.1, x12.2.2.2.2.1, x12.2.2.2.2.2.1, t3, x12.2.2.2.2.2.2.2.1, ()))) fun y14 =>
                      k15 ((-1), (List.set (List.set o0 (x6.2.1 : Int).toNat (IntKind.i64.wrap (x8 - x6.2.2.2.1))) (x6.2.2.1 : Int).toNat (IntKind.i64.wrap (x10 + x6.2.2.2.1))), y14))))))))) fun y15 =>
    kn (IntKind.i64.wrap (y15.1 + 1)) y15.2.1 y15.2.2
  else
    k1 o0 o1
noncomputable def l22_1 {R : Type} (t3 : Int) (k1 : (List Int) → (List T45) → Option R) : Nat → Int → (List Int) → (List T45) → Option R
  | 0, _, _, _ => none
  | n + 1, t13, o0, o1 => s22_1 t3 (l22_1 t3 k1 n) k1 t13 o0 o1
noncomputable def L22_1 : LE := ⟨6, 0, ⟨[(3, (.dat (.int .i64))), (11, (.own 0)), (12, (.own 1)), (13, (.dat (.int .i64)))], [(.arr (.int .i64)), (.arr G45)]⟩, fun R n x k => l22_1 x.1.1 (fun y0 y1 => k (.exit 0) ⟨[(11, (.own 0)), (12, (.own 1))], [(.arr (.int .i64) y0), (.arr G45 y1)]⟩) n x.1.2.2.2.1 x.2.1 x.2.2.1⟩
noncomputable def C22 : Cfg := mkCfg [(6, ⟨[3, 11, 12, 13], []⟩), (7, ⟨[3, 11, 12, 13], []⟩), (15, ⟨[3, 11, 12], []⟩)] [(6, (⟨[11, 12], []⟩, ⟨[8, 9, 10], []⟩))] (([(0, L22_1)] : List (Nat × LE)).map (·.2))
theorem ek22_1 : EOk E22 C22 Try.f22.ntmps (bodyL Try.f22 0) L22_1 := eok_of (e := L22_1) (fun R x Kn k => s22_1 x.1.1 (fun v0 v1 v2 => Kn ((x.1.1, (), (), v0, ()), (v1, v2, ()))) (fun y0 y1 => k (.exit 0) ⟨[(11, (.own 0)), (12, (.own 1))], [(.arr (.int .i64) y0), (.arr G45 y1)]⟩) x.1.2.2.2.1 x.2.1 x.2.2.1) (fun _ _ _ => rfl) (fun _ _ _ _ => rfl) (fun R x Kn k => by kernel_rfl)
theorem lm22 : ∀ c, Try.f22.body = some c → LmOk E22 C22 Try.f22.ntmps c := lmOk_of (ps := [(0, L22_1)]) (by kernel_rfl) (by kernel_rfl) ⟨ek22_1, trivial⟩
noncomputable def m22 (a0 : (List T36)) (a1 : (List Int)) (a2 : (List T45)) (a3 : Int) : Option (((List Int) × ((List T45) × (Int × Unit)))) :=
  (m28 a0 a2).bind fun r1 =>
  (bif ((!r1) == false) then (m41 a0 a1) else some false).bind fun r2 =>
  (bif (((!r1) || (!r2)) == false) then (m42 a3) else some false).bind fun r3 =>
  bif (((!r1) || (!r2)) || (!r3)) then
    some ([], [], 1, ())
  else
    (cloneM a1).bind fun r4 =>
    (cloneM a2).bind fun r5 =>
    l22_1 a3 (fun y16 y17 =>
        bif (decide ((List.length y17 : Int) > 10000)) then
          some ([], [], 6, ())
        else
          some (y16, y17, 0, ())) FUEL 0 r4 r5
noncomputable def e22 : PmE := entry 22 [(.sl G36), (.sl (.int .i64)), (.sl G45), (.int .i64)] true (.cons (.sl (.int .i64)) (.cons (.sl G45) (.cons (.int .i64) .nil))) (fun x => m22 x.1 x.2.1 x.2.2.1 x.2.2.2.1)
theorem q22 (x : tyL [(.sl G36), (.sl (.int .i64)), (.sl G45), (.int .i64)]) : execF E22 C22 Try.f22 (datL [(.sl G36), (.sl (.int .i64)), (.sl G45), (.int .i64)] x) [] (retK true (.cons (.sl (.int .i64)) (.cons (.sl G45) (.cons (.int .i64) .nil)))) = m22 x.1 x.2.1 x.2.2.1 x.2.2.2.1 := by kernel_rfl
theorem p22 : PmOk Try.prog e22 := pm_ok (E := E22) ok22 ord lm22 Try.func22 ca22 q22

noncomputable def cK22 : CmE := konE 22 [(.sl G36), (.sl (.int .i64)), (.sl G45), (.int .i64)] true (.cons (.sl (.int .i64)) (.cons (.sl G45) (.cons (.int .i64) .nil))) (fun x => m22 x.1 x.2.1 x.2.2.1 x.2.2.2.1)
theorem dK22 : CmOk Try.prog cK22 := kon_ok p22

/-! 7: consol/consollaw33.EntitleSettles -/
theorem ca7 : callable Try.prog 7 := ⟨Try.f7, Try.func7, by kernel_rfl, by kernel_rfl⟩
noncomputable def E7 : Env := mkEnv2 Try.prog [e8, e9, e11, e15, e20, e22, e23, e24] []
theorem ok7 : EnvOk E7 := mkEnv2_ok (by simp only [List.mem_cons, List.not_mem_nil, or_false, forall_eq_or_imp, forall_eq]; exact ⟨p8, p9, p11, p15, p20, p22, p23, p24⟩) (by simp)
/-- a round of a loop of consol/consollaw33.EntitleSettles -/
noncomputable def s7_1 {R : Type} (t2 : (List T45)) (t3 : Int) (kn : Bool → Int → Option R) (k1 : Bool → Option R) (t17 : Bool) (t18 : Int) : Option R :=
  bif (decide (t18 < (List.length t2 : Int))) then
    (idxG (t17 == true) (0, 0, 0, 0, 0, 0, 0, 0, ()) t2 t18).bind fun x7 =>
    (bif (t17 == true) then (m23 x7 t3) else some false).bind fun r8 =>
    (idxG ((t17 && (!r8)) == true) (0, 0, 0, 0, 0, 0, 0, 0, ()) t2 t18).bind fun x9 =>
    (bif ((t17 && (!r8)) == true) then (m24 x9 t3) else some false).bind fun r10 =>
    kn ((t17 && (!r8)) && (!r10)) (IntKind.i64.wrap (t18 + 1))
  else
    k1 t17
noncomputable def l7_1 {R : Type} (t2 : (List T45)) (t3 : Int) (k1 : Bool → Option R) : Nat → Bool → Int → Option R
  | 0, _, _ => none
  | n + 1, t17, t18 => s7_1 t2 t3 (l7_1 t2 t3 k1 n) k1 t17 t18
noncomputable def L7_1 : LE := ⟨14, 0, ⟨[(1, (.dat (.sl (.int .i64)))), (2, (.dat (.sl G45))), (3, (.dat (.int .i64))), (9, (.dat .bool)), (10, (.dat (.sl G36))), (17, (.dat .bool)), (18, (.dat (.int .i64)))], []⟩, fun R n x k => l7_1 x.1.2.1 x.1.2.2.1 (fun y0 => k (.exit 0) ⟨[(1, (.dat (.sl (.int .i64)) x.1.1)), (9, (.dat .bool x.1.2.2.2.1)), (10, (.dat (.sl G36) x.1.2.2.2.2.1)), (17, (.dat .bool y0))], []⟩) n x.1.2.2.2.2.2.1 x.1.2.2.2.2.2.2.1⟩
/-- a round of a loop of consol/consollaw33.EntitleSettles -/
noncomputable def s7_2 {R : Type} (t1 : (List Int)) (t10 : (List T36)) (kn : Int → Int → Option R) (k1 : Int → Option R) (k2 : Option R) (t19 : Int) (t20 : Int) : Option R :=
  bif (decide (t20 < (List.length t1 : Int))) then
    cont (fun (k16 : Int → _) =>
      (idx t1 t20).bind fun x12 =>
      bif (x12 == 0) then
        k16 t19
      else
        bif (decide (t19 ≥ (List.length t10 : Int))) then
          k2
        else
          (idx t10 t19).bind fun x13 =>
          (idx t1 t20).bind fun x14 =>
          (m20 t20 x14).bind fun r15 =>
          bif (!((x13.1 == r15.1) && ((x13.2.1 == r15.2.1) && true))) then
            k2
          else
            k16 (IntKind.i64.wrap (t19 + 1))) fun y16 =>
    kn y16 (IntKind.i64.wrap (t20 + 1))
  else
    k1 t19
noncomputable def l7_2 {R : Type} (t1 : (List Int)) (t10 : (List T36)) (k1 : Int → Option R) (k2 : Option R) : Nat → Int → Int → Option R
  | 0, _, _ => none
  | n + 1, t19, t20 => s7_2 t1 t10 (l7_2 t1 t10 k1 k2 n) k1 k2 t19 t20
noncomputable def L7_2 : LE := ⟨21, 0, ⟨[(1, (.dat (.sl (.int .i64)))), (9, (.dat .bool)), (10, (.dat (.sl G36))), (19, (.dat (.int .i64))), (20, (.dat (.int .i64)))], []⟩, fun R n x k => l7_2 x.1.1 x.1.2.2.1 (fun y0 => k (.exit 2) ⟨[(9, (.dat .bool x.1.2.1)), (10, (.dat (.sl G36) x.1.2.2.1)), (19, (.dat (.int .i64) y0))], []⟩) (k .ret ⟨[(8, (.dat .bool false))], []⟩) n x.1.2.2.2.1 x.1.2.2.2.2.1⟩
noncomputable def C7 : Cfg := mkCfg [(14, ⟨[1, 2, 3, 9, 10, 17, 18], []⟩), (21, ⟨[1, 9, 10, 19, 20], []⟩), (22, ⟨[1, 9, 10, 19, 20], []⟩)] [(14, (⟨[1, 9, 10, 17], []⟩, ⟨[8], []⟩)), (21, (⟨[9, 10, 19], []⟩, ⟨[8], []⟩))] (([(0, L7_1), (1, L7_2)] : List (Nat × LE)).map (·.2))
theorem ek7_1 : EOk E7 C7 Try.f7.ntmps (bodyL Try.f7 0) L7_1 := eok_of (e := L7_1) (fun R x Kn k => s7_1 x.1.2.1 x.1.2.2.1 (fun v0 v1 => Kn ((x.1.1, x.1.2.1, x.1.2.2.1, x.1.2.2.2.1, x.1.2.2.2.2.1, v0, v1, ()), (()))) (fun y0 => k (.exit 0) ⟨[(1, (.dat (.sl (.int .i64)) x.1.1)), (9, (.dat .bool x.1.2.2.2.1)), (10, (.dat (.sl G36) x.1.2.2.2.2.1)), (17, (.dat .bool y0))], []⟩) x.1.2.2.2.2.2.1 x.1.2.2.2.2.2.2.1) (fun _ _ _ => rfl) (fun _ _ _ _ => rfl) (fun R x Kn k => by kernel_rfl)
theorem ek7_2 : EOk E7 C7 Try.f7.ntmps (bodyL Try.f7 1) L7_2 := eok_of (e := L7_2) (fun R x Kn k => s7_2 x.1.1 x.1.2.2.1 (fun v0 v1 => Kn ((x.1.1, x.1.2.1, x.1.2.2.1, v0, v1, ()), (()))) (fun y0 => k (.exit 2) ⟨[(9, (.dat .bool x.1.2.1)), (10, (.dat (.sl G36) x.1.2.2.1)), (19, (.dat (.int .i64) y0))], []⟩) (k .ret ⟨[(8, (.dat .bool false))], []⟩) x.1.2.2.2.1 x.1.2.2.2.2.1) (fun _ _ _ => rfl) (fun _ _ _ _ => rfl) (fun R x Kn k => by kernel_rfl)
theorem lm7 : ∀ c, Try.f7.body = some c → LmOk E7 C7 Try.f7.ntmps c := lmOk_of (ps := [(0, L7_1), (1, L7_2)]) (by kernel_rfl) (by kernel_rfl) ⟨ek7_1, ek7_2, trivial⟩
noncomputable def m7 (a0 : (List T36)) (a1 : (List Int)) (a2 : (List T45)) (a3 : Int) : Option (Bool) :=
  (m8).bind fun r1 =>
  (m9 a0 a1 a2).bind fun r2 =>
  bif (!r2) then
    some r1
  else
    (m11 a0 a1 a2 a3).bind fun r3 =>
    (m22 a0 a1 a2 a3).bind fun r4 =>
    bif ((r3.2.1 != 0) || (r4.2.2.1 != 0)) then
      some (r1 && ((r3.2.1 == 0) || (r4.2.2.1 == 1)))
    else
      (m11 a0 r4.1 r4.2.1 a3).bind fun r5 =>
      (bif ((r5.2.1 != 0) == false) then (m15 r3.1 r5.1) else some false).bind fun r6 =>
      bif ((r5.2.1 != 0) || (!r6)) then
        some false
      else
        l7_1 a2 a3 (fun y11 =>
            bif (!y11) then
              some r1
            else
              l7_2 a1 r3.1 (fun y17 =>
                  some (r1 && (y17 == (List.length r3.1 : Int)))) (
                  some false) FUEL 0 0) FUEL true 0
noncomputable def e7 : PmE := entry 7 [(.sl G36), (.sl (.int .i64)), (.sl G45), (.int .i64)] false .bool (fun x => m7 x.1 x.2.1 x.2.2.1 x.2.2.2.1)
theorem q7 (x : tyL [(.sl G36), (.sl (.int .i64)), (.sl G45), (.int .i64)]) : execF E7 C7 Try.f7 (datL [(.sl G36), (.sl (.int .i64)), (.sl G45), (.int .i64)] x) [] (retK false .bool) = m7 x.1 x.2.1 x.2.2.1 x.2.2.2.1 := by kernel_rfl
theorem p7 : PmOk Try.prog e7 := pm_ok (E := E7) ok7 ord lm7 Try.func7 ca7 q7

end Go.Proofs.Ytjoehgmdkeigiaa
