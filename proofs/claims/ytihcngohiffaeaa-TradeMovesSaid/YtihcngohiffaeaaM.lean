/- Models of the functions that the statements reach. -/
import Derived.Test.YtihcngohiffaeaaE32
import Derived.Test.YtihcngohiffaeaaChecked
import Derived.KernelRfl
namespace Go.Proofs.Ytihcngohiffaeaa
open Go Go.Eng
set_option linter.unusedVariables false

/-- x, y, signed, code -/
abbrev G7 : GT := .cons (.int .i64) (.cons (.int .i64) (.cons .bool (.cons (.int .u8) (.nil))))
abbrev T7 : Type := Int × Int × Bool × Int × Unit
/-- msg, addr -/
abbrev G13 : GT := .cons .str (.cons (.int .u64) (.nil))
abbrev T13 : Type := (List UInt8) × Int × Unit
/-- Kind, From, To, Units, Made, Due, Done, Back -/
abbrev G25 : GT := .cons (.int .i64) (.cons (.int .i64) (.cons (.int .i64) (.cons (.int .i64) (.cons (.int .i64) (.cons (.int .i64) (.cons (.int .i64) (.cons (.int .i64) (.nil))))))))
abbrev T25 : Type := Int × Int × Int × Int × Int × Int × Int × Int × Unit
/-- Parent, Owner -/
abbrev G60 : GT := .cons (.int .i64) (.cons (.int .i64) (.nil))
abbrev T60 : Type := Int × Int × Unit

theorem ord : Try.prog.follows .mixedOrders = true := by kernel_rfl

/-! 22: consol/consollaw32.seats -/
theorem ca22 : callable Try.prog 22 := ⟨Try.f22, Try.func22, by kernel_rfl, by kernel_rfl⟩
noncomputable def E22 : Env := mkEnv2 Try.prog [] []
theorem ok22 : EnvOk E22 := mkEnv2_ok (by simp) (by simp)
noncomputable def C22 : Cfg := noCfg
theorem lm22 : ∀ c, Try.f22.body = some c → LmOk E22 C22 Try.f22.ntmps c := fun _ _ => noCfg_lm
noncomputable def m22  : Option ((List T60)) :=
  some [((-1), (-1), ()), ((-1), (-1), ()), ((-1), (-1), ())]
noncomputable def e22 : PmE := entry 22 [] false (.sl G60) (fun x => m22 )
theorem q22 (x : tyL []) : execF E22 C22 Try.f22 (datL [] x) [] (retK false (.sl G60)) = m22  := by kernel_rfl
theorem p22 : PmOk Try.prog e22 := pm_ok (E := E22) ok22 ord lm22 Try.func22 ca22 q22

/-! 23: consol/consollaw32.some -/
theorem ca23 : callable Try.prog 23 := ⟨Try.f23, Try.func23, by kernel_rfl, by kernel_rfl⟩
noncomputable def E23 : Env := mkEnv2 Try.prog [] []
theorem ok23 : EnvOk E23 := mkEnv2_ok (by simp) (by simp)
noncomputable def C23 : Cfg := noCfg
theorem lm23 : ∀ c, Try.f23.body = some c → LmOk E23 C23 Try.f23.ntmps c := fun _ _ => noCfg_lm
noncomputable def m23  : Option ((List T25)) :=
  some [(0, 1, 2, 5, 1, 3, (-1), 0, ()), (0, 0, 1, 6, 1, 4, (-1), 0, ()), (1, 0, 2, 4, 1, 4, (-1), 9, ())]
noncomputable def e23 : PmE := entry 23 [] false (.sl G25) (fun x => m23 )
theorem q23 (x : tyL []) : execF E23 C23 Try.f23 (datL [] x) [] (retK false (.sl G25)) = m23  := by kernel_rfl
theorem p23 : PmOk Try.prog e23 := pm_ok (E := E23) ok23 ord lm23 Try.func23 ca23 q23

/-! 40: consol/book.levels -/
theorem ca40 : callable Try.prog 40 := ⟨Try.f40, Try.func40, by kernel_rfl, by kernel_rfl⟩
noncomputable def E40 : Env := mkEnv2 Try.prog [] []
theorem ok40 : EnvOk E40 := mkEnv2_ok (by simp) (by simp)
/-- a round of a loop of consol/book.levels -/
noncomputable def s40_1 {R : Type} (t13 : (List T60)) (t14 : Int) (kn : Int → (List Int) → Option R) (k1 : (List Int) → Option R) (k2 : Option R) (t15 : Int) (o0 : (List Int)) : Option R :=
  bif (decide (t15 < t14)) then
    (idx t13 t15).bind fun x1 =>
    bif ((((decide (x1.1 < (-1))) || (decide (x1.1 ≥ t15))) || (decide (x1.2.1 < (-1)))) || (decide (x1.2.1 ≥ 60))) then
      k2
    else
      cont (fun (k4 : (List Int) → _) =>
        bif (decide (x1.1 ≥ 0)) then
          asrt true (decide (0 ≤ x1.1) && decide (x1.1 < (List.length o0 : Int))) (
            ((o0)[(x1.1 : Int).toNat]?).bind fun x2 =>
            asrt true (decide (0 ≤ t15) && decide (t15 < (List.length o0 : Int))) (
              ((o0)[(t15 : Int).toNat]?).bind fun x3 =>
              k4 (List.set o0 (t15 : Int).toNat (IntKind.i64.wrap (x2 + 1)))))
        else
          k4 o0) fun y4 =>
      asrt true (decide (0 ≤ t15) && decide (t15 < (List.length y4 : Int))) (
        ((y4)[(t15 : Int).toNat]?).bind fun x5 =>
        bif (decide (x5 > 4)) then
          k2
        else
          kn (IntKind.i64.wrap (t15 + 1)) y4)
  else
    k1 o0
noncomputable def l40_1 {R : Type} (t13 : (List T60)) (t14 : Int) (k1 : (List Int) → Option R) (k2 : Option R) : Nat → Int → (List Int) → Option R
  | 0, _, _ => none
  | n + 1, t15, o0 => s40_1 t13 t14 (l40_1 t13 t14 k1 k2 n) k1 k2 t15 o0
noncomputable def L40_1 : LE := ⟨6, 0, ⟨[(4, (.own 0)), (13, (.dat (.sl G60))), (14, (.dat (.int .i64))), (15, (.dat (.int .i64)))], [(.arr (.int .i64))]⟩, fun R n x k => l40_1 x.1.2.1 x.1.2.2.1 (fun y0 => k (.exit 0) ⟨[(4, (.own 0))], [(.arr (.int .i64) y0)]⟩) (k .ret ⟨[(2, .nils), (3, (.dat .bool false))], []⟩) n x.1.2.2.2.1 x.2.1⟩
noncomputable def C40 : Cfg := mkCfg [(6, ⟨[4, 13, 14, 15], []⟩), (12, ⟨[4, 5, 13, 14, 15], []⟩), (14, ⟨[4, 13, 14, 15], []⟩)] [(6, (⟨[4], []⟩, ⟨[2, 3], []⟩))] (([(0, L40_1)] : List (Nat × LE)).map (·.2))
theorem ek40_1 : EOk E40 C40 Try.f40.ntmps (bodyL Try.f40 0) L40_1 := eok_of (e := L40_1) (fun R x Kn k => s40_1 x.1.2.1 x.1.2.2.1 (fun v0 v1 => Kn (((), x.1.2.1, x.1.2.2.1, v0, ()), (v1, ()))) (fun y0 => k (.exit 0) ⟨[(4, (.own 0))], [(.arr (.int .i64) y0)]⟩) (k .ret ⟨[(2, .nils), (3, (.dat .bool false))], []⟩) x.1.2.2.2.1 x.2.1) (fun _ _ _ => rfl) (fun _ _ _ _ => rfl) (fun R x Kn k => by kernel_rfl)
theorem lm40 : ∀ c, Try.f40.body = some c → LmOk E40 C40 Try.f40.ntmps c := lmOk_of (ps := [(0, L40_1)]) (by kernel_rfl) (by kernel_rfl) ⟨ek40_1, trivial⟩
noncomputable def m40 (a0 : (List T60)) : Option (((List Int) × (Bool × Unit))) :=
  bif (decide ((List.length a0 : Int) > 20000)) then
    some ([], false, ())
  else
    asrt true (decide (0 ≤ (List.length a0 : Int)) && decide ((List.length a0 : Int) ≤ (List.length a0 : Int)) && decide ((List.length a0 : Int) ≤ (LIM : Int))) (
      l40_1 a0 (List.length a0 : Int) (fun y6 =>
          some (y6, true, ())) (
          some ([], false, ())) FUEL 0 (List.replicate ((List.length a0 : Int) : Int).toNat 0))
theorem q40 (x : tyL [(.sl G60)]) : execF E40 C40 Try.f40 (datL [(.sl G60)] x) [] (retT [true, false] (.cons (.sl (.int .i64)) (.cons .bool .nil))) = m40 x.1 := by kernel_rfl
noncomputable def c40 : CmE := ownT 40 [(.sl G60)] [true, false] (.cons (.sl (.int .i64)) (.cons .bool .nil)) (fun x => m40 x.1)
theorem d40 : CmOk Try.prog c40 := ownT_ok ca40 (frun_of (E := E40) ok40 ord lm40 Try.func40 q40)

/-! 29: consol/book.Right -/
theorem ca29 : callable Try.prog 29 := ⟨Try.f29, Try.func29, by kernel_rfl, by kernel_rfl⟩
noncomputable def E29 : Env := mkEnv2 Try.prog [] [c40]
theorem ok29 : EnvOk E29 := mkEnv2_ok (by simp) (by simp only [List.mem_cons, List.not_mem_nil, or_false, forall_eq]; exact d40)
noncomputable def C29 : Cfg := noCfg
theorem lm29 : ∀ c, Try.f29.body = some c → LmOk E29 C29 Try.f29.ntmps c := fun _ _ => noCfg_lm
noncomputable def m29 (a0 : (List T60)) : Option (Bool) :=
  (m40 a0).bind fun r1 =>
  some r1.2.1
noncomputable def e29 : PmE := entry 29 [(.sl G60)] false .bool (fun x => m29 x.1)
theorem q29 (x : tyL [(.sl G60)]) : execF E29 C29 Try.f29 (datL [(.sl G60)] x) [] (retK false .bool) = m29 x.1 := by kernel_rfl
theorem p29 : PmOk Try.prog e29 := pm_ok (E := E29) ok29 ord lm29 Try.func29 ca29 q29

/-! 47: math/bits.Mul32 -/
theorem ca47 : callable Try.prog 47 := ⟨Try.f47, Try.func47, by kernel_rfl, by kernel_rfl⟩
noncomputable def E47 : Env := mkEnv2 Try.prog [] []
theorem ok47 : EnvOk E47 := mkEnv2_ok (by simp) (by simp)
noncomputable def C47 : Cfg := noCfg
theorem lm47 : ∀ c, Try.f47.body = some c → LmOk E47 C47 Try.f47.ntmps c := fun _ _ => noCfg_lm
noncomputable def m47 (a0 : Int) (a1 : Int) : Option ((Int × (Int × Unit))) :=
  some ((IntKind.u32.wrap (shr2 (IntKind.u64.wrap ((IntKind.u64.wrap a0) * (IntKind.u64.wrap a1))) 32)), (IntKind.u32.wrap (IntKind.u64.wrap ((IntKind.u64.wrap a0) * (IntKind.u64.wrap a1)))), ())
noncomputable def e47 : PmE := entry 47 [(.int .u32), (.int .u32)] true (.cons (.int .u32) (.cons (.int .u32) .nil)) (fun x => m47 x.1 x.2.1)
theorem q47 (x : tyL [(.int .u32), (.int .u32)]) : execF E47 C47 Try.f47 (datL [(.int .u32), (.int .u32)] x) [] (retK true (.cons (.int .u32) (.cons (.int .u32) .nil))) = m47 x.1 x.2.1 := by kernel_rfl
theorem p47 : PmOk Try.prog e47 := pm_ok (E := E47) ok47 ord lm47 Try.func47 ca47 q47

/-! 48: math/bits.Mul64 -/
theorem ca48 : callable Try.prog 48 := ⟨Try.f48, Try.func48, by kernel_rfl, by kernel_rfl⟩
noncomputable def E48 : Env := mkEnv2 Try.prog [] []
theorem ok48 : EnvOk E48 := mkEnv2_ok (by simp) (by simp)
noncomputable def C48 : Cfg := noCfg
theorem lm48 : ∀ c, Try.f48.body = some c → LmOk E48 C48 Try.f48.ntmps c := fun _ _ => noCfg_lm
noncomputable def m48 (a0 : Int) (a1 : Int) : Option ((Int × (Int × Unit))) :=
  some ((IntKind.u64.wrap ((IntKind.u64.wrap ((IntKind.u64.wrap ((shr2 a0 32) * (shr2 a1 32))) + (shr2 (IntKind.u64.wrap ((IntKind.u64.wrap ((shr2 a0 32) * (IntKind.u64.wrap ((BitVec.ofInt IntKind.u64.bits a1 &&& BitVec.ofInt IntKind.u64.bits 4294967295).toNat)))) + (shr2 (IntKind.u64.wrap ((IntKind.u64.wrap ((BitVec.ofInt IntKind.u64.bits a0 &&& BitVec.ofInt IntKind.u64.bits 4294967295).toNat)) * (IntKind.u64.wrap ((BitVec.ofInt IntKind.u64.bits a1 &&& BitVec.ofInt IntKind.u64.bits 4294967295).toNat)))) 32))) 32))) + (shr2 (IntKind.u64.wrap ((IntKind.u64.wrap ((BitVec.ofInt IntKind.u64.bits (IntKind.u64.wrap ((IntKind.u64.wrap ((shr2 a0 32) * (IntKind.u64.wrap ((BitVec.ofInt IntKind.u64.bits a1 &&& BitVec.ofInt IntKind.u64.bits 4294967295).toNat)))) + (shr2 (IntKind.u64.wrap ((IntKind.u64.wrap ((BitVec.ofInt IntKind.u64.bits a0 &&& BitVec.ofInt IntKind.u64.bits 4294967295).toNat)) * (IntKind.u64.wrap ((BitVec.ofInt IntKind.u64.bits a1 &&& BitVec.ofInt IntKind.u64.bits 4294967295).toNat)))) 32))) &&& BitVec.ofInt IntKind.u64.bits 4294967295).toNat)) + (IntKind.u64.wrap ((IntKind.u64.wrap ((BitVec.ofInt IntKind.u64.bits a0 &&& BitVec.ofInt IntKind.u64.bits 4294967295).toNat)) * (shr2 a1 32))))) 32))), (IntKind.u64.wrap (a0 * a1)), ())
noncomputable def e48 : PmE := entry 48 [(.int .u64), (.int .u64)] true (.cons (.int .u64) (.cons (.int .u64) .nil)) (fun x => m48 x.1 x.2.1)
theorem q48 (x : tyL [(.int .u64), (.int .u64)]) : execF E48 C48 Try.f48 (datL [(.int .u64), (.int .u64)] x) [] (retK true (.cons (.int .u64) (.cons (.int .u64) .nil))) = m48 x.1 x.2.1 := by kernel_rfl
theorem p48 : PmOk Try.prog e48 := pm_ok (E := E48) ok48 ord lm48 Try.func48 ca48 q48

/-! 46: math/bits.Mul -/
theorem ca46 : callable Try.prog 46 := ⟨Try.f46, Try.func46, by kernel_rfl, by kernel_rfl⟩
noncomputable def E46 : Env := mkEnv2 Try.prog [e48] []
theorem ok46 : EnvOk E46 := mkEnv2_ok (by simp only [List.mem_cons, List.not_mem_nil, or_false, forall_eq]; exact p48) (by simp)
noncomputable def C46 : Cfg := noCfg
theorem lm46 : ∀ c, Try.f46.body = some c → LmOk E46 C46 Try.f46.ntmps c := fun _ _ => noCfg_lm
noncomputable def m46 (a0 : Int) (a1 : Int) : Option ((Int × (Int × Unit))) :=
  (m48 a0 a1).bind fun r1 =>
  some (r1.1, r1.2.1, ())
noncomputable def e46 : PmE := entry 46 [(.int .u64), (.int .u64)] true (.cons (.int .u64) (.cons (.int .u64) .nil)) (fun x => m46 x.1 x.2.1)
theorem q46 (x : tyL [(.int .u64), (.int .u64)]) : execF E46 C46 Try.f46 (datL [(.int .u64), (.int .u64)] x) [] (retK true (.cons (.int .u64) (.cons (.int .u64) .nil))) = m46 x.1 x.2.1 := by kernel_rfl
theorem p46 : PmOk Try.prog e46 := pm_ok (E := E46) ok46 ord lm46 Try.func46 ca46 q46

/-! 41: slices.Repeat[[]bool,bool] -/
theorem ca41 : callable Try.prog 41 := ⟨Try.f41, Try.func41, by kernel_rfl, by kernel_rfl⟩
noncomputable def E41 : Env := mkEnv2 Try.prog [e46] [] [39, 42]
theorem ok41 : EnvOk E41 := mkEnv2_ok (by simp only [List.mem_cons, List.not_mem_nil, or_false, forall_eq]; exact p46) (by simp)
/-- a round of a loop of slices.Repeat[[]bool,bool] -/
noncomputable def s41_1 {R : Type} (kn : Int → (List Bool) → Option R) (k1 : (List Bool) → Option R) (t8 : Int) (o0 : (List Bool)) : Option R :=
  bif (decide (t8 < (List.length o0 : Int))) then
    asrt true (bounds true (List.length (α := Bool) o0) t8 ((List.length (α := Bool) o0) : Int)) (
      asrt true (bounds true (List.length (α := Bool) o0) 0 t8) (
        asrt true (decide (0 + (Int.toNat t8) ≤ (List.length (α := Bool) o0))) (
          asrt true (decide ((Int.toNat t8) + ((List.length (α := Bool) o0) - (Int.toNat t8)) ≤ (List.length (α := Bool) o0))) (
            kn (IntKind.i64.wrap (t8 + ((min (List.length (α := Bool) (List.take (Int.toNat t8) (List.drop (α := Bool) 0 o0))) ((List.length (α := Bool) o0) - (Int.toNat t8)) : Nat) : Int))) (patch (α := Bool) o0 (Int.toNat t8) ((List.length (α := Bool) o0) - (Int.toNat t8)) (List.take (Int.toNat t8) (List.drop (α := Bool) 0 o0)))))))
  else
    k1 o0
noncomputable def l41_1 {R : Type} (k1 : (List Bool) → Option R) : Nat → Int → (List Bool) → Option R
  | 0, _, _ => none
  | n + 1, t8, o0 => s41_1 (l41_1 k1 n) k1 t8 o0
noncomputable def L41_1 : LE := ⟨9, 0, ⟨[(7, (.own 0)), (8, (.dat (.int .i64)))], [(.arr .bool)]⟩, fun R n x k => l41_1 (fun y0 => k (.exit 0) ⟨[(7, (.own 0))], [(.arr .bool y0)]⟩) n x.1.2.1 x.2.1⟩
noncomputable def C41 : Cfg := mkCfg [(4, ⟨[0, 1], []⟩), (7, ⟨[0, 6], []⟩), (9, ⟨[7, 8], []⟩)] [(9, (⟨[7], []⟩, ⟨[4], []⟩))] (([(0, L41_1)] : List (Nat × LE)).map (·.2))
theorem ek41_1 : EOk E41 C41 Try.f41.ntmps (bodyL Try.f41 0) L41_1 := eok_of (e := L41_1) (fun R x Kn k => s41_1 (fun v0 v1 => Kn (((), v0, ()), (v1, ()))) (fun y0 => k (.exit 0) ⟨[(7, (.own 0))], [(.arr .bool y0)]⟩) x.1.2.1 x.2.1) (fun _ _ _ => rfl) (fun _ _ _ _ => rfl) (fun R x Kn k => by kernel_rfl)
theorem lm41 : ∀ c, Try.f41.body = some c → LmOk E41 C41 Try.f41.ntmps c := lmOk_of (ps := [(0, L41_1)]) (by kernel_rfl) (by kernel_rfl) ⟨ek41_1, trivial⟩
noncomputable def m41 (a0 : (List Bool)) (a1 : Int) : Option ((List Bool)) :=
  bif (decide (a1 < 0)) then
    none
  else
    (m46 (IntKind.u64.wrap (List.length a0 : Int)) (IntKind.u64.wrap a1)).bind fun r1 =>
    bif ((decide (r1.1 > 0)) || (decide (r1.2.1 > 9223372036854775807))) then
      none
    else
      asrt true (decide (0 ≤ (IntKind.i64.wrap r1.2.1)) && decide ((IntKind.i64.wrap r1.2.1) ≤ (IntKind.i64.wrap r1.2.1)) && decide ((IntKind.i64.wrap r1.2.1) ≤ (LIM : Int))) (
        l41_1 (fun y2 =>
            some y2) FUEL ((min (List.length (α := Bool) a0) (List.length (α := Bool) (List.replicate ((IntKind.i64.wrap r1.2.1) : Int).toNat false)) : Nat) : Int) (patch (α := Bool) (List.replicate ((IntKind.i64.wrap r1.2.1) : Int).toNat false) 0 (List.length (α := Bool) (List.replicate ((IntKind.i64.wrap r1.2.1) : Int).toNat false)) a0))
noncomputable def e41 : PmE := entry 41 [(.sl .bool), (.int .i64)] false (.sl .bool) (fun x => m41 x.1 x.2.1)
theorem q41 (x : tyL [(.sl .bool), (.int .i64)]) : execF E41 C41 Try.f41 (datL [(.sl .bool), (.int .i64)] x) [] (retK false (.sl .bool)) = m41 x.1 x.2.1 := by kernel_rfl
theorem p41 : PmOk Try.prog e41 := pm_ok (E := E41) ok41 ord lm41 Try.func41 ca41 q41

noncomputable def cK41 : CmE := konE 41 [(.sl .bool), (.int .i64)] false (.sl .bool) (fun x => m41 x.1 x.2.1)
theorem dK41 : CmOk Try.prog cK41 := kon_ok p41

/-! 30: consol/trade.leaves -/
noncomputable def E30i41 : Env := mkEnv2 Try.prog [e46] [] [39, 42]
theorem ok30i41 : EnvOk E30i41 := mkEnv2_ok (by simp only [List.mem_cons, List.not_mem_nil, or_false, forall_eq]; exact p46) (by simp)
/-- a round of a loop of slices.Repeat[[]bool,bool] -/
noncomputable def s30_1 {R : Type} (kn : Int → (List Bool) → Option R) (k1 : (List Bool) → Option R) (t8 : Int) (o1 : (List Bool)) : Option R :=
  bif (decide (t8 < (List.length o1 : Int))) then
    asrt true (bounds true (List.length (α := Bool) o1) t8 ((List.length (α := Bool) o1) : Int)) (
      asrt true (bounds true (List.length (α := Bool) o1) 0 t8) (
        asrt true (decide (0 + (Int.toNat t8) ≤ (List.length (α := Bool) o1))) (
          asrt true (decide ((Int.toNat t8) + ((List.length (α := Bool) o1) - (Int.toNat t8)) ≤ (List.length (α := Bool) o1))) (
            kn (IntKind.i64.wrap (t8 + ((min (List.length (α := Bool) (List.take (Int.toNat t8) (List.drop (α := Bool) 0 o1))) ((List.length (α := Bool) o1) - (Int.toNat t8)) : Nat) : Int))) (patch (α := Bool) o1 (Int.toNat t8) ((List.length (α := Bool) o1) - (Int.toNat t8)) (List.take (Int.toNat t8) (List.drop (α := Bool) 0 o1)))))))
  else
    k1 o1
noncomputable def l30_1 {R : Type} (k1 : (List Bool) → Option R) : Nat → Int → (List Bool) → Option R
  | 0, _, _ => none
  | n + 1, t8, o1 => s30_1 (l30_1 k1 n) k1 t8 o1
noncomputable def L30_1 : LE := ⟨9, 1, ⟨[(7, (.own 1)), (8, (.dat (.int .i64)))], [(.arr .bool), (.arr .bool)]⟩, fun R n x k => l30_1 (fun y0 => k (.exit 0) ⟨[(7, (.own 1))], [(.arr .bool x.2.1), (.arr .bool y0)]⟩) n x.1.2.1 x.2.2.1⟩
noncomputable def C30i41 : Cfg := mkCfg [(4, ⟨[0, 1], []⟩), (7, ⟨[0, 6], []⟩), (9, ⟨[7, 8], []⟩)] [(9, (⟨[7], []⟩, ⟨[4], []⟩))] (([(0, L30_1)] : List (Nat × LE)).map (·.2))
theorem ek30_1 : EOk E30i41 C30i41 Try.f41.ntmps (bodyL Try.f41 0) L30_1 := eok_of (e := L30_1) (fun R x Kn k => s30_1 (fun v0 v1 => Kn (((), v0, ()), (x.2.1, v1, ()))) (fun y0 => k (.exit 0) ⟨[(7, (.own 1))], [(.arr .bool x.2.1), (.arr .bool y0)]⟩) x.1.2.1 x.2.2.1) (fun _ _ _ => rfl) (fun _ _ _ _ => rfl) (fun R x Kn k => by kernel_rfl)
theorem lm30i41 : ∀ c, Try.f41.body = some c → LmOk E30i41 C30i41 Try.f41.ntmps c := lmOk_of (ps := [(0, L30_1)]) (by kernel_rfl) (by kernel_rfl) ⟨ek30_1, trivial⟩
noncomputable def c30i41 : CmE := inl E30i41 C30i41 41 Try.f41
theorem d30i41 : CmOk Try.prog c30i41 := inl_ok (E := E30i41) ok30i41 ord lm30i41 Try.func41 ca41

theorem ca30 : callable Try.prog 30 := ⟨Try.f30, Try.func30, by kernel_rfl, by kernel_rfl⟩
noncomputable def E30 : Env := mkEnv2 Try.prog [] [c30i41]
theorem ok30 : EnvOk E30 := mkEnv2_ok (by simp) (by simp only [List.mem_cons, List.not_mem_nil, or_false, forall_eq]; exact d30i41)
/-- a round of a loop of consol/trade.leaves -/
noncomputable def s30_2 {R : Type} (t10 : (List T60)) (t11 : Int) (kn : Int → (List Bool) → Option R) (k1 : (List Bool) → Option R) (t12 : Int) (o0 : (List Bool)) : Option R :=
  bif (decide (t12 < t11)) then
    cont (fun (k5 : (List Bool) → _) =>
      (idx t10 t12).bind fun x3 =>
      bif (decide (x3.1 ≥ 0)) then
        asrt true (decide (0 ≤ x3.1) && decide (x3.1 < (List.length o0 : Int))) (
          ((o0)[(x3.1 : Int).toNat]?).bind fun x4 =>
          k5 (List.set o0 (x3.1 : Int).toNat false))
      else
        k5 o0) fun y5 =>
    kn (IntKind.i64.wrap (t12 + 1)) y5
  else
    k1 o0
noncomputable def l30_2 {R : Type} (t10 : (List T60)) (t11 : Int) (k1 : (List Bool) → Option R) : Nat → Int → (List Bool) → Option R
  | 0, _, _ => none
  | n + 1, t12, o0 => s30_2 t10 t11 (l30_2 t10 t11 k1 n) k1 t12 o0
noncomputable def L30_2 : LE := ⟨4, 0, ⟨[(3, (.own 0)), (10, (.dat (.sl G60))), (11, (.dat (.int .i64))), (12, (.dat (.int .i64)))], [(.arr .bool)]⟩, fun R n x k => l30_2 x.1.2.1 x.1.2.2.1 (fun y0 => k (.exit 0) ⟨[(3, (.own 0))], [(.arr .bool y0)]⟩) n x.1.2.2.2.1 x.2.1⟩
noncomputable def C30 : Cfg := mkCfg [(4, ⟨[3, 10, 11, 12], []⟩), (8, ⟨[3, 10, 11, 12], []⟩)] [(4, (⟨[3], []⟩, ⟨[2], []⟩))] (([(0, L30_2)] : List (Nat × LE)).map (·.2))
theorem ek30_2 : EOk E30 C30 Try.f30.ntmps (bodyL Try.f30 0) L30_2 := eok_of (e := L30_2) (fun R x Kn k => s30_2 x.1.2.1 x.1.2.2.1 (fun v0 v1 => Kn (((), x.1.2.1, x.1.2.2.1, v0, ()), (v1, ()))) (fun y0 => k (.exit 0) ⟨[(3, (.own 0))], [(.arr .bool y0)]⟩) x.1.2.2.2.1 x.2.1) (fun _ _ _ => rfl) (fun _ _ _ _ => rfl) (fun R x Kn k => by kernel_rfl)
theorem lm30 : ∀ c, Try.f30.body = some c → LmOk E30 C30 Try.f30.ntmps c := lmOk_of (ps := [(0, L30_2)]) (by kernel_rfl) (by kernel_rfl) ⟨ek30_2, trivial⟩
noncomputable def m30 (a0 : (List T60)) : Option ((List Bool)) :=
  bif (decide ((List.length a0 : Int) < 0)) then
    none
  else
    (m46 (IntKind.u64.wrap (List.length [true] : Int)) (IntKind.u64.wrap (List.length a0 : Int))).bind fun r1 =>
    bif ((decide (r1.1 > 0)) || (decide (r1.2.1 > 9223372036854775807))) then
      none
    else
      asrt true (decide (0 ≤ (IntKind.i64.wrap r1.2.1)) && decide ((IntKind.i64.wrap r1.2.1) ≤ (IntKind.i64.wrap r1.2.1)) && decide ((IntKind.i64.wrap r1.2.1) ≤ (LIM : Int))) (
        l30_1 (fun y2 =>
            l30_2 a0 (List.length a0 : Int) (fun y6 =>
                some y6) FUEL 0 y2) FUEL ((min (List.length (α := Bool) [true]) (List.length (α := Bool) (List.replicate ((IntKind.i64.wrap r1.2.1) : Int).toNat false)) : Nat) : Int) (patch (α := Bool) (List.replicate ((IntKind.i64.wrap r1.2.1) : Int).toNat false) 0 (List.length (α := Bool) (List.replicate ((IntKind.i64.wrap r1.2.1) : Int).toNat false)) [true]))
noncomputable def e30 : PmE := entry 30 [(.sl G60)] false (.sl .bool) (fun x => m30 x.1)
theorem q30 (x : tyL [(.sl G60)]) : execF E30 C30 Try.f30 (datL [(.sl G60)] x) [] (retK false (.sl .bool)) = m30 x.1 := by kernel_rfl
theorem p30 : PmOk Try.prog e30 := pm_ok (E := E30) ok30 ord lm30 Try.func30 ca30 q30

noncomputable def cK30 : CmE := konE 30 [(.sl G60)] false (.sl .bool) (fun x => m30 x.1)
theorem dK30 : CmOk Try.prog cK30 := kon_ok p30

/-! 25: consol/trade.day -/
theorem ca25 : callable Try.prog 25 := ⟨Try.f25, Try.func25, by kernel_rfl, by kernel_rfl⟩
noncomputable def E25 : Env := mkEnv2 Try.prog [] []
theorem ok25 : EnvOk E25 := mkEnv2_ok (by simp) (by simp)
noncomputable def C25 : Cfg := noCfg
theorem lm25 : ∀ c, Try.f25.body = some c → LmOk E25 C25 Try.f25.ntmps c := fun _ _ => noCfg_lm
noncomputable def m25 (a0 : Int) : Option (Bool) :=
  some ((decide (a0 ≥ 0)) && (decide (a0 ≤ 200000)))
noncomputable def e25 : PmE := entry 25 [(.int .i64)] false .bool (fun x => m25 x.1)
theorem q25 (x : tyL [(.int .i64)]) : execF E25 C25 Try.f25 (datL [(.int .i64)] x) [] (retK false .bool) = m25 x.1 := by kernel_rfl
theorem p25 : PmOk Try.prog e25 := pm_ok (E := E25) ok25 ord lm25 Try.func25 ca25 q25

/-! 33: consol/trade.one -/
theorem ca43 : callable Try.prog 43 := ⟨Try.f43, Try.func43, by kernel_rfl, by kernel_rfl⟩
noncomputable def E33i43 : Env := mkEnv2 Try.prog [] []
theorem ok33i43 : EnvOk E33i43 := mkEnv2_ok (by simp) (by simp)
noncomputable def C33i43 : Cfg := noCfg
theorem lm33i43 : ∀ c, Try.f43.body = some c → LmOk E33i43 C33i43 Try.f43.ntmps c := fun _ _ => noCfg_lm
noncomputable def c33i43 : CmE := inl E33i43 C33i43 43 Try.f43
theorem d33i43 : CmOk Try.prog c33i43 := inl_ok (E := E33i43) ok33i43 ord lm33i43 Try.func43 ca43

theorem ca33 : callable Try.prog 33 := ⟨Try.f33, Try.func33, by kernel_rfl, by kernel_rfl⟩
noncomputable def E33 : Env := mkEnv2 Try.prog [e25] [c33i43]
theorem ok33 : EnvOk E33 := mkEnv2_ok (by simp only [List.mem_cons, List.not_mem_nil, or_false, forall_eq]; exact p25) (by simp only [List.mem_cons, List.not_mem_nil, or_false, forall_eq]; exact d33i43)
noncomputable def C33 : Cfg := noCfg
theorem lm33 : ∀ c, Try.f33.body = some c → LmOk E33 C33 Try.f33.ntmps c := fun _ _ => noCfg_lm
noncomputable def m33 (a0 : (List Bool)) (a1 : T25) : Option (Bool) :=
  (idxG (((decide (a1.2.1 ≥ 0)) && (decide (a1.2.1 < (List.length a0 : Int)))) == true) false a0 a1.2.1).bind fun x1 =>
  bif ((!(((decide (a1.2.1 ≥ 0)) && (decide (a1.2.1 < (List.length a0 : Int)))) && x1)) == false) then
    (idxG (((decide (a1.2.2.1 ≥ 0)) && (decide (a1.2.2.1 < (List.length a0 : Int)))) == true) false a0 a1.2.2.1).bind fun x2 =>
    bif (((((!(((decide (a1.2.1 ≥ 0)) && (decide (a1.2.1 < (List.length a0 : Int)))) && x1)) || (!(((decide (a1.2.2.1 ≥ 0)) && (decide (a1.2.2.1 < (List.length a0 : Int)))) && x2))) || (a1.2.1 == a1.2.2.1)) || (decide (a1.2.2.2.1 < 1))) || (decide (a1.2.2.2.1 > 1000000000))) then
      some false
    else
      (m25 a1.2.2.2.2.1).bind fun r3 =>
      (bif ((!r3) == false) then (m25 a1.2.2.2.2.2.1) else some false).bind fun r4 =>
      (bif (((((!r3) || (!r4)) || (decide (a1.2.2.2.2.1 > a1.2.2.2.2.2.1))) == false) && ((a1.2.2.2.2.2.2.1 != (-1)) == true)) then (m25 a1.2.2.2.2.2.2.1) else some false).bind fun r5 =>
      bif ((((!r3) || (!r4)) || (decide (a1.2.2.2.2.1 > a1.2.2.2.2.2.1))) || ((a1.2.2.2.2.2.2.1 != (-1)) && ((!r5) || (decide (a1.2.2.2.2.2.2.1 < a1.2.2.2.2.2.1))))) then
        some false
      else
        bif (a1.1 == 0) then
          some (a1.2.2.2.2.2.2.2.1 == 0)
        else
          bif (a1.1 == 1) then
            (m25 a1.2.2.2.2.2.2.2.1).bind fun r6 =>
            some (r6 && (decide (a1.2.2.2.2.2.2.2.1 > a1.2.2.2.2.2.1)))
          else
            some false
  else
    bif (((((!(((decide (a1.2.1 ≥ 0)) && (decide (a1.2.1 < (List.length a0 : Int)))) && x1)) || true) || (a1.2.1 == a1.2.2.1)) || (decide (a1.2.2.2.1 < 1))) || (decide (a1.2.2.2.1 > 1000000000))) then
      some false
    else
      (m25 a1.2.2.2.2.1).bind fun r7 =>
      (bif ((!r7) == false) then (m25 a1.2.2.2.2.2.1) else some false).bind fun r8 =>
      (bif (((((!r7) || (!r8)) || (decide (a1.2.2.2.2.1 > a1.2.2.2.2.2.1))) == false) && ((a1.2.2.2.2.2.2.1 != (-1)) == true)) then (m25 a1.2.2.2.2.2.2.1) else some false).bind fun r9 =>
      bif ((((!r7) || (!r8)) || (decide (a1.2.2.2.2.1 > a1.2.2.2.2.2.1))) || ((a1.2.2.2.2.2.2.1 != (-1)) && ((!r9) || (decide (a1.2.2.2.2.2.2.1 < a1.2.2.2.2.2.1))))) then
        some false
      else
        bif (a1.1 == 0) then
          some (a1.2.2.2.2.2.2.2.1 == 0)
        else
          bif (a1.1 == 1) then
            (m25 a1.2.2.2.2.2.2.2.1).bind fun r10 =>
            some (r10 && (decide (a1.2.2.2.2.2.2.2.1 > a1.2.2.2.2.2.1)))
          else
            some false
noncomputable def e33 : PmE := entry 33 [(.sl .bool), G25] false .bool (fun x => m33 x.1 x.2.1)
theorem q33 (x : tyL [(.sl .bool), G25]) : execF E33 C33 Try.f33 (datL [(.sl .bool), G25] x) [] (retK false .bool) = m33 x.1 x.2.1 := by kernel_rfl
theorem p33 : PmOk Try.prog e33 := pm_ok (E := E33) ok33 ord lm33 Try.func33 ca33 q33

/-! 10: consol/trade.Right -/
theorem ca32 : callable Try.prog 32 := ⟨Try.f32, Try.func32, by kernel_rfl, by kernel_rfl⟩
noncomputable def E10i32 : Env := mkEnv2 Try.prog [e33] []
theorem ok10i32 : EnvOk E10i32 := mkEnv2_ok (by simp only [List.mem_cons, List.not_mem_nil, or_false, forall_eq]; exact p33) (by simp)
noncomputable def C10i32 : Cfg := noCfg
theorem lm10i32 : ∀ c, Try.f32.body = some c → LmOk E10i32 C10i32 Try.f32.ntmps c := fun _ _ => noCfg_lm
noncomputable def c10i32 : CmE := inl E10i32 C10i32 32 Try.f32
theorem d10i32 : CmOk Try.prog c10i32 := inl_ok (E := E10i32) ok10i32 ord lm10i32 Try.func32 ca32

theorem ca42 : callable Try.prog 42 := ⟨Try.f42, Try.func42, by kernel_rfl, by kernel_rfl⟩
noncomputable def E10i42 : Env := mkEnv2 Try.prog [] [c10i32]
theorem ok10i42 : EnvOk E10i42 := mkEnv2_ok (by simp) (by simp only [List.mem_cons, List.not_mem_nil, or_false, forall_eq]; exact d10i32)
/-- a round of a loop of slices.IndexFunc[[]consol/api.Trade,consol/api.Trade] -/
noncomputable def s10_1 {R : Type} (t0 : (List T25)) (t7 : Int) (o0 : (List Bool)) (kn : Int → Option R) (k1 : Option R) (k2 : Int → Option R) (t8 : Int) : Option R :=
  bif (decide (t8 < t7)) then
    (idx t0 t8).bind fun x3 =>
    (m33 o0 x3).bind fun r4 =>
    bif (!r4) then
      k2 t8
    else
      kn (IntKind.i64.wrap (t8 + 1))
  else
    k1
noncomputable def l10_1 {R : Type} (t0 : (List T25)) (t7 : Int) (o0 : (List Bool)) (k1 : Option R) (k2 : Int → Option R) : Nat → Int → Option R
  | 0, _ => none
  | n + 1, t8 => s10_1 t0 t7 o0 (l10_1 t0 t7 o0 k1 k2 n) k1 k2 t8
noncomputable def L10_1 : LE := ⟨3, 1, ⟨[(0, (.dat (.sl G25))), (1, (.fn 32 (.scons (.box 0 [] 0) .snil))), (7, (.dat (.int .i64))), (8, (.dat (.int .i64)))], [(.box (.dat (.sl .bool)))]⟩, fun R n x k => l10_1 x.1.1 x.1.2.2.1 x.2.1 (k (.exit 0) ⟨[], [(.box (.dat (.sl .bool) x.2.1))]⟩) (fun y0 => k .ret ⟨[(4, (.dat (.int .i64) y0))], [(.box (.dat (.sl .bool) x.2.1))]⟩) n x.1.2.2.2.1⟩
noncomputable def C10i42 : Cfg := mkCfg [(3, ⟨[0, 1, 7, 8], []⟩)] [(3, (⟨[], []⟩, ⟨[4], []⟩))] (([(0, L10_1)] : List (Nat × LE)).map (·.2))
theorem ek10_1 : EOk E10i42 C10i42 Try.f42.ntmps (bodyL Try.f42 0) L10_1 := eok_of (e := L10_1) (fun R x Kn k => s10_1 x.1.1 x.1.2.2.1 x.2.1 (fun v0 => Kn ((x.1.1, ((), ()), x.1.2.2.1, v0, ()), (x.2.1, ()))) (k (.exit 0) ⟨[], [(.box (.dat (.sl .bool) x.2.1))]⟩) (fun y0 => k .ret ⟨[(4, (.dat (.int .i64) y0))], [(.box (.dat (.sl .bool) x.2.1))]⟩) x.1.2.2.2.1) (fun _ _ _ => rfl) (fun _ _ _ _ => rfl) (fun R x Kn k => by kernel_rfl)
theorem lm10i42 : ∀ c, Try.f42.body = some c → LmOk E10i42 C10i42 Try.f42.ntmps c := lmOk_of (ps := [(0, L10_1)]) (by kernel_rfl) (by kernel_rfl) ⟨ek10_1, trivial⟩
noncomputable def c10i42 : CmE := inl E10i42 C10i42 42 Try.f42
theorem d10i42 : CmOk Try.prog c10i42 := inl_ok (E := E10i42) ok10i42 ord lm10i42 Try.func42 ca42

theorem ca31 : callable Try.prog 31 := ⟨Try.f31, Try.func31, by kernel_rfl, by kernel_rfl⟩
noncomputable def E10i31 : Env := mkEnv2 Try.prog [] [c10i42]
theorem ok10i31 : EnvOk E10i31 := mkEnv2_ok (by simp) (by simp only [List.mem_cons, List.not_mem_nil, or_false, forall_eq]; exact d10i42)
noncomputable def C10i31 : Cfg := noCfg
theorem lm10i31 : ∀ c, Try.f31.body = some c → LmOk E10i31 C10i31 Try.f31.ntmps c := fun _ _ => noCfg_lm
noncomputable def c10i31 : CmE := inl E10i31 C10i31 31 Try.f31
theorem d10i31 : CmOk Try.prog c10i31 := inl_ok (E := E10i31) ok10i31 ord lm10i31 Try.func31 ca31

theorem ca10 : callable Try.prog 10 := ⟨Try.f10, Try.func10, by kernel_rfl, by kernel_rfl⟩
noncomputable def E10 : Env := mkEnv2 Try.prog [e29, e30] [c10i31]
theorem ok10 : EnvOk E10 := mkEnv2_ok (by simp only [List.mem_cons, List.not_mem_nil, or_false, forall_eq_or_imp, forall_eq]; exact ⟨p29, p30⟩) (by simp only [List.mem_cons, List.not_mem_nil, or_false, forall_eq]; exact d10i31)
noncomputable def C10 : Cfg := noCfg
theorem lm10 : ∀ c, Try.f10.body = some c → LmOk E10 C10 Try.f10.ntmps c := fun _ _ => noCfg_lm
noncomputable def m10 (a0 : (List T60)) (a1 : (List T25)) : Option (Bool) :=
  (m29 a0).bind fun r1 =>
  bif ((!r1) || (decide ((List.length a1 : Int) > 10000))) then
    some false
  else
    (m30 a0).bind fun r2 =>
    l10_1 a1 (List.length a1 : Int) r2 (
        some (!(decide ((-1) ≥ 0)))) (fun y5 =>
        some (!(decide (y5 ≥ 0)))) FUEL 0
noncomputable def e10 : PmE := entry 10 [(.sl G60), (.sl G25)] false .bool (fun x => m10 x.1 x.2.1)
theorem q10 (x : tyL [(.sl G60), (.sl G25)]) : execF E10 C10 Try.f10 (datL [(.sl G60), (.sl G25)] x) [] (retK false .bool) = m10 x.1 x.2.1 := by kernel_rfl
theorem p10 : PmOk Try.prog e10 := pm_ok (E := E10) ok10 ord lm10 Try.func10 ca10 q10

/-! 24: consol/trade.valid -/
theorem ca24 : callable Try.prog 24 := ⟨Try.f24, Try.func24, by kernel_rfl, by kernel_rfl⟩
noncomputable def E24 : Env := mkEnv2 Try.prog [e30] []
theorem ok24 : EnvOk E24 := mkEnv2_ok (by simp only [List.mem_cons, List.not_mem_nil, or_false, forall_eq]; exact p30) (by simp)
/-- a round of a loop of consol/trade.valid -/
noncomputable def s24_1 {R : Type} (t1 : (List Int)) (t15 : (List Bool)) (t16 : Int) (kn : Int → Int → Option R) (k1 : Option R) (k2 : Option R) (t5 : Int) (t17 : Int) : Option R :=
  bif (decide (t17 < t16)) then
    (idx t15 t17).bind fun x2 =>
    (idx t1 t17).bind fun x3 =>
    bif (((decide (x3 < 0)) || (decide (x3 > (IntKind.i64.wrap (1000000000 - t5))))) || ((!x2) && (x3 != 0))) then
      k2
    else
      kn (IntKind.i64.wrap (t5 + x3)) (IntKind.i64.wrap (t17 + 1))
  else
    k1
noncomputable def l24_1 {R : Type} (t1 : (List Int)) (t15 : (List Bool)) (t16 : Int) (k1 : Option R) (k2 : Option R) : Nat → Int → Int → Option R
  | 0, _, _ => none
  | n + 1, t5, t17 => s24_1 t1 t15 t16 (l24_1 t1 t15 t16 k1 k2 n) k1 k2 t5 t17
noncomputable def L24_1 : LE := ⟨6, 0, ⟨[(1, (.dat (.sl (.int .i64)))), (5, (.dat (.int .i64))), (15, (.dat (.sl .bool))), (16, (.dat (.int .i64))), (17, (.dat (.int .i64)))], []⟩, fun R n x k => l24_1 x.1.1 x.1.2.2.1 x.1.2.2.2.1 (k (.exit 0) ⟨[], []⟩) (k .ret ⟨[(4, (.dat .bool false))], []⟩) n x.1.2.1 x.1.2.2.2.2.1⟩
noncomputable def C24 : Cfg := mkCfg [(6, ⟨[1, 5, 15, 16, 17], []⟩)] [(6, (⟨[], []⟩, ⟨[4], []⟩))] (([(0, L24_1)] : List (Nat × LE)).map (·.2))
theorem ek24_1 : EOk E24 C24 Try.f24.ntmps (bodyL Try.f24 0) L24_1 := eok_of (e := L24_1) (fun R x Kn k => s24_1 x.1.1 x.1.2.2.1 x.1.2.2.2.1 (fun v0 v1 => Kn ((x.1.1, v0, x.1.2.2.1, x.1.2.2.2.1, v1, ()), (()))) (k (.exit 0) ⟨[], []⟩) (k .ret ⟨[(4, (.dat .bool false))], []⟩) x.1.2.1 x.1.2.2.2.2.1) (fun _ _ _ => rfl) (fun _ _ _ _ => rfl) (fun R x Kn k => by kernel_rfl)
theorem lm24 : ∀ c, Try.f24.body = some c → LmOk E24 C24 Try.f24.ntmps c := lmOk_of (ps := [(0, L24_1)]) (by kernel_rfl) (by kernel_rfl) ⟨ek24_1, trivial⟩
noncomputable def m24 (a0 : (List T60)) (a1 : (List Int)) : Option (Bool) :=
  bif ((List.length a1 : Int) != (List.length a0 : Int)) then
    some false
  else
    (m30 a0).bind fun r1 =>
    l24_1 a1 r1 (List.length r1 : Int) (
        some true) (
        some false) FUEL 0 0
noncomputable def e24 : PmE := entry 24 [(.sl G60), (.sl (.int .i64))] false .bool (fun x => m24 x.1 x.2.1)
theorem q24 (x : tyL [(.sl G60), (.sl (.int .i64))]) : execF E24 C24 Try.f24 (datL [(.sl G60), (.sl (.int .i64))] x) [] (retK false .bool) = m24 x.1 x.2.1 := by kernel_rfl
theorem p24 : PmOk Try.prog e24 := pm_ok (E := E24) ok24 ord lm24 Try.func24 ca24 q24

theorem ca26 : callable Try.prog 26 := ⟨Try.f26, Try.func26, by kernel_rfl, by kernel_rfl⟩
/-! 26: slices.Clone[[]int,int] -/
noncomputable def c26 : CmE := ownE 26 [(.sl (.int .i64))] (.int .i64) (fun x => cloneM x.1)
theorem d26 : CmOk Try.prog c26 := own_ok ca26 (clone_run (g := (.int .i64)) ord Try.func26 Try.underlying23 rfl (by kernel_rfl) (fun _ => by kernel_rfl) (by kernel_rfl) (fun _ => by kernel_rfl))

theorem ca27 : callable Try.prog 27 := ⟨Try.f27, Try.func27, by kernel_rfl, by kernel_rfl⟩
/-! 27: slices.Clone[[]consol/api.Trade,consol/api.Trade] -/
noncomputable def c27 : CmE := ownE 27 [(.sl G25)] G25 (fun x => cloneM x.1)
theorem d27 : CmOk Try.prog c27 := own_ok ca27 (clone_run (g := G25) ord Try.func27 Try.underlying24 rfl (by kernel_rfl) (fun _ => by kernel_rfl) (by kernel_rfl) (fun _ => by kernel_rfl))

/-! 28: consol/trade.back -/
theorem ca28 : callable Try.prog 28 := ⟨Try.f28, Try.func28, by kernel_rfl, by kernel_rfl⟩
noncomputable def E28 : Env := mkEnv2 Try.prog [] []
theorem ok28 : EnvOk E28 := mkEnv2_ok (by simp) (by simp)
noncomputable def C28 : Cfg := noCfg
theorem lm28 : ∀ c, Try.f28.body = some c → LmOk E28 C28 Try.f28.ntmps c := fun _ _ => noCfg_lm
noncomputable def m28 (a0 : T25) (a1 : Int) : Option (T25) :=
  some (0, a0.2.2.1, a0.2.1, a0.2.2.2.1, a1, (bif decide (a1 > a0.2.2.2.2.2.2.2.1) then a1 else a0.2.2.2.2.2.2.2.1), (-1), 0, ())
noncomputable def e28 : PmE := entry 28 [G25, (.int .i64)] false G25 (fun x => m28 x.1 x.2.1)
theorem q28 (x : tyL [G25, (.int .i64)]) : execF E28 C28 Try.f28 (datL [G25, (.int .i64)] x) [] (retK false G25) = m28 x.1 x.2.1 := by kernel_rfl
theorem p28 : PmOk Try.prog e28 := pm_ok (E := E28) ok28 ord lm28 Try.func28 ca28 q28

/-! 9: consol/trade.Settle -/
theorem ca9 : callable Try.prog 9 := ⟨Try.f9, Try.func9, by kernel_rfl, by kernel_rfl⟩
noncomputable def E9 : Env := mkEnv2 Try.prog [e10, e24, e25, e28] [c26, c27]
theorem ok9 : EnvOk E9 := mkEnv2_ok (by simp only [List.mem_cons, List.not_mem_nil, or_false, forall_eq_or_imp, forall_eq]; exact ⟨p10, p24, p25, p28⟩) (by simp only [List.mem_cons, List.not_mem_nil, or_false, forall_eq_or_imp, forall_eq]; exact ⟨d26, d27⟩)
/-- a round of a loop of consol/trade.Settle -/
noncomputable def s9_1 {R : Type} (t3 : Int) (kn : Int → (List Int) → (List T25) → Option R) (k1 : (List Int) → (List T25) → Option R) (t13 : Int) (o0 : (List Int)) (o1 : (List T25)) : Option R :=
  bif (decide (t13 < (List.length o1 : Int))) then
    cont (fun (k15 : (Int × (List Int) × (List T25)) → _) =>
      asrt true (decide (0 ≤ t13) && decide (t13 < (List.length o1 : Int))) (
        ((o1)[(t13 : Int).toNat]?).bind fun x6 =>
        asrt (((x6.2.2.2.2.2.2.1 != (-1)) || (decide (x6.2.2.2.2.2.1 > t3))) == false) (decide (0 ≤ x6.2.1) && decide (x6.2.1 < (List.length o0 : Int))) (
          ((bif (((x6.2.2.2.2.2.2.1 != (-1)) || (decide (x6.2.2.2.2.2.1 > t3))) == false) then (o0)[(x6.2.1 : Int).toNat]? else some 0)).bind fun x7 =>
          bif (((x6.2.2.2.2.2.2.1 != (-1)) || (decide (x6.2.2.2.2.2.1 > t3))) || (decide (x7 < x6.2.2.2.1))) then
            k15 (t13, o0, o1)
          else
            asrt true (decide (0 ≤ x6.2.1) && decide (x6.2.1 < (List.length o0 : Int))) (
              ((o0)[(x6.2.1 : Int).toNat]?).bind fun x8 =>
              asrt true (decide (0 ≤ x6.2.1) && decide (x6.2.1 < (List.length o0 : Int))) (
                ((o0)[(x6.2.1 : Int).toNat]?).bind fun x9 =>
                asrt true (decide (0 ≤ x6.2.2.1) && decide (x6.2.2.1 < (List.length (List.set o0 (x6.2.1 : Int).toNat (IntKind.i64.wrap (x8 - x6.2.2.2.1))) : Int))) (
                  (((List.set o0 (x6.2.1 : Int).toNat (IntKind.i64.wrap (x8 - x6.2.2.2.1))))[(x6.2.2.1 : Int).toNat]?).bind fun x10 =>
                  asrt true (decide (0 ≤ x6.2.2.1) && decide (x6.2.2.1 < (List.length (List.set o0 (x6.2.1 : Int).toNat (IntKind.i64.wrap (x8 - x6.2.2.2.1))) : Int))) (
                    (((List.set o0 (x6.2.1 : Int).toNat (IntKind.i64.wrap (x8 - x6.2.2.2.1))))[(x6.2.2.1 : Int).toNat]?).bind fun x11 =>
                    asrt true (decide (0 ≤ t13) && decide (t13 < (List.length o1 : Int))) (
                      ((o1)[(t13 : Int).toNat]?).bind fun x12 =>
                      cont (fun (k14 : (List T25) → _) =>
                        bif (x6.1 == 1) then
                          (m28 x6 t3).bind fun r13 =>
                          asrt true (decide (List.length (α := T25) (List.set o1 (t13 : Int).toNat (x12.1, x12.2.1, x12.2.2.1, x12.2.2.2.1, x12.2.2.2.2.1, x12.2.2.2.2.2.1, t3, x12.2.2.2.2.2.2.2.1, ())) + List.length (α := T25) [r13] ≤ LIM)) (
                            k14 ((List.set o1 (t13 : Int).toNat (x12.1, x12.2.1, x12.2.2.1, x12.2.2.2.1, x12.2.2.2.2.1, x12.2.2.2.2.2.1, t3, x12.2.2.2.2.2.2.2.1, ())) ++ [r13]))
                        else
                          k14 (List.set o1 (t13 : Int).toNat (x12.1, x12.2.1, x12.2.2.1, x12.2.2.2.1, x12.2.2.2.2.1, x12.2.2.2.2.2.1, t3, x12.2.2.2.2.2.2.2.1, ()))) fun y14 =>
                      k15 ((-1), (List.set (List.set o0 (x6.2.1 : Int).toNat (IntKind.i64.wrap (x8 - x6.2.2.2.1))) (x6.2.2.1 : Int).toNat (IntKind.i64.wrap (x10 + x6.2.2.2.1))), y14))))))))) fun y15 =>
    kn (IntKind.i64.wrap (y15.1 + 1)) y15.2.1 y15.2.2
  else
    k1 o0 o1
noncomputable def l9_1 {R : Type} (t3 : Int) (k1 : (List Int) → (List T25) → Option R) : Nat → Int → (List Int) → (List T25) → Option R
  | 0, _, _, _ => none
  | n + 1, t13, o0, o1 => s9_1 t3 (l9_1 t3 k1 n) k1 t13 o0 o1
noncomputable def L9_1 : LE := ⟨6, 0, ⟨[(3, (.dat (.int .i64))), (11, (.own 0)), (12, (.own 1)), (13, (.dat (.int .i64)))], [(.arr (.int .i64)), (.arr G25)]⟩, fun R n x k => l9_1 x.1.1 (fun y0 y1 => k (.exit 0) ⟨[(11, (.own 0)), (12, (.own 1))], [(.arr (.int .i64) y0), (.arr G25 y1)]⟩) n x.1.2.2.2.1 x.2.1 x.2.2.1⟩
noncomputable def C9 : Cfg := mkCfg [(6, ⟨[3, 11, 12, 13], []⟩), (7, ⟨[3, 11, 12, 13], []⟩), (15, ⟨[3, 11, 12], []⟩)] [(6, (⟨[11, 12], []⟩, ⟨[8, 9, 10], []⟩))] (([(0, L9_1)] : List (Nat × LE)).map (·.2))
theorem ek9_1 : EOk E9 C9 Try.f9.ntmps (bodyL Try.f9 0) L9_1 := eok_of (e := L9_1) (fun R x Kn k => s9_1 x.1.1 (fun v0 v1 v2 => Kn ((x.1.1, (), (), v0, ()), (v1, v2, ()))) (fun y0 y1 => k (.exit 0) ⟨[(11, (.own 0)), (12, (.own 1))], [(.arr (.int .i64) y0), (.arr G25 y1)]⟩) x.1.2.2.2.1 x.2.1 x.2.2.1) (fun _ _ _ => rfl) (fun _ _ _ _ => rfl) (fun R x Kn k => by kernel_rfl)
theorem lm9 : ∀ c, Try.f9.body = some c → LmOk E9 C9 Try.f9.ntmps c := lmOk_of (ps := [(0, L9_1)]) (by kernel_rfl) (by kernel_rfl) ⟨ek9_1, trivial⟩
noncomputable def m9 (a0 : (List T60)) (a1 : (List Int)) (a2 : (List T25)) (a3 : Int) : Option (((List Int) × ((List T25) × (Int × Unit)))) :=
  (m10 a0 a2).bind fun r1 =>
  (bif ((!r1) == false) then (m24 a0 a1) else some false).bind fun r2 =>
  (bif (((!r1) || (!r2)) == false) then (m25 a3) else some false).bind fun r3 =>
  bif (((!r1) || (!r2)) || (!r3)) then
    some ([], [], 1, ())
  else
    (cloneM a1).bind fun r4 =>
    (cloneM a2).bind fun r5 =>
    l9_1 a3 (fun y16 y17 =>
        bif (decide ((List.length y17 : Int) > 10000)) then
          some ([], [], 6, ())
        else
          some (y16, y17, 0, ())) FUEL 0 r4 r5
noncomputable def e9 : PmE := entry 9 [(.sl G60), (.sl (.int .i64)), (.sl G25), (.int .i64)] true (.cons (.sl (.int .i64)) (.cons (.sl G25) (.cons (.int .i64) .nil))) (fun x => m9 x.1 x.2.1 x.2.2.1 x.2.2.2.1)
theorem q9 (x : tyL [(.sl G60), (.sl (.int .i64)), (.sl G25), (.int .i64)]) : execF E9 C9 Try.f9 (datL [(.sl G60), (.sl (.int .i64)), (.sl G25), (.int .i64)] x) [] (retK true (.cons (.sl (.int .i64)) (.cons (.sl G25) (.cons (.int .i64) .nil)))) = m9 x.1 x.2.1 x.2.2.1 x.2.2.2.1 := by kernel_rfl
theorem p9 : PmOk Try.prog e9 := pm_ok (E := E9) ok9 ord lm9 Try.func9 ca9 q9

noncomputable def cK9 : CmE := konE 9 [(.sl G60), (.sl (.int .i64)), (.sl G25), (.int .i64)] true (.cons (.sl (.int .i64)) (.cons (.sl G25) (.cons (.int .i64) .nil))) (fun x => m9 x.1 x.2.1 x.2.2.1 x.2.2.2.1)
theorem dK9 : CmOk Try.prog cK9 := kon_ok p9

/-! 11: consol/consolref30.Ints -/
theorem ca11 : callable Try.prog 11 := ⟨Try.f11, Try.func11, by kernel_rfl, by kernel_rfl⟩
noncomputable def E11 : Env := mkEnv2 Try.prog [] []
theorem ok11 : EnvOk E11 := mkEnv2_ok (by simp) (by simp)
/-- a round of a loop of consol/consolref30.Ints -/
noncomputable def s11_1 {R : Type} (t0 : (List Int)) (t1 : (List Int)) (kn : Int → Option R) (k1 : Option R) (k2 : Option R) (t5 : Int) : Option R :=
  bif (decide (t5 < (List.length t0 : Int))) then
    (idx t0 t5).bind fun x1 =>
    (idx t1 t5).bind fun x2 =>
    bif (x1 != x2) then
      k2
    else
      kn (IntKind.i64.wrap (t5 + 1))
  else
    k1
noncomputable def l11_1 {R : Type} (t0 : (List Int)) (t1 : (List Int)) (k1 : Option R) (k2 : Option R) : Nat → Int → Option R
  | 0, _ => none
  | n + 1, t5 => s11_1 t0 t1 (l11_1 t0 t1 k1 k2 n) k1 k2 t5
noncomputable def L11_1 : LE := ⟨5, 0, ⟨[(0, (.dat (.sl (.int .i64)))), (1, (.dat (.sl (.int .i64)))), (5, (.dat (.int .i64)))], []⟩, fun R n x k => l11_1 x.1.1 x.1.2.1 (k (.exit 0) ⟨[], []⟩) (k .ret ⟨[(4, (.dat .bool false))], []⟩) n x.1.2.2.1⟩
noncomputable def C11 : Cfg := mkCfg [(5, ⟨[0, 1, 5], []⟩)] [(5, (⟨[], []⟩, ⟨[4], []⟩))] (([(0, L11_1)] : List (Nat × LE)).map (·.2))
theorem ek11_1 : EOk E11 C11 Try.f11.ntmps (bodyL Try.f11 0) L11_1 := eok_of (e := L11_1) (fun R x Kn k => s11_1 x.1.1 x.1.2.1 (fun v0 => Kn ((x.1.1, x.1.2.1, v0, ()), (()))) (k (.exit 0) ⟨[], []⟩) (k .ret ⟨[(4, (.dat .bool false))], []⟩) x.1.2.2.1) (fun _ _ _ => rfl) (fun _ _ _ _ => rfl) (fun R x Kn k => by kernel_rfl)
theorem lm11 : ∀ c, Try.f11.body = some c → LmOk E11 C11 Try.f11.ntmps c := lmOk_of (ps := [(0, L11_1)]) (by kernel_rfl) (by kernel_rfl) ⟨ek11_1, trivial⟩
noncomputable def m11 (a0 : (List Int)) (a1 : (List Int)) : Option (Bool) :=
  bif ((List.length a0 : Int) != (List.length a1 : Int)) then
    some false
  else
    l11_1 a0 a1 (
        some true) (
        some false) FUEL 0
noncomputable def e11 : PmE := entry 11 [(.sl (.int .i64)), (.sl (.int .i64))] false .bool (fun x => m11 x.1 x.2.1)
theorem q11 (x : tyL [(.sl (.int .i64)), (.sl (.int .i64))]) : execF E11 C11 Try.f11 (datL [(.sl (.int .i64)), (.sl (.int .i64))] x) [] (retK false .bool) = m11 x.1 x.2.1 := by kernel_rfl
theorem p11 : PmOk Try.prog e11 := pm_ok (E := E11) ok11 ord lm11 Try.func11 ca11 q11

/-! 12: consol/consolref32.Same -/
theorem ca12 : callable Try.prog 12 := ⟨Try.f12, Try.func12, by kernel_rfl, by kernel_rfl⟩
noncomputable def E12 : Env := mkEnv2 Try.prog [] []
theorem ok12 : EnvOk E12 := mkEnv2_ok (by simp) (by simp)
/-- a round of a loop of consol/consolref32.Same -/
noncomputable def s12_1 {R : Type} (t0 : (List T25)) (t1 : (List T25)) (kn : Int → Option R) (k1 : Option R) (k2 : Option R) (t5 : Int) : Option R :=
  bif (decide (t5 < (List.length t0 : Int))) then
    (idx t0 t5).bind fun x1 =>
    (idx t1 t5).bind fun x2 =>
    bif (!((x1.1 == x2.1) && ((x1.2.1 == x2.2.1) && ((x1.2.2.1 == x2.2.2.1) && ((x1.2.2.2.1 == x2.2.2.2.1) && ((x1.2.2.2.2.1 == x2.2.2.2.2.1) && ((x1.2.2.2.2.2.1 == x2.2.2.2.2.2.1) && ((x1.2.2.2.2.2.2.1 == x2.2.2.2.2.2.2.1) && ((x1.2.2.2.2.2.2.2.1 == x2.2.2.2.2.2.2.2.1) && true))))))))) then
      k2
    else
      kn (IntKind.i64.wrap (t5 + 1))
  else
    k1
noncomputable def l12_1 {R : Type} (t0 : (List T25)) (t1 : (List T25)) (k1 : Option R) (k2 : Option R) : Nat → Int → Option R
  | 0, _ => none
  | n + 1, t5 => s12_1 t0 t1 (l12_1 t0 t1 k1 k2 n) k1 k2 t5
noncomputable def L12_1 : LE := ⟨5, 0, ⟨[(0, (.dat (.sl G25))), (1, (.dat (.sl G25))), (5, (.dat (.int .i64)))], []⟩, fun R n x k => l12_1 x.1.1 x.1.2.1 (k (.exit 0) ⟨[], []⟩) (k .ret ⟨[(4, (.dat .bool false))], []⟩) n x.1.2.2.1⟩
noncomputable def C12 : Cfg := mkCfg [(5, ⟨[0, 1, 5], []⟩)] [(5, (⟨[], []⟩, ⟨[4], []⟩))] (([(0, L12_1)] : List (Nat × LE)).map (·.2))
theorem ek12_1 : EOk E12 C12 Try.f12.ntmps (bodyL Try.f12 0) L12_1 := eok_of (e := L12_1) (fun R x Kn k => s12_1 x.1.1 x.1.2.1 (fun v0 => Kn ((x.1.1, x.1.2.1, v0, ()), (()))) (k (.exit 0) ⟨[], []⟩) (k .ret ⟨[(4, (.dat .bool false))], []⟩) x.1.2.2.1) (fun _ _ _ => rfl) (fun _ _ _ _ => rfl) (fun R x Kn k => by kernel_rfl)
theorem lm12 : ∀ c, Try.f12.body = some c → LmOk E12 C12 Try.f12.ntmps c := lmOk_of (ps := [(0, L12_1)]) (by kernel_rfl) (by kernel_rfl) ⟨ek12_1, trivial⟩
noncomputable def m12 (a0 : (List T25)) (a1 : (List T25)) : Option (Bool) :=
  bif ((List.length a0 : Int) != (List.length a1 : Int)) then
    some false
  else
    l12_1 a0 a1 (
        some true) (
        some false) FUEL 0
noncomputable def e12 : PmE := entry 12 [(.sl G25), (.sl G25)] false .bool (fun x => m12 x.1 x.2.1)
theorem q12 (x : tyL [(.sl G25), (.sl G25)]) : execF E12 C12 Try.f12 (datL [(.sl G25), (.sl G25)] x) [] (retK false .bool) = m12 x.1 x.2.1 := by kernel_rfl
theorem p12 : PmOk Try.prog e12 := pm_ok (E := E12) ok12 ord lm12 Try.func12 ca12 q12

/-! 17: consol/trade.Open -/
theorem ca17 : callable Try.prog 17 := ⟨Try.f17, Try.func17, by kernel_rfl, by kernel_rfl⟩
noncomputable def E17 : Env := mkEnv2 Try.prog [] []
theorem ok17 : EnvOk E17 := mkEnv2_ok (by simp) (by simp)
/-- a round of a loop of consol/trade.Open -/
noncomputable def s17_1 {R : Type} (t1 : Int) (t8 : (List T25)) (t9 : Int) (kn : Int → (List Int) → Option R) (k1 : (List Int) → Option R) (t10 : Int) (o0 : (List Int)) : Option R :=
  bif (decide (t10 < t9)) then
    cont (fun (k2 : (List Int) → _) =>
      (idx t8 t10).bind fun x1 =>
      bif ((x1.2.2.2.2.2.2.1 == (-1)) && (decide (x1.2.2.2.2.2.1 ≤ t1))) then
        asrt true (decide (List.length (α := Int) o0 + List.length (α := Int) [t10] ≤ LIM)) (
          k2 (o0 ++ [t10]))
      else
        k2 o0) fun y2 =>
    kn (IntKind.i64.wrap (t10 + 1)) y2
  else
    k1 o0
noncomputable def l17_1 {R : Type} (t1 : Int) (t8 : (List T25)) (t9 : Int) (k1 : (List Int) → Option R) : Nat → Int → (List Int) → Option R
  | 0, _, _ => none
  | n + 1, t10, o0 => s17_1 t1 t8 t9 (l17_1 t1 t8 t9 k1 n) k1 t10 o0
noncomputable def L17_1 : LE := ⟨4, 0, ⟨[(1, (.dat (.int .i64))), (5, (.own 0)), (8, (.dat (.sl G25))), (9, (.dat (.int .i64))), (10, (.dat (.int .i64)))], [(.arr (.int .i64))]⟩, fun R n x k => l17_1 x.1.1 x.1.2.2.1 x.1.2.2.2.1 (fun y0 => k (.exit 0) ⟨[(5, (.own 0))], [(.arr (.int .i64) y0)]⟩) n x.1.2.2.2.2.1 x.2.1⟩
noncomputable def C17 : Cfg := mkCfg [(4, ⟨[1, 5, 8, 9, 10], [(5, [], (.int .i64))]⟩), (8, ⟨[1, 5, 8, 9, 10], [(5, [], (.int .i64))]⟩)] [(4, (⟨[5], []⟩, ⟨[4], []⟩))] (([(0, L17_1)] : List (Nat × LE)).map (·.2))
theorem ek17_1 : EOk E17 C17 Try.f17.ntmps (bodyL Try.f17 0) L17_1 := eok_of (e := L17_1) (fun R x Kn k => s17_1 x.1.1 x.1.2.2.1 x.1.2.2.2.1 (fun v0 v1 => Kn ((x.1.1, (), x.1.2.2.1, x.1.2.2.2.1, v0, ()), (v1, ()))) (fun y0 => k (.exit 0) ⟨[(5, (.own 0))], [(.arr (.int .i64) y0)]⟩) x.1.2.2.2.2.1 x.2.1) (fun _ _ _ => rfl) (fun _ _ _ _ => rfl) (fun R x Kn k => by kernel_rfl)
theorem lm17 : ∀ c, Try.f17.body = some c → LmOk E17 C17 Try.f17.ntmps c := lmOk_of (ps := [(0, L17_1)]) (by kernel_rfl) (by kernel_rfl) ⟨ek17_1, trivial⟩
noncomputable def m17 (a0 : (List T25)) (a1 : Int) : Option ((List Int)) :=
  l17_1 a1 a0 (List.length a0 : Int) (fun y3 =>
      some y3) FUEL 0 []
noncomputable def e17 : PmE := entry 17 [(.sl G25), (.int .i64)] false (.sl (.int .i64)) (fun x => m17 x.1 x.2.1)
theorem q17 (x : tyL [(.sl G25), (.int .i64)]) : execF E17 C17 Try.f17 (datL [(.sl G25), (.int .i64)] x) [] (retK false (.sl (.int .i64))) = m17 x.1 x.2.1 := by kernel_rfl
theorem p17 : PmOk Try.prog e17 := pm_ok (E := E17) ok17 ord lm17 Try.func17 ca17 q17

noncomputable def cK17 : CmE := konE 17 [(.sl G25), (.int .i64)] false (.sl (.int .i64)) (fun x => m17 x.1 x.2.1)
theorem dK17 : CmOk Try.prog cK17 := kon_ok p17

/-! 7: consol/consollaw32.small -/
theorem ca7 : callable Try.prog 7 := ⟨Try.f7, Try.func7, by kernel_rfl, by kernel_rfl⟩
noncomputable def E7 : Env := mkEnv2 Try.prog [e10, e11, e12, e17, e22, e23] [cK9]
theorem ok7 : EnvOk E7 := mkEnv2_ok (by simp only [List.mem_cons, List.not_mem_nil, or_false, forall_eq_or_imp, forall_eq]; exact ⟨p10, p11, p12, p17, p22, p23⟩) (by simp only [List.mem_cons, List.not_mem_nil, or_false, forall_eq]; exact dK9)
noncomputable def C7 : Cfg := noCfg
theorem lm7 : ∀ c, Try.f7.body = some c → LmOk E7 C7 Try.f7.ntmps c := fun _ _ => noCfg_lm
noncomputable def m7  : Option (Bool) :=
  (m22).bind fun r1 =>
  (m23).bind fun r2 =>
  (m9 r1 [10, 0, 0] r2 3).bind fun r3 =>
  (m22).bind fun r4 =>
  (m23).bind fun r5 =>
  (m9 r4 [10, 0, 0] r5 4).bind fun r6 =>
  bif (((r3.2.2.1 != 0) || (r6.2.2.1 != 0)) || ((List.length r6.2.1 : Int) != 4)) then
    some false
  else
    (m22).bind fun r7 =>
    (m9 r7 r6.1 r6.2.1 9).bind fun r8 =>
    (m11 r3.1 [10, 0, 0]).bind fun r9 =>
    (bif (r9 == true) then m23 else some []).bind fun r10 =>
    (bif (r9 == true) then (m12 r3.2.1 r10) else some false).bind fun r11 =>
    bif ((r9 && r11) == true) then
      (bif ((r9 && r11) == true) then (m11 r6.1 [0, 1, 9]) else some false).bind fun r12 =>
      bif ((((r9 && r11) && r12) && (r8.2.2.1 == 0)) == true) then
        (bif ((((r9 && r11) && r12) && (r8.2.2.1 == 0)) == true) then (m11 r8.1 [4, 1, 5]) else some false).bind fun r13 =>
        (idx r6.2.1 3).bind fun x14 =>
        (idxG ((((((r9 && r11) && r12) && (r8.2.2.1 == 0)) && r13) && ((x14.1 == 0) && ((x14.2.1 == 2) && ((x14.2.2.1 == 0) && ((x14.2.2.2.1 == 4) && ((x14.2.2.2.2.1 == 4) && ((x14.2.2.2.2.2.1 == 9) && ((x14.2.2.2.2.2.2.1 == (-1)) && ((x14.2.2.2.2.2.2.2.1 == 0) && true))))))))) == true) (0, 0, 0, 0, 0, 0, 0, 0, ()) r6.2.1 0).bind fun x15 =>
        (idxG (((((((r9 && r11) && r12) && (r8.2.2.1 == 0)) && r13) && ((x14.1 == 0) && ((x14.2.1 == 2) && ((x14.2.2.1 == 0) && ((x14.2.2.2.1 == 4) && ((x14.2.2.2.2.1 == 4) && ((x14.2.2.2.2.2.1 == 9) && ((x14.2.2.2.2.2.2.1 == (-1)) && ((x14.2.2.2.2.2.2.2.1 == 0) && true))))))))) && (x15.2.2.2.2.2.2.1 == 4)) == true) (0, 0, 0, 0, 0, 0, 0, 0, ()) r6.2.1 2).bind fun x16 =>
        (bif ((((((((r9 && r11) && r12) && (r8.2.2.1 == 0)) && r13) && ((x14.1 == 0) && ((x14.2.1 == 2) && ((x14.2.2.1 == 0) && ((x14.2.2.2.1 == 4) && ((x14.2.2.2.2.1 == 4) && ((x14.2.2.2.2.2.1 == 9) && ((x14.2.2.2.2.2.2.1 == (-1)) && ((x14.2.2.2.2.2.2.2.1 == 0) && true))))))))) && (x15.2.2.2.2.2.2.1 == 4)) && (x16.2.2.2.2.2.2.1 == 4)) == true) then m23 else some []).bind fun r17 =>
        (bif ((((((((r9 && r11) && r12) && (r8.2.2.1 == 0)) && r13) && ((x14.1 == 0) && ((x14.2.1 == 2) && ((x14.2.2.1 == 0) && ((x14.2.2.2.1 == 4) && ((x14.2.2.2.2.1 == 4) && ((x14.2.2.2.2.2.1 == 9) && ((x14.2.2.2.2.2.2.1 == (-1)) && ((x14.2.2.2.2.2.2.2.1 == 0) && true))))))))) && (x15.2.2.2.2.2.2.1 == 4)) && (x16.2.2.2.2.2.2.1 == 4)) == true) then (m17 r17 3) else some []).bind fun r18 =>
        bif ((((((((r9 && r11) && r12) && (r8.2.2.1 == 0)) && r13) && ((x14.1 == 0) && ((x14.2.1 == 2) && ((x14.2.2.1 == 0) && ((x14.2.2.2.1 == 4) && ((x14.2.2.2.2.1 == 4) && ((x14.2.2.2.2.2.1 == 9) && ((x14.2.2.2.2.2.2.1 == (-1)) && ((x14.2.2.2.2.2.2.2.1 == 0) && true))))))))) && (x15.2.2.2.2.2.2.1 == 4)) && (x16.2.2.2.2.2.2.1 == 4)) == true) then
          (bif ((((((((r9 && r11) && r12) && (r8.2.2.1 == 0)) && r13) && ((x14.1 == 0) && ((x14.2.1 == 2) && ((x14.2.2.1 == 0) && ((x14.2.2.2.1 == 4) && ((x14.2.2.2.2.1 == 4) && ((x14.2.2.2.2.2.1 == 9) && ((x14.2.2.2.2.2.2.1 == (-1)) && ((x14.2.2.2.2.2.2.2.1 == 0) && true))))))))) && (x15.2.2.2.2.2.2.1 == 4)) && (x16.2.2.2.2.2.2.1 == 4)) == true) then (m11 r18 [0]) else some false).bind fun r19 =>
          (bif (((((((((r9 && r11) && r12) && (r8.2.2.1 == 0)) && r13) && ((x14.1 == 0) && ((x14.2.1 == 2) && ((x14.2.2.1 == 0) && ((x14.2.2.2.1 == 4) && ((x14.2.2.2.2.1 == 4) && ((x14.2.2.2.2.2.1 == 9) && ((x14.2.2.2.2.2.2.1 == (-1)) && ((x14.2.2.2.2.2.2.2.1 == 0) && true))))))))) && (x15.2.2.2.2.2.2.1 == 4)) && (x16.2.2.2.2.2.2.1 == 4)) && r19) == true) then m22 else some []).bind fun r20 =>
          (bif (((((((((r9 && r11) && r12) && (r8.2.2.1 == 0)) && r13) && ((x14.1 == 0) && ((x14.2.1 == 2) && ((x14.2.2.1 == 0) && ((x14.2.2.2.1 == 4) && ((x14.2.2.2.2.1 == 4) && ((x14.2.2.2.2.2.1 == 9) && ((x14.2.2.2.2.2.2.1 == (-1)) && ((x14.2.2.2.2.2.2.2.1 == 0) && true))))))))) && (x15.2.2.2.2.2.2.1 == 4)) && (x16.2.2.2.2.2.2.1 == 4)) && r19) == true) then (m10 r20 r6.2.1) else some false).bind fun r21 =>
          some (((((((((r9 && r11) && r12) && (r8.2.2.1 == 0)) && r13) && ((x14.1 == 0) && ((x14.2.1 == 2) && ((x14.2.2.1 == 0) && ((x14.2.2.2.1 == 4) && ((x14.2.2.2.2.1 == 4) && ((x14.2.2.2.2.2.1 == 9) && ((x14.2.2.2.2.2.2.1 == (-1)) && ((x14.2.2.2.2.2.2.2.1 == 0) && true))))))))) && (x15.2.2.2.2.2.2.1 == 4)) && (x16.2.2.2.2.2.2.1 == 4)) && r19) && r21)
        else
          (bif ((((((((r9 && r11) && r12) && (r8.2.2.1 == 0)) && r13) && ((x14.1 == 0) && ((x14.2.1 == 2) && ((x14.2.2.1 == 0) && ((x14.2.2.2.1 == 4) && ((x14.2.2.2.2.1 == 4) && ((x14.2.2.2.2.2.1 == 9) && ((x14.2.2.2.2.2.2.1 == (-1)) && ((x14.2.2.2.2.2.2.2.1 == 0) && true))))))))) && (x15.2.2.2.2.2.2.1 == 4)) && (x16.2.2.2.2.2.2.1 == 4)) == true) then (m11 r18 []) else some false).bind fun r22 =>
          (bif (((((((((r9 && r11) && r12) && (r8.2.2.1 == 0)) && r13) && ((x14.1 == 0) && ((x14.2.1 == 2) && ((x14.2.2.1 == 0) && ((x14.2.2.2.1 == 4) && ((x14.2.2.2.2.1 == 4) && ((x14.2.2.2.2.2.1 == 9) && ((x14.2.2.2.2.2.2.1 == (-1)) && ((x14.2.2.2.2.2.2.2.1 == 0) && true))))))))) && (x15.2.2.2.2.2.2.1 == 4)) && (x16.2.2.2.2.2.2.1 == 4)) && r22) == true) then m22 else some []).bind fun r23 =>
          (bif (((((((((r9 && r11) && r12) && (r8.2.2.1 == 0)) && r13) && ((x14.1 == 0) && ((x14.2.1 == 2) && ((x14.2.2.1 == 0) && ((x14.2.2.2.1 == 4) && ((x14.2.2.2.2.1 == 4) && ((x14.2.2.2.2.2.1 == 9) && ((x14.2.2.2.2.2.2.1 == (-1)) && ((x14.2.2.2.2.2.2.2.1 == 0) && true))))))))) && (x15.2.2.2.2.2.2.1 == 4)) && (x16.2.2.2.2.2.2.1 == 4)) && r22) == true) then (m10 r23 r6.2.1) else some false).bind fun r24 =>
          some (((((((((r9 && r11) && r12) && (r8.2.2.1 == 0)) && r13) && ((x14.1 == 0) && ((x14.2.1 == 2) && ((x14.2.2.1 == 0) && ((x14.2.2.2.1 == 4) && ((x14.2.2.2.2.1 == 4) && ((x14.2.2.2.2.2.1 == 9) && ((x14.2.2.2.2.2.2.1 == (-1)) && ((x14.2.2.2.2.2.2.2.1 == 0) && true))))))))) && (x15.2.2.2.2.2.2.1 == 4)) && (x16.2.2.2.2.2.2.1 == 4)) && r22) && r24)
      else
        (bif ((((r9 && r11) && r12) && (r8.2.2.1 == 0)) == true) then (m11 r8.1 []) else some false).bind fun r25 =>
        (idx r6.2.1 3).bind fun x26 =>
        (idxG ((((((r9 && r11) && r12) && (r8.2.2.1 == 0)) && r25) && ((x26.1 == 0) && ((x26.2.1 == 2) && ((x26.2.2.1 == 0) && ((x26.2.2.2.1 == 4) && ((x26.2.2.2.2.1 == 4) && ((x26.2.2.2.2.2.1 == 9) && ((x26.2.2.2.2.2.2.1 == (-1)) && ((x26.2.2.2.2.2.2.2.1 == 0) && true))))))))) == true) (0, 0, 0, 0, 0, 0, 0, 0, ()) r6.2.1 0).bind fun x27 =>
        (idxG (((((((r9 && r11) && r12) && (r8.2.2.1 == 0)) && r25) && ((x26.1 == 0) && ((x26.2.1 == 2) && ((x26.2.2.1 == 0) && ((x26.2.2.2.1 == 4) && ((x26.2.2.2.2.1 == 4) && ((x26.2.2.2.2.2.1 == 9) && ((x26.2.2.2.2.2.2.1 == (-1)) && ((x26.2.2.2.2.2.2.2.1 == 0) && true))))))))) && (x27.2.2.2.2.2.2.1 == 4)) == true) (0, 0, 0, 0, 0, 0, 0, 0, ()) r6.2.1 2).bind fun x28 =>
        (bif ((((((((r9 && r11) && r12) && (r8.2.2.1 == 0)) && r25) && ((x26.1 == 0) && ((x26.2.1 == 2) && ((x26.2.2.1 == 0) && ((x26.2.2.2.1 == 4) && ((x26.2.2.2.2.1 == 4) && ((x26.2.2.2.2.2.1 == 9) && ((x26.2.2.2.2.2.2.1 == (-1)) && ((x26.2.2.2.2.2.2.2.1 == 0) && true))))))))) && (x27.2.2.2.2.2.2.1 == 4)) && (x28.2.2.2.2.2.2.1 == 4)) == true) then m23 else some []).bind fun r29 =>
        (bif ((((((((r9 && r11) && r12) && (r8.2.2.1 == 0)) && r25) && ((x26.1 == 0) && ((x26.2.1 == 2) && ((x26.2.2.1 == 0) && ((x26.2.2.2.1 == 4) && ((x26.2.2.2.2.1 == 4) && ((x26.2.2.2.2.2.1 == 9) && ((x26.2.2.2.2.2.2.1 == (-1)) && ((x26.2.2.2.2.2.2.2.1 == 0) && true))))))))) && (x27.2.2.2.2.2.2.1 == 4)) && (x28.2.2.2.2.2.2.1 == 4)) == true) then (m17 r29 3) else some []).bind fun r30 =>
        bif ((((((((r9 && r11) && r12) && (r8.2.2.1 == 0)) && r25) && ((x26.1 == 0) && ((x26.2.1 == 2) && ((x26.2.2.1 == 0) && ((x26.2.2.2.1 == 4) && ((x26.2.2.2.2.1 == 4) && ((x26.2.2.2.2.2.1 == 9) && ((x26.2.2.2.2.2.2.1 == (-1)) && ((x26.2.2.2.2.2.2.2.1 == 0) && true))))))))) && (x27.2.2.2.2.2.2.1 == 4)) && (x28.2.2.2.2.2.2.1 == 4)) == true) then
          (bif ((((((((r9 && r11) && r12) && (r8.2.2.1 == 0)) && r25) && ((x26.1 == 0) && ((x26.2.1 == 2) && ((x26.2.2.1 == 0) && ((x26.2.2.2.1 == 4) && ((x26.2.2.2.2.1 == 4) && ((x26.2.2.2.2.2.1 == 9) && ((x26.2.2.2.2.2.2.1 == (-1)) && ((x26.2.2.2.2.2.2.2.1 == 0) && true))))))))) && (x27.2.2.2.2.2.2.1 == 4)) && (x28.2.2.2.2.2.2.1 == 4)) == true) then (m11 r30 [0]) else some false).bind fun r31 =>
          (bif (((((((((r9 && r11) && r12) && (r8.2.2.1 == 0)) && r25) && ((x26.1 == 0) && ((x26.2.1 == 2) && ((x26.2.2.1 == 0) && ((x26.2.2.2.1 == 4) && ((x26.2.2.2.2.1 == 4) && ((x26.2.2.2.2.2.1 == 9) && ((x26.2.2.2.2.2.2.1 == (-1)) && ((x26.2.2.2.2.2.2.2.1 == 0) && true))))))))) && (x27.2.2.2.2.2.2.1 == 4)) && (x28.2.2.2.2.2.2.1 == 4)) && r31) == true) then m22 else some []).bind fun r32 =>
          (bif (((((((((r9 && r11) && r12) && (r8.2.2.1 == 0)) && r25) && ((x26.1 == 0) && ((x26.2.1 == 2) && ((x26.2.2.1 == 0) && ((x26.2.2.2.1 == 4) && ((x26.2.2.2.2.1 == 4) && ((x26.2.2.2.2.2.1 == 9) && ((x26.2.2.2.2.2.2.1 == (-1)) && ((x26.2.2.2.2.2.2.2.1 == 0) && true))))))))) && (x27.2.2.2.2.2.2.1 == 4)) && (x28.2.2.2.2.2.2.1 == 4)) && r31) == true) then (m10 r32 r6.2.1) else some false).bind fun r33 =>
          some (((((((((r9 && r11) && r12) && (r8.2.2.1 == 0)) && r25) && ((x26.1 == 0) && ((x26.2.1 == 2) && ((x26.2.2.1 == 0) && ((x26.2.2.2.1 == 4) && ((x26.2.2.2.2.1 == 4) && ((x26.2.2.2.2.2.1 == 9) && ((x26.2.2.2.2.2.2.1 == (-1)) && ((x26.2.2.2.2.2.2.2.1 == 0) && true))))))))) && (x27.2.2.2.2.2.2.1 == 4)) && (x28.2.2.2.2.2.2.1 == 4)) && r31) && r33)
        else
          (bif ((((((((r9 && r11) && r12) && (r8.2.2.1 == 0)) && r25) && ((x26.1 == 0) && ((x26.2.1 == 2) && ((x26.2.2.1 == 0) && ((x26.2.2.2.1 == 4) && ((x26.2.2.2.2.1 == 4) && ((x26.2.2.2.2.2.1 == 9) && ((x26.2.2.2.2.2.2.1 == (-1)) && ((x26.2.2.2.2.2.2.2.1 == 0) && true))))))))) && (x27.2.2.2.2.2.2.1 == 4)) && (x28.2.2.2.2.2.2.1 == 4)) == true) then (m11 r30 []) else some false).bind fun r34 =>
          (bif (((((((((r9 && r11) && r12) && (r8.2.2.1 == 0)) && r25) && ((x26.1 == 0) && ((x26.2.1 == 2) && ((x26.2.2.1 == 0) && ((x26.2.2.2.1 == 4) && ((x26.2.2.2.2.1 == 4) && ((x26.2.2.2.2.2.1 == 9) && ((x26.2.2.2.2.2.2.1 == (-1)) && ((x26.2.2.2.2.2.2.2.1 == 0) && true))))))))) && (x27.2.2.2.2.2.2.1 == 4)) && (x28.2.2.2.2.2.2.1 == 4)) && r34) == true) then m22 else some []).bind fun r35 =>
          (bif (((((((((r9 && r11) && r12) && (r8.2.2.1 == 0)) && r25) && ((x26.1 == 0) && ((x26.2.1 == 2) && ((x26.2.2.1 == 0) && ((x26.2.2.2.1 == 4) && ((x26.2.2.2.2.1 == 4) && ((x26.2.2.2.2.2.1 == 9) && ((x26.2.2.2.2.2.2.1 == (-1)) && ((x26.2.2.2.2.2.2.2.1 == 0) && true))))))))) && (x27.2.2.2.2.2.2.1 == 4)) && (x28.2.2.2.2.2.2.1 == 4)) && r34) == true) then (m10 r35 r6.2.1) else some false).bind fun r36 =>
          some (((((((((r9 && r11) && r12) && (r8.2.2.1 == 0)) && r25) && ((x26.1 == 0) && ((x26.2.1 == 2) && ((x26.2.2.1 == 0) && ((x26.2.2.2.1 == 4) && ((x26.2.2.2.2.1 == 4) && ((x26.2.2.2.2.2.1 == 9) && ((x26.2.2.2.2.2.2.1 == (-1)) && ((x26.2.2.2.2.2.2.2.1 == 0) && true))))))))) && (x27.2.2.2.2.2.2.1 == 4)) && (x28.2.2.2.2.2.2.1 == 4)) && r34) && r36)
    else
      (bif ((r9 && r11) == true) then (m11 r6.1 []) else some false).bind fun r37 =>
      bif ((((r9 && r11) && r37) && (r8.2.2.1 == 0)) == true) then
        (bif ((((r9 && r11) && r37) && (r8.2.2.1 == 0)) == true) then (m11 r8.1 [4, 1, 5]) else some false).bind fun r38 =>
        (idx r6.2.1 3).bind fun x39 =>
        (idxG ((((((r9 && r11) && r37) && (r8.2.2.1 == 0)) && r38) && ((x39.1 == 0) && ((x39.2.1 == 2) && ((x39.2.2.1 == 0) && ((x39.2.2.2.1 == 4) && ((x39.2.2.2.2.1 == 4) && ((x39.2.2.2.2.2.1 == 9) && ((x39.2.2.2.2.2.2.1 == (-1)) && ((x39.2.2.2.2.2.2.2.1 == 0) && true))))))))) == true) (0, 0, 0, 0, 0, 0, 0, 0, ()) r6.2.1 0).bind fun x40 =>
        (idxG (((((((r9 && r11) && r37) && (r8.2.2.1 == 0)) && r38) && ((x39.1 == 0) && ((x39.2.1 == 2) && ((x39.2.2.1 == 0) && ((x39.2.2.2.1 == 4) && ((x39.2.2.2.2.1 == 4) && ((x39.2.2.2.2.2.1 == 9) && ((x39.2.2.2.2.2.2.1 == (-1)) && ((x39.2.2.2.2.2.2.2.1 == 0) && true))))))))) && (x40.2.2.2.2.2.2.1 == 4)) == true) (0, 0, 0, 0, 0, 0, 0, 0, ()) r6.2.1 2).bind fun x41 =>
        (bif ((((((((r9 && r11) && r37) && (r8.2.2.1 == 0)) && r38) && ((x39.1 == 0) && ((x39.2.1 == 2) && ((x39.2.2.1 == 0) && ((x39.2.2.2.1 == 4) && ((x39.2.2.2.2.1 == 4) && ((x39.2.2.2.2.2.1 == 9) && ((x39.2.2.2.2.2.2.1 == (-1)) && ((x39.2.2.2.2.2.2.2.1 == 0) && true))))))))) && (x40.2.2.2.2.2.2.1 == 4)) && (x41.2.2.2.2.2.2.1 == 4)) == true) then m23 else some []).bind fun r42 =>
        (bif ((((((((r9 && r11) && r37) && (r8.2.2.1 == 0)) && r38) && ((x39.1 == 0) && ((x39.2.1 == 2) && ((x39.2.2.1 == 0) && ((x39.2.2.2.1 == 4) && ((x39.2.2.2.2.1 == 4) && ((x39.2.2.2.2.2.1 == 9) && ((x39.2.2.2.2.2.2.1 == (-1)) && ((x39.2.2.2.2.2.2.2.1 == 0) && true))))))))) && (x40.2.2.2.2.2.2.1 == 4)) && (x41.2.2.2.2.2.2.1 == 4)) == true) then (m17 r42 3) else some []).bind fun r43 =>
        bif ((((((((r9 && r11) && r37) && (r8.2.2.1 == 0)) && r38) && ((x39.1 == 0) && ((x39.2.1 == 2) && ((x39.2.2.1 == 0) && ((x39.2.2.2.1 == 4) && ((x39.2.2.2.2.1 == 4) && ((x39.2.2.2.2.2.1 == 9) && ((x39.2.2.2.2.2.2.1 == (-1)) && ((x39.2.2.2.2.2.2.2.1 == 0) && true))))))))) && (x40.2.2.2.2.2.2.1 == 4)) && (x41.2.2.2.2.2.2.1 == 4)) == true) then
          (bif ((((((((r9 && r11) && r37) && (r8.2.2.1 == 0)) && r38) && ((x39.1 == 0) && ((x39.2.1 == 2) && ((x39.2.2.1 == 0) && ((x39.2.2.2.1 == 4) && ((x39.2.2.2.2.1 == 4) && ((x39.2.2.2.2.2.1 == 9) && ((x39.2.2.2.2.2.2.1 == (-1)) && ((x39.2.2.2.2.2.2.2.1 == 0) && true))))))))) && (x40.2.2.2.2.2.2.1 == 4)) && (x41.2.2.2.2.2.2.1 == 4)) == true) then (m11 r43 [0]) else some false).bind fun r44 =>
          (bif (((((((((r9 && r11) && r37) && (r8.2.2.1 == 0)) && r38) && ((x39.1 == 0) && ((x39.2.1 == 2) && ((x39.2.2.1 == 0) && ((x39.2.2.2.1 == 4) && ((x39.2.2.2.2.1 == 4) && ((x39.2.2.2.2.2.1 == 9) && ((x39.2.2.2.2.2.2.1 == (-1)) && ((x39.2.2.2.2.2.2.2.1 == 0) && true))))))))) && (x40.2.2.2.2.2.2.1 == 4)) && (x41.2.2.2.2.2.2.1 == 4)) && r44) == true) then m22 else some []).bind fun r45 =>
          (bif (((((((((r9 && r11) && r37) && (r8.2.2.1 == 0)) && r38) && ((x39.1 == 0) && ((x39.2.1 == 2) && ((x39.2.2.1 == 0) && ((x39.2.2.2.1 == 4) && ((x39.2.2.2.2.1 == 4) && ((x39.2.2.2.2.2.1 == 9) && ((x39.2.2.2.2.2.2.1 == (-1)) && ((x39.2.2.2.2.2.2.2.1 == 0) && true))))))))) && (x40.2.2.2.2.2.2.1 == 4)) && (x41.2.2.2.2.2.2.1 == 4)) && r44) == true) then (m10 r45 r6.2.1) else some false).bind fun r46 =>
          some (((((((((r9 && r11) && r37) && (r8.2.2.1 == 0)) && r38) && ((x39.1 == 0) && ((x39.2.1 == 2) && ((x39.2.2.1 == 0) && ((x39.2.2.2.1 == 4) && ((x39.2.2.2.2.1 == 4) && ((x39.2.2.2.2.2.1 == 9) && ((x39.2.2.2.2.2.2.1 == (-1)) && ((x39.2.2.2.2.2.2.2.1 == 0) && true))))))))) && (x40.2.2.2.2.2.2.1 == 4)) && (x41.2.2.2.2.2.2.1 == 4)) && r44) && r46)
        else
          (bif ((((((((r9 && r11) && r37) && (r8.2.2.1 == 0)) && r38) && ((x39.1 == 0) && ((x39.2.1 == 2) && ((x39.2.2.1 == 0) && ((x39.2.2.2.1 == 4) && ((x39.2.2.2.2.1 == 4) && ((x39.2.2.2.2.2.1 == 9) && ((x39.2.2.2.2.2.2.1 == (-1)) && ((x39.2.2.2.2.2.2.2.1 == 0) && true))))))))) && (x40.2.2.2.2.2.2.1 == 4)) && (x41.2.2.2.2.2.2.1 == 4)) == true) then (m11 r43 []) else some false).bind fun r47 =>
          (bif (((((((((r9 && r11) && r37) && (r8.2.2.1 == 0)) && r38) && ((x39.1 == 0) && ((x39.2.1 == 2) && ((x39.2.2.1 == 0) && ((x39.2.2.2.1 == 4) && ((x39.2.2.2.2.1 == 4) && ((x39.2.2.2.2.2.1 == 9) && ((x39.2.2.2.2.2.2.1 == (-1)) && ((x39.2.2.2.2.2.2.2.1 == 0) && true))))))))) && (x40.2.2.2.2.2.2.1 == 4)) && (x41.2.2.2.2.2.2.1 == 4)) && r47) == true) then m22 else some []).bind fun r48 =>
          (bif (((((((((r9 && r11) && r37) && (r8.2.2.1 == 0)) && r38) && ((x39.1 == 0) && ((x39.2.1 == 2) && ((x39.2.2.1 == 0) && ((x39.2.2.2.1 == 4) && ((x39.2.2.2.2.1 == 4) && ((x39.2.2.2.2.2.1 == 9) && ((x39.2.2.2.2.2.2.1 == (-1)) && ((x39.2.2.2.2.2.2.2.1 == 0) && true))))))))) && (x40.2.2.2.2.2.2.1 == 4)) && (x41.2.2.2.2.2.2.1 == 4)) && r47) == true) then (m10 r48 r6.2.1) else some false).bind fun r49 =>
          some (((((((((r9 && r11) && r37) && (r8.2.2.1 == 0)) && r38) && ((x39.1 == 0) && ((x39.2.1 == 2) && ((x39.2.2.1 == 0) && ((x39.2.2.2.1 == 4) && ((x39.2.2.2.2.1 == 4) && ((x39.2.2.2.2.2.1 == 9) && ((x39.2.2.2.2.2.2.1 == (-1)) && ((x39.2.2.2.2.2.2.2.1 == 0) && true))))))))) && (x40.2.2.2.2.2.2.1 == 4)) && (x41.2.2.2.2.2.2.1 == 4)) && r47) && r49)
      else
        (bif ((((r9 && r11) && r37) && (r8.2.2.1 == 0)) == true) then (m11 r8.1 []) else some false).bind fun r50 =>
        (idx r6.2.1 3).bind fun x51 =>
        (idxG ((((((r9 && r11) && r37) && (r8.2.2.1 == 0)) && r50) && ((x51.1 == 0) && ((x51.2.1 == 2) && ((x51.2.2.1 == 0) && ((x51.2.2.2.1 == 4) && ((x51.2.2.2.2.1 == 4) && ((x51.2.2.2.2.2.1 == 9) && ((x51.2.2.2.2.2.2.1 == (-1)) && ((x51.2.2.2.2.2.2.2.1 == 0) && true))))))))) == true) (0, 0, 0, 0, 0, 0, 0, 0, ()) r6.2.1 0).bind fun x52 =>
        (idxG (((((((r9 && r11) && r37) && (r8.2.2.1 == 0)) && r50) && ((x51.1 == 0) && ((x51.2.1 == 2) && ((x51.2.2.1 == 0) && ((x51.2.2.2.1 == 4) && ((x51.2.2.2.2.1 == 4) && ((x51.2.2.2.2.2.1 == 9) && ((x51.2.2.2.2.2.2.1 == (-1)) && ((x51.2.2.2.2.2.2.2.1 == 0) && true))))))))) && (x52.2.2.2.2.2.2.1 == 4)) == true) (0, 0, 0, 0, 0, 0, 0, 0, ()) r6.2.1 2).bind fun x53 =>
        (bif ((((((((r9 && r11) && r37) && (r8.2.2.1 == 0)) && r50) && ((x51.1 == 0) && ((x51.2.1 == 2) && ((x51.2.2.1 == 0) && ((x51.2.2.2.1 == 4) && ((x51.2.2.2.2.1 == 4) && ((x51.2.2.2.2.2.1 == 9) && ((x51.2.2.2.2.2.2.1 == (-1)) && ((x51.2.2.2.2.2.2.2.1 == 0) && true))))))))) && (x52.2.2.2.2.2.2.1 == 4)) && (x53.2.2.2.2.2.2.1 == 4)) == true) then m23 else some []).bind fun r54 =>
        (bif ((((((((r9 && r11) && r37) && (r8.2.2.1 == 0)) && r50) && ((x51.1 == 0) && ((x51.2.1 == 2) && ((x51.2.2.1 == 0) && ((x51.2.2.2.1 == 4) && ((x51.2.2.2.2.1 == 4) && ((x51.2.2.2.2.2.1 == 9) && ((x51.2.2.2.2.2.2.1 == (-1)) && ((x51.2.2.2.2.2.2.2.1 == 0) && true))))))))) && (x52.2.2.2.2.2.2.1 == 4)) && (x53.2.2.2.2.2.2.1 == 4)) == true) then (m17 r54 3) else some []).bind fun r55 =>
        bif ((((((((r9 && r11) && r37) && (r8.2.2.1 == 0)) && r50) && ((x51.1 == 0) && ((x51.2.1 == 2) && ((x51.2.2.1 == 0) && ((x51.2.2.2.1 == 4) && ((x51.2.2.2.2.1 == 4) && ((x51.2.2.2.2.2.1 == 9) && ((x51.2.2.2.2.2.2.1 == (-1)) && ((x51.2.2.2.2.2.2.2.1 == 0) && true))))))))) && (x52.2.2.2.2.2.2.1 == 4)) && (x53.2.2.2.2.2.2.1 == 4)) == true) then
          (bif ((((((((r9 && r11) && r37) && (r8.2.2.1 == 0)) && r50) && ((x51.1 == 0) && ((x51.2.1 == 2) && ((x51.2.2.1 == 0) && ((x51.2.2.2.1 == 4) && ((x51.2.2.2.2.1 == 4) && ((x51.2.2.2.2.2.1 == 9) && ((x51.2.2.2.2.2.2.1 == (-1)) && ((x51.2.2.2.2.2.2.2.1 == 0) && true))))))))) && (x52.2.2.2.2.2.2.1 == 4)) && (x53.2.2.2.2.2.2.1 == 4)) == true) then (m11 r55 [0]) else some false).bind fun r56 =>
          (bif (((((((((r9 && r11) && r37) && (r8.2.2.1 == 0)) && r50) && ((x51.1 == 0) && ((x51.2.1 == 2) && ((x51.2.2.1 == 0) && ((x51.2.2.2.1 == 4) && ((x51.2.2.2.2.1 == 4) && ((x51.2.2.2.2.2.1 == 9) && ((x51.2.2.2.2.2.2.1 == (-1)) && ((x51.2.2.2.2.2.2.2.1 == 0) && true))))))))) && (x52.2.2.2.2.2.2.1 == 4)) && (x53.2.2.2.2.2.2.1 == 4)) && r56) == true) then m22 else some []).bind fun r57 =>
          (bif (((((((((r9 && r11) && r37) && (r8.2.2.1 == 0)) && r50) && ((x51.1 == 0) && ((x51.2.1 == 2) && ((x51.2.2.1 == 0) && ((x51.2.2.2.1 == 4) && ((x51.2.2.2.2.1 == 4) && ((x51.2.2.2.2.2.1 == 9) && ((x51.2.2.2.2.2.2.1 == (-1)) && ((x51.2.2.2.2.2.2.2.1 == 0) && true))))))))) && (x52.2.2.2.2.2.2.1 == 4)) && (x53.2.2.2.2.2.2.1 == 4)) && r56) == true) then (m10 r57 r6.2.1) else some false).bind fun r58 =>
          some (((((((((r9 && r11) && r37) && (r8.2.2.1 == 0)) && r50) && ((x51.1 == 0) && ((x51.2.1 == 2) && ((x51.2.2.1 == 0) && ((x51.2.2.2.1 == 4) && ((x51.2.2.2.2.1 == 4) && ((x51.2.2.2.2.2.1 == 9) && ((x51.2.2.2.2.2.2.1 == (-1)) && ((x51.2.2.2.2.2.2.2.1 == 0) && true))))))))) && (x52.2.2.2.2.2.2.1 == 4)) && (x53.2.2.2.2.2.2.1 == 4)) && r56) && r58)
        else
          (bif ((((((((r9 && r11) && r37) && (r8.2.2.1 == 0)) && r50) && ((x51.1 == 0) && ((x51.2.1 == 2) && ((x51.2.2.1 == 0) && ((x51.2.2.2.1 == 4) && ((x51.2.2.2.2.1 == 4) && ((x51.2.2.2.2.2.1 == 9) && ((x51.2.2.2.2.2.2.1 == (-1)) && ((x51.2.2.2.2.2.2.2.1 == 0) && true))))))))) && (x52.2.2.2.2.2.2.1 == 4)) && (x53.2.2.2.2.2.2.1 == 4)) == true) then (m11 r55 []) else some false).bind fun r59 =>
          (bif (((((((((r9 && r11) && r37) && (r8.2.2.1 == 0)) && r50) && ((x51.1 == 0) && ((x51.2.1 == 2) && ((x51.2.2.1 == 0) && ((x51.2.2.2.1 == 4) && ((x51.2.2.2.2.1 == 4) && ((x51.2.2.2.2.2.1 == 9) && ((x51.2.2.2.2.2.2.1 == (-1)) && ((x51.2.2.2.2.2.2.2.1 == 0) && true))))))))) && (x52.2.2.2.2.2.2.1 == 4)) && (x53.2.2.2.2.2.2.1 == 4)) && r59) == true) then m22 else some []).bind fun r60 =>
          (bif (((((((((r9 && r11) && r37) && (r8.2.2.1 == 0)) && r50) && ((x51.1 == 0) && ((x51.2.1 == 2) && ((x51.2.2.1 == 0) && ((x51.2.2.2.1 == 4) && ((x51.2.2.2.2.1 == 4) && ((x51.2.2.2.2.2.1 == 9) && ((x51.2.2.2.2.2.2.1 == (-1)) && ((x51.2.2.2.2.2.2.2.1 == 0) && true))))))))) && (x52.2.2.2.2.2.2.1 == 4)) && (x53.2.2.2.2.2.2.1 == 4)) && r59) == true) then (m10 r60 r6.2.1) else some false).bind fun r61 =>
          some (((((((((r9 && r11) && r37) && (r8.2.2.1 == 0)) && r50) && ((x51.1 == 0) && ((x51.2.1 == 2) && ((x51.2.2.1 == 0) && ((x51.2.2.2.1 == 4) && ((x51.2.2.2.2.1 == 4) && ((x51.2.2.2.2.2.1 == 9) && ((x51.2.2.2.2.2.2.1 == (-1)) && ((x51.2.2.2.2.2.2.2.1 == 0) && true))))))))) && (x52.2.2.2.2.2.2.1 == 4)) && (x53.2.2.2.2.2.2.1 == 4)) && r59) && r61)
noncomputable def e7 : PmE := entry 7 [] false .bool (fun x => m7 )
theorem q7 (x : tyL []) : execF E7 C7 Try.f7 (datL [] x) [] (retK false .bool) = m7  := by kernel_rfl
theorem p7 : PmOk Try.prog e7 := pm_ok (E := E7) ok7 ord lm7 Try.func7 ca7 q7

/-! 8: consol/consolref32.Few -/
theorem ca8 : callable Try.prog 8 := ⟨Try.f8, Try.func8, by kernel_rfl, by kernel_rfl⟩
noncomputable def E8 : Env := mkEnv2 Try.prog [] []
theorem ok8 : EnvOk E8 := mkEnv2_ok (by simp) (by simp)
noncomputable def C8 : Cfg := noCfg
theorem lm8 : ∀ c, Try.f8.body = some c → LmOk E8 C8 Try.f8.ntmps c := fun _ _ => noCfg_lm
noncomputable def m8 (a0 : (List T60)) (a1 : (List Int)) (a2 : (List T25)) : Option (Bool) :=
  some (((decide ((List.length a0 : Int) ≤ 10)) && (decide ((List.length a1 : Int) ≤ 10))) && (decide ((List.length a2 : Int) ≤ 12)))
noncomputable def e8 : PmE := entry 8 [(.sl G60), (.sl (.int .i64)), (.sl G25)] false .bool (fun x => m8 x.1 x.2.1 x.2.2.1)
theorem q8 (x : tyL [(.sl G60), (.sl (.int .i64)), (.sl G25)]) : execF E8 C8 Try.f8 (datL [(.sl G60), (.sl (.int .i64)), (.sl G25)] x) [] (retK false .bool) = m8 x.1 x.2.1 x.2.2.1 := by kernel_rfl
theorem p8 : PmOk Try.prog e8 := pm_ok (E := E8) ok8 ord lm8 Try.func8 ca8 q8

/-! 13: consol/trade.Add -/
theorem ca13 : callable Try.prog 13 := ⟨Try.f13, Try.func13, by kernel_rfl, by kernel_rfl⟩
noncomputable def E13 : Env := mkEnv2 Try.prog [e10, e30, e33] [c27]
theorem ok13 : EnvOk E13 := mkEnv2_ok (by simp only [List.mem_cons, List.not_mem_nil, or_false, forall_eq_or_imp, forall_eq]; exact ⟨p10, p30, p33⟩) (by simp only [List.mem_cons, List.not_mem_nil, or_false, forall_eq]; exact d27)
noncomputable def C13 : Cfg := noCfg
theorem lm13 : ∀ c, Try.f13.body = some c → LmOk E13 C13 Try.f13.ntmps c := fun _ _ => noCfg_lm
noncomputable def m13 (a0 : (List T60)) (a1 : (List T25)) (a2 : T25) : Option (((List T25) × (Int × Unit))) :=
  (m10 a0 a1).bind fun r1 =>
  (bif ((!r1) == false) then (m30 a0) else some []).bind fun r2 =>
  (bif ((!r1) == false) then (m33 r2 a2) else some false).bind fun r3 =>
  bif (((!r1) || (!r3)) || (a2.2.2.2.2.2.2.1 != (-1))) then
    some ([], 1, ())
  else
    bif (decide ((List.length a1 : Int) ≥ 5000)) then
      some ([], 6, ())
    else
      (cloneM a1).bind fun r4 =>
      asrt true (decide (List.length (α := T25) r4 + List.length (α := T25) [a2] ≤ LIM)) (
        some ((r4 ++ [a2]), 0, ()))
noncomputable def e13 : PmE := entry 13 [(.sl G60), (.sl G25), G25] true (.cons (.sl G25) (.cons (.int .i64) .nil)) (fun x => m13 x.1 x.2.1 x.2.2.1)
theorem q13 (x : tyL [(.sl G60), (.sl G25), G25]) : execF E13 C13 Try.f13 (datL [(.sl G60), (.sl G25), G25] x) [] (retK true (.cons (.sl G25) (.cons (.int .i64) .nil))) = m13 x.1 x.2.1 x.2.2.1 := by kernel_rfl
theorem p13 : PmOk Try.prog e13 := pm_ok (E := E13) ok13 ord lm13 Try.func13 ca13 q13

noncomputable def cK13 : CmE := konE 13 [(.sl G60), (.sl G25), G25] true (.cons (.sl G25) (.cons (.int .i64) .nil)) (fun x => m13 x.1 x.2.1 x.2.2.1)
theorem dK13 : CmOk Try.prog cK13 := kon_ok p13

/-! 44: consol/consolref30.above -/
theorem ca44 : callable Try.prog 44 := ⟨Try.f44, Try.func44, by kernel_rfl, by kernel_rfl⟩
noncomputable def E44 : Env := mkEnv2 Try.prog [] []
theorem ok44 : EnvOk E44 := mkEnv2_ok (by simp) (by simp)
/-- a round of a loop of consol/consolref30.above -/
noncomputable def s44_1 {R : Type} (t0 : (List T60)) (kn : Int → Int → Option R) (k1 : Int → Option R) (t1 : Int) (t5 : Int) : Option R :=
  (idx t0 t1).bind fun x1 =>
  bif (decide (x1.1 ≥ 0)) then
    (idx t0 t1).bind fun x2 =>
    kn x2.1 (IntKind.i64.wrap (t5 + 1))
  else
    k1 t5
noncomputable def l44_1 {R : Type} (t0 : (List T60)) (k1 : Int → Option R) : Nat → Int → Int → Option R
  | 0, _, _ => none
  | n + 1, t1, t5 => s44_1 t0 (l44_1 t0 k1 n) k1 t1 t5
noncomputable def L44_1 : LE := ⟨3, 0, ⟨[(0, (.dat (.sl G60))), (1, (.dat (.int .i64))), (5, (.dat (.int .i64)))], []⟩, fun R n x k => l44_1 x.1.1 (fun y0 => k (.exit 0) ⟨[(5, (.dat (.int .i64) y0))], []⟩) n x.1.2.1 x.1.2.2.1⟩
noncomputable def C44 : Cfg := mkCfg [(3, ⟨[0, 1, 5], []⟩)] [(3, (⟨[5], []⟩, ⟨[4], []⟩))] (([(0, L44_1)] : List (Nat × LE)).map (·.2))
theorem ek44_1 : EOk E44 C44 Try.f44.ntmps (bodyL Try.f44 0) L44_1 := eok_of (e := L44_1) (fun R x Kn k => s44_1 x.1.1 (fun v0 v1 => Kn ((x.1.1, v0, v1, ()), (()))) (fun y0 => k (.exit 0) ⟨[(5, (.dat (.int .i64) y0))], []⟩) x.1.2.1 x.1.2.2.1) (fun _ _ _ => rfl) (fun _ _ _ _ => rfl) (fun R x Kn k => by kernel_rfl)
theorem lm44 : ∀ c, Try.f44.body = some c → LmOk E44 C44 Try.f44.ntmps c := lmOk_of (ps := [(0, L44_1)]) (by kernel_rfl) (by kernel_rfl) ⟨ek44_1, trivial⟩
noncomputable def m44 (a0 : (List T60)) (a1 : Int) : Option (Int) :=
  l44_1 a0 (fun y3 =>
      some y3) FUEL a1 0
noncomputable def e44 : PmE := entry 44 [(.sl G60), (.int .i64)] false (.int .i64) (fun x => m44 x.1 x.2.1)
theorem q44 (x : tyL [(.sl G60), (.int .i64)]) : execF E44 C44 Try.f44 (datL [(.sl G60), (.int .i64)] x) [] (retK false (.int .i64)) = m44 x.1 x.2.1 := by kernel_rfl
theorem p44 : PmOk Try.prog e44 := pm_ok (E := E44) ok44 ord lm44 Try.func44 ca44 q44

/-! 37: consol/consolref30.Right -/
theorem ca37 : callable Try.prog 37 := ⟨Try.f37, Try.func37, by kernel_rfl, by kernel_rfl⟩
noncomputable def E37 : Env := mkEnv2 Try.prog [e44] []
theorem ok37 : EnvOk E37 := mkEnv2_ok (by simp only [List.mem_cons, List.not_mem_nil, or_false, forall_eq]; exact p44) (by simp)
/-- a round of a loop of consol/consolref30.Right -/
noncomputable def s37_1 {R : Type} (t0 : (List T60)) (kn : Int → Option R) (k1 : Option R) (k2 : Option R) (t3 : Int) : Option R :=
  bif (decide (t3 < (List.length t0 : Int))) then
    (idx t0 t3).bind fun x1 =>
    bif ((((decide (x1.1 < (-1))) || (decide (x1.1 ≥ t3))) || (decide (x1.2.1 < (-1)))) || (decide (x1.2.1 ≥ 60))) then
      k2
    else
      kn (IntKind.i64.wrap (t3 + 1))
  else
    k1
noncomputable def l37_1 {R : Type} (t0 : (List T60)) (k1 : Option R) (k2 : Option R) : Nat → Int → Option R
  | 0, _ => none
  | n + 1, t3 => s37_1 t0 (l37_1 t0 k1 k2 n) k1 k2 t3
noncomputable def L37_1 : LE := ⟨3, 0, ⟨[(0, (.dat (.sl G60))), (3, (.dat (.int .i64)))], []⟩, fun R n x k => l37_1 x.1.1 (k (.exit 0) ⟨[(0, (.dat (.sl G60) x.1.1))], []⟩) (k .ret ⟨[(2, (.dat .bool false))], []⟩) n x.1.2.1⟩
/-- a round of a loop of consol/consolref30.Right -/
noncomputable def s37_2 {R : Type} (t0 : (List T60)) (kn : Int → Option R) (k1 : Option R) (k2 : Option R) (t5 : Int) : Option R :=
  bif (decide (t5 < (List.length t0 : Int))) then
    (m44 t0 t5).bind fun r2 =>
    bif (decide (r2 > 4)) then
      k2
    else
      kn (IntKind.i64.wrap (t5 + 1))
  else
    k1
noncomputable def l37_2 {R : Type} (t0 : (List T60)) (k1 : Option R) (k2 : Option R) : Nat → Int → Option R
  | 0, _ => none
  | n + 1, t5 => s37_2 t0 (l37_2 t0 k1 k2 n) k1 k2 t5
noncomputable def L37_2 : LE := ⟨9, 0, ⟨[(0, (.dat (.sl G60))), (5, (.dat (.int .i64)))], []⟩, fun R n x k => l37_2 x.1.1 (k (.exit 2) ⟨[(0, (.dat (.sl G60) x.1.1))], []⟩) (k .ret ⟨[(2, (.dat .bool false))], []⟩) n x.1.2.1⟩
noncomputable def C37 : Cfg := mkCfg [(3, ⟨[0, 3], []⟩), (9, ⟨[0, 5], []⟩)] [(3, (⟨[0], []⟩, ⟨[2], []⟩)), (9, (⟨[0], []⟩, ⟨[2], []⟩))] (([(0, L37_1), (1, L37_2)] : List (Nat × LE)).map (·.2))
theorem ek37_1 : EOk E37 C37 Try.f37.ntmps (bodyL Try.f37 0) L37_1 := eok_of (e := L37_1) (fun R x Kn k => s37_1 x.1.1 (fun v0 => Kn ((x.1.1, v0, ()), (()))) (k (.exit 0) ⟨[(0, (.dat (.sl G60) x.1.1))], []⟩) (k .ret ⟨[(2, (.dat .bool false))], []⟩) x.1.2.1) (fun _ _ _ => rfl) (fun _ _ _ _ => rfl) (fun R x Kn k => by kernel_rfl)
theorem ek37_2 : EOk E37 C37 Try.f37.ntmps (bodyL Try.f37 1) L37_2 := eok_of (e := L37_2) (fun R x Kn k => s37_2 x.1.1 (fun v0 => Kn ((x.1.1, v0, ()), (()))) (k (.exit 2) ⟨[(0, (.dat (.sl G60) x.1.1))], []⟩) (k .ret ⟨[(2, (.dat .bool false))], []⟩) x.1.2.1) (fun _ _ _ => rfl) (fun _ _ _ _ => rfl) (fun R x Kn k => by kernel_rfl)
theorem lm37 : ∀ c, Try.f37.body = some c → LmOk E37 C37 Try.f37.ntmps c := lmOk_of (ps := [(0, L37_1), (1, L37_2)]) (by kernel_rfl) (by kernel_rfl) ⟨ek37_1, ek37_2, trivial⟩
noncomputable def m37 (a0 : (List T60)) : Option (Bool) :=
  l37_1 a0 (
      l37_2 a0 (
          some (decide ((List.length a0 : Int) ≤ 20000))) (
          some false) FUEL 0) (
      some false) FUEL 0
noncomputable def e37 : PmE := entry 37 [(.sl G60)] false .bool (fun x => m37 x.1)
theorem q37 (x : tyL [(.sl G60)]) : execF E37 C37 Try.f37 (datL [(.sl G60)] x) [] (retK false .bool) = m37 x.1 := by kernel_rfl
theorem p37 : PmOk Try.prog e37 := pm_ok (E := E37) ok37 ord lm37 Try.func37 ca37 q37

/-! 45: consol/consolref30.is -/
theorem ca45 : callable Try.prog 45 := ⟨Try.f45, Try.func45, by kernel_rfl, by kernel_rfl⟩
noncomputable def E45 : Env := mkEnv2 Try.prog [e37] []
theorem ok45 : EnvOk E45 := mkEnv2_ok (by simp only [List.mem_cons, List.not_mem_nil, or_false, forall_eq]; exact p37) (by simp)
noncomputable def C45 : Cfg := noCfg
theorem lm45 : ∀ c, Try.f45.body = some c → LmOk E45 C45 Try.f45.ntmps c := fun _ _ => noCfg_lm
noncomputable def m45 (a0 : (List T60)) (a1 : Int) : Option (Bool) :=
  (bif (((decide (a1 ≥ 0)) && (decide (a1 < (List.length a0 : Int)))) == true) then (m37 a0) else some false).bind fun r1 =>
  some (((decide (a1 ≥ 0)) && (decide (a1 < (List.length a0 : Int)))) && r1)
noncomputable def e45 : PmE := entry 45 [(.sl G60), (.int .i64)] false .bool (fun x => m45 x.1 x.2.1)
theorem q45 (x : tyL [(.sl G60), (.int .i64)]) : execF E45 C45 Try.f45 (datL [(.sl G60), (.int .i64)] x) [] (retK false .bool) = m45 x.1 x.2.1 := by kernel_rfl
theorem p45 : PmOk Try.prog e45 := pm_ok (E := E45) ok45 ord lm45 Try.func45 ca45 q45

/-! 38: consol/consolref30.Leaf -/
theorem ca38 : callable Try.prog 38 := ⟨Try.f38, Try.func38, by kernel_rfl, by kernel_rfl⟩
noncomputable def E38 : Env := mkEnv2 Try.prog [e45] []
theorem ok38 : EnvOk E38 := mkEnv2_ok (by simp only [List.mem_cons, List.not_mem_nil, or_false, forall_eq]; exact p45) (by simp)
/-- a round of a loop of consol/consolref30.Leaf -/
noncomputable def s38_1 {R : Type} (t0 : (List T60)) (t1 : Int) (kn : Int → Option R) (k1 : Option R) (k2 : Option R) (t5 : Int) : Option R :=
  bif (decide (t5 < (List.length t0 : Int))) then
    (idx t0 t5).bind fun x2 =>
    bif (x2.1 == t1) then
      k2
    else
      kn (IntKind.i64.wrap (t5 + 1))
  else
    k1
noncomputable def l38_1 {R : Type} (t0 : (List T60)) (t1 : Int) (k1 : Option R) (k2 : Option R) : Nat → Int → Option R
  | 0, _ => none
  | n + 1, t5 => s38_1 t0 t1 (l38_1 t0 t1 k1 k2 n) k1 k2 t5
noncomputable def L38_1 : LE := ⟨5, 0, ⟨[(0, (.dat (.sl G60))), (1, (.dat (.int .i64))), (5, (.dat (.int .i64)))], []⟩, fun R n x k => l38_1 x.1.1 x.1.2.1 (k (.exit 0) ⟨[], []⟩) (k .ret ⟨[(4, (.dat .bool false))], []⟩) n x.1.2.2.1⟩
noncomputable def C38 : Cfg := mkCfg [(5, ⟨[0, 1, 5], []⟩)] [(5, (⟨[], []⟩, ⟨[4], []⟩))] (([(0, L38_1)] : List (Nat × LE)).map (·.2))
theorem ek38_1 : EOk E38 C38 Try.f38.ntmps (bodyL Try.f38 0) L38_1 := eok_of (e := L38_1) (fun R x Kn k => s38_1 x.1.1 x.1.2.1 (fun v0 => Kn ((x.1.1, x.1.2.1, v0, ()), (()))) (k (.exit 0) ⟨[], []⟩) (k .ret ⟨[(4, (.dat .bool false))], []⟩) x.1.2.2.1) (fun _ _ _ => rfl) (fun _ _ _ _ => rfl) (fun R x Kn k => by kernel_rfl)
theorem lm38 : ∀ c, Try.f38.body = some c → LmOk E38 C38 Try.f38.ntmps c := lmOk_of (ps := [(0, L38_1)]) (by kernel_rfl) (by kernel_rfl) ⟨ek38_1, trivial⟩
noncomputable def m38 (a0 : (List T60)) (a1 : Int) : Option (Bool) :=
  (m45 a0 a1).bind fun r1 =>
  bif (!r1) then
    some false
  else
    l38_1 a0 a1 (
        some true) (
        some false) FUEL 0
noncomputable def e38 : PmE := entry 38 [(.sl G60), (.int .i64)] false .bool (fun x => m38 x.1 x.2.1)
theorem q38 (x : tyL [(.sl G60), (.int .i64)]) : execF E38 C38 Try.f38 (datL [(.sl G60), (.int .i64)] x) [] (retK false .bool) = m38 x.1 x.2.1 := by kernel_rfl
theorem p38 : PmOk Try.prog e38 := pm_ok (E := E38) ok38 ord lm38 Try.func38 ca38 q38

/-! 35: consol/consolref32.day -/
theorem ca35 : callable Try.prog 35 := ⟨Try.f35, Try.func35, by kernel_rfl, by kernel_rfl⟩
noncomputable def E35 : Env := mkEnv2 Try.prog [] []
theorem ok35 : EnvOk E35 := mkEnv2_ok (by simp) (by simp)
noncomputable def C35 : Cfg := noCfg
theorem lm35 : ∀ c, Try.f35.body = some c → LmOk E35 C35 Try.f35.ntmps c := fun _ _ => noCfg_lm
noncomputable def m35 (a0 : Int) : Option (Bool) :=
  some ((decide (a0 ≥ 0)) && (decide (a0 ≤ 200000)))
noncomputable def e35 : PmE := entry 35 [(.int .i64)] false .bool (fun x => m35 x.1)
theorem q35 (x : tyL [(.int .i64)]) : execF E35 C35 Try.f35 (datL [(.int .i64)] x) [] (retK false .bool) = m35 x.1 := by kernel_rfl
theorem p35 : PmOk Try.prog e35 := pm_ok (E := E35) ok35 ord lm35 Try.func35 ca35 q35

/-! 34: consol/consolref32.One -/
theorem ca34 : callable Try.prog 34 := ⟨Try.f34, Try.func34, by kernel_rfl, by kernel_rfl⟩
noncomputable def E34 : Env := mkEnv2 Try.prog [e35, e38] []
theorem ok34 : EnvOk E34 := mkEnv2_ok (by simp only [List.mem_cons, List.not_mem_nil, or_false, forall_eq_or_imp, forall_eq]; exact ⟨p35, p38⟩) (by simp)
noncomputable def C34 : Cfg := noCfg
theorem lm34 : ∀ c, Try.f34.body = some c → LmOk E34 C34 Try.f34.ntmps c := fun _ _ => noCfg_lm
noncomputable def m34 (a0 : (List T60)) (a1 : T25) : Option (Bool) :=
  (bif ((((decide (a1.1 < 0)) || (decide (a1.1 ≥ 2))) || (a1.2.1 == a1.2.2.1)) == false) then (m38 a0 a1.2.1) else some false).bind fun r1 =>
  (bif (((((decide (a1.1 < 0)) || (decide (a1.1 ≥ 2))) || (a1.2.1 == a1.2.2.1)) || (!r1)) == false) then (m38 a0 a1.2.2.1) else some false).bind fun r2 =>
  bif (((((((decide (a1.1 < 0)) || (decide (a1.1 ≥ 2))) || (a1.2.1 == a1.2.2.1)) || (!r1)) || (!r2)) || (decide (a1.2.2.2.1 < 1))) || (decide (a1.2.2.2.1 > 1000000000))) then
    some false
  else
    (m35 a1.2.2.2.2.1).bind fun r3 =>
    (bif ((!r3) == false) then (m35 a1.2.2.2.2.2.1) else some false).bind fun r4 =>
    (bif (((((!r3) || (!r4)) || (decide (a1.2.2.2.2.1 > a1.2.2.2.2.2.1))) == false) && ((a1.2.2.2.2.2.2.1 != (-1)) == true)) then (m35 a1.2.2.2.2.2.2.1) else some false).bind fun r5 =>
    bif ((((!r3) || (!r4)) || (decide (a1.2.2.2.2.1 > a1.2.2.2.2.2.1))) || ((a1.2.2.2.2.2.2.1 != (-1)) && ((!r5) || (decide (a1.2.2.2.2.2.2.1 < a1.2.2.2.2.2.1))))) then
      some false
    else
      bif (a1.1 == 0) then
        some (a1.2.2.2.2.2.2.2.1 == 0)
      else
        (m35 a1.2.2.2.2.2.2.2.1).bind fun r6 =>
        some (r6 && (decide (a1.2.2.2.2.2.2.2.1 > a1.2.2.2.2.2.1)))
noncomputable def e34 : PmE := entry 34 [(.sl G60), G25] false .bool (fun x => m34 x.1 x.2.1)
theorem q34 (x : tyL [(.sl G60), G25]) : execF E34 C34 Try.f34 (datL [(.sl G60), G25] x) [] (retK false .bool) = m34 x.1 x.2.1 := by kernel_rfl
theorem p34 : PmOk Try.prog e34 := pm_ok (E := E34) ok34 ord lm34 Try.func34 ca34 q34

/-! 16: consol/consolref32.Right -/
theorem ca16 : callable Try.prog 16 := ⟨Try.f16, Try.func16, by kernel_rfl, by kernel_rfl⟩
noncomputable def E16 : Env := mkEnv2 Try.prog [e34, e37] []
theorem ok16 : EnvOk E16 := mkEnv2_ok (by simp only [List.mem_cons, List.not_mem_nil, or_false, forall_eq_or_imp, forall_eq]; exact ⟨p34, p37⟩) (by simp)
/-- a round of a loop of consol/consolref32.Right -/
noncomputable def s16_1 {R : Type} (t0 : (List T60)) (t1 : (List T25)) (kn : Int → Option R) (k1 : Option R) (k2 : Option R) (t5 : Int) : Option R :=
  bif (decide (t5 < (List.length t1 : Int))) then
    (idx t1 t5).bind fun x2 =>
    (m34 t0 x2).bind fun r3 =>
    bif (!r3) then
      k2
    else
      kn (IntKind.i64.wrap (t5 + 1))
  else
    k1
noncomputable def l16_1 {R : Type} (t0 : (List T60)) (t1 : (List T25)) (k1 : Option R) (k2 : Option R) : Nat → Int → Option R
  | 0, _ => none
  | n + 1, t5 => s16_1 t0 t1 (l16_1 t0 t1 k1 k2 n) k1 k2 t5
noncomputable def L16_1 : LE := ⟨5, 0, ⟨[(0, (.dat (.sl G60))), (1, (.dat (.sl G25))), (5, (.dat (.int .i64)))], []⟩, fun R n x k => l16_1 x.1.1 x.1.2.1 (k (.exit 0) ⟨[], []⟩) (k .ret ⟨[(4, (.dat .bool false))], []⟩) n x.1.2.2.1⟩
noncomputable def C16 : Cfg := mkCfg [(5, ⟨[0, 1, 5], []⟩)] [(5, (⟨[], []⟩, ⟨[4], []⟩))] (([(0, L16_1)] : List (Nat × LE)).map (·.2))
theorem ek16_1 : EOk E16 C16 Try.f16.ntmps (bodyL Try.f16 0) L16_1 := eok_of (e := L16_1) (fun R x Kn k => s16_1 x.1.1 x.1.2.1 (fun v0 => Kn ((x.1.1, x.1.2.1, v0, ()), (()))) (k (.exit 0) ⟨[], []⟩) (k .ret ⟨[(4, (.dat .bool false))], []⟩) x.1.2.2.1) (fun _ _ _ => rfl) (fun _ _ _ _ => rfl) (fun R x Kn k => by kernel_rfl)
theorem lm16 : ∀ c, Try.f16.body = some c → LmOk E16 C16 Try.f16.ntmps c := lmOk_of (ps := [(0, L16_1)]) (by kernel_rfl) (by kernel_rfl) ⟨ek16_1, trivial⟩
noncomputable def m16 (a0 : (List T60)) (a1 : (List T25)) : Option (Bool) :=
  (m37 a0).bind fun r1 =>
  bif ((!r1) || (decide ((List.length a1 : Int) > 10000))) then
    some false
  else
    l16_1 a0 a1 (
        some true) (
        some false) FUEL 0
noncomputable def e16 : PmE := entry 16 [(.sl G60), (.sl G25)] false .bool (fun x => m16 x.1 x.2.1)
theorem q16 (x : tyL [(.sl G60), (.sl G25)]) : execF E16 C16 Try.f16 (datL [(.sl G60), (.sl G25)] x) [] (retK false .bool) = m16 x.1 x.2.1 := by kernel_rfl
theorem p16 : PmOk Try.prog e16 := pm_ok (E := E16) ok16 ord lm16 Try.func16 ca16 q16

/-! 14: consol/consolref32.Add -/
theorem ca14 : callable Try.prog 14 := ⟨Try.f14, Try.func14, by kernel_rfl, by kernel_rfl⟩
noncomputable def E14 : Env := mkEnv2 Try.prog [e16, e34] []
theorem ok14 : EnvOk E14 := mkEnv2_ok (by simp only [List.mem_cons, List.not_mem_nil, or_false, forall_eq_or_imp, forall_eq]; exact ⟨p16, p34⟩) (by simp)
noncomputable def C14 : Cfg := noCfg
theorem lm14 : ∀ c, Try.f14.body = some c → LmOk E14 C14 Try.f14.ntmps c := fun _ _ => noCfg_lm
noncomputable def m14 (a0 : (List T60)) (a1 : (List T25)) (a2 : T25) : Option (((List T25) × (Int × Unit))) :=
  (m16 a0 a1).bind fun r1 =>
  (bif ((!r1) == false) then (m34 a0 a2) else some false).bind fun r2 =>
  bif (((!r1) || (!r2)) || (a2.2.2.2.2.2.2.1 != (-1))) then
    some ([], 1, ())
  else
    bif (decide ((List.length a1 : Int) ≥ 5000)) then
      some ([], 6, ())
    else
      asrt true (decide (List.length (α := T25) a1 ≤ LIM)) (
        asrt true (decide (List.length (α := T25) a1 + List.length (α := T25) [a2] ≤ LIM)) (
          some ((a1 ++ [a2]), 0, ())))
noncomputable def e14 : PmE := entry 14 [(.sl G60), (.sl G25), G25] true (.cons (.sl G25) (.cons (.int .i64) .nil)) (fun x => m14 x.1 x.2.1 x.2.2.1)
theorem q14 (x : tyL [(.sl G60), (.sl G25), G25]) : execF E14 C14 Try.f14 (datL [(.sl G60), (.sl G25), G25] x) [] (retK true (.cons (.sl G25) (.cons (.int .i64) .nil))) = m14 x.1 x.2.1 x.2.2.1 := by kernel_rfl
theorem p14 : PmOk Try.prog e14 := pm_ok (E := E14) ok14 ord lm14 Try.func14 ca14 q14

noncomputable def cK14 : CmE := konE 14 [(.sl G60), (.sl G25), G25] true (.cons (.sl G25) (.cons (.int .i64) .nil)) (fun x => m14 x.1 x.2.1 x.2.2.1)
theorem dK14 : CmOk Try.prog cK14 := kon_ok p14

/-! 19: consol/consolref30.Units -/
theorem ca19 : callable Try.prog 19 := ⟨Try.f19, Try.func19, by kernel_rfl, by kernel_rfl⟩
noncomputable def E19 : Env := mkEnv2 Try.prog [e37, e38] []
theorem ok19 : EnvOk E19 := mkEnv2_ok (by simp only [List.mem_cons, List.not_mem_nil, or_false, forall_eq_or_imp, forall_eq]; exact ⟨p37, p38⟩) (by simp)
/-- a round of a loop of consol/consolref30.Units -/
noncomputable def s19_1 {R : Type} (t0 : (List T60)) (t1 : (List Int)) (kn : Int → Int → Option R) (k1 : Int → Option R) (k2 : Option R) (t5 : Int) (t6 : Int) : Option R :=
  bif (decide (t6 < (List.length t1 : Int))) then
    (idx t1 t6).bind fun x2 =>
    (idxG ((decide (x2 < 0)) == false) 0 t1 t6).bind fun x3 =>
    (idxG (((decide (x2 < 0)) || (decide (x3 > 1000000000))) == false) 0 t1 t6).bind fun x4 =>
    (bif ((((decide (x2 < 0)) || (decide (x3 > 1000000000))) == false) && ((decide (x4 > 0)) == true)) then (m38 t0 t6) else some false).bind fun r5 =>
    bif (((decide (x2 < 0)) || (decide (x3 > 1000000000))) || ((decide (x4 > 0)) && (!r5))) then
      k2
    else
      (idx t1 t6).bind fun x6 =>
      kn (IntKind.i64.wrap (t5 + x6)) (IntKind.i64.wrap (t6 + 1))
  else
    k1 t5
noncomputable def l19_1 {R : Type} (t0 : (List T60)) (t1 : (List Int)) (k1 : Int → Option R) (k2 : Option R) : Nat → Int → Int → Option R
  | 0, _, _ => none
  | n + 1, t5, t6 => s19_1 t0 t1 (l19_1 t0 t1 k1 k2 n) k1 k2 t5 t6
noncomputable def L19_1 : LE := ⟨6, 0, ⟨[(0, (.dat (.sl G60))), (1, (.dat (.sl (.int .i64)))), (5, (.dat (.int .i64))), (6, (.dat (.int .i64)))], []⟩, fun R n x k => l19_1 x.1.1 x.1.2.1 (fun y0 => k (.exit 0) ⟨[(5, (.dat (.int .i64) y0))], []⟩) (k .ret ⟨[(4, (.dat .bool false))], []⟩) n x.1.2.2.1 x.1.2.2.2.1⟩
noncomputable def C19 : Cfg := mkCfg [(6, ⟨[0, 1, 5, 6], []⟩)] [(6, (⟨[5], []⟩, ⟨[4], []⟩))] (([(0, L19_1)] : List (Nat × LE)).map (·.2))
theorem ek19_1 : EOk E19 C19 Try.f19.ntmps (bodyL Try.f19 0) L19_1 := eok_of (e := L19_1) (fun R x Kn k => s19_1 x.1.1 x.1.2.1 (fun v0 v1 => Kn ((x.1.1, x.1.2.1, v0, v1, ()), (()))) (fun y0 => k (.exit 0) ⟨[(5, (.dat (.int .i64) y0))], []⟩) (k .ret ⟨[(4, (.dat .bool false))], []⟩) x.1.2.2.1 x.1.2.2.2.1) (fun _ _ _ => rfl) (fun _ _ _ _ => rfl) (fun R x Kn k => by kernel_rfl)
theorem lm19 : ∀ c, Try.f19.body = some c → LmOk E19 C19 Try.f19.ntmps c := lmOk_of (ps := [(0, L19_1)]) (by kernel_rfl) (by kernel_rfl) ⟨ek19_1, trivial⟩
noncomputable def m19 (a0 : (List T60)) (a1 : (List Int)) : Option (Bool) :=
  (m37 a0).bind fun r1 =>
  bif ((!r1) || ((List.length a1 : Int) != (List.length a0 : Int))) then
    some false
  else
    l19_1 a0 a1 (fun y7 =>
        some (decide (y7 ≤ 1000000000))) (
        some false) FUEL 0 0
noncomputable def e19 : PmE := entry 19 [(.sl G60), (.sl (.int .i64))] false .bool (fun x => m19 x.1 x.2.1)
theorem q19 (x : tyL [(.sl G60), (.sl (.int .i64))]) : execF E19 C19 Try.f19 (datL [(.sl G60), (.sl (.int .i64))] x) [] (retK false .bool) = m19 x.1 x.2.1 := by kernel_rfl
theorem p19 : PmOk Try.prog e19 := pm_ok (E := E19) ok19 ord lm19 Try.func19 ca19 q19

/-! 36: consol/consolref32.first -/
theorem ca36 : callable Try.prog 36 := ⟨Try.f36, Try.func36, by kernel_rfl, by kernel_rfl⟩
noncomputable def E36 : Env := mkEnv2 Try.prog [] []
theorem ok36 : EnvOk E36 := mkEnv2_ok (by simp) (by simp)
/-- a round of a loop of consol/consolref32.first -/
noncomputable def s36_1 {R : Type} (t0 : (List Int)) (t1 : (List T25)) (t2 : Int) (kn : Int → Option R) (k1 : Option R) (k2 : Int → Option R) (t7 : Int) : Option R :=
  bif (decide (t7 < (List.length t1 : Int))) then
    (idx t1 t7).bind fun x1 =>
    (idxG ((x1.2.2.2.2.2.2.1 == (-1)) == true) (0, 0, 0, 0, 0, 0, 0, 0, ()) t1 t7).bind fun x2 =>
    (idxG (((x1.2.2.2.2.2.2.1 == (-1)) && (decide (x2.2.2.2.2.2.1 ≤ t2))) == true) (0, 0, 0, 0, 0, 0, 0, 0, ()) t1 t7).bind fun x3 =>
    (idxG (((x1.2.2.2.2.2.2.1 == (-1)) && (decide (x2.2.2.2.2.2.1 ≤ t2))) == true) 0 t0 x3.2.1).bind fun x4 =>
    (idxG (((x1.2.2.2.2.2.2.1 == (-1)) && (decide (x2.2.2.2.2.2.1 ≤ t2))) == true) (0, 0, 0, 0, 0, 0, 0, 0, ()) t1 t7).bind fun x5 =>
    bif (((x1.2.2.2.2.2.2.1 == (-1)) && (decide (x2.2.2.2.2.2.1 ≤ t2))) && (decide (x4 ≥ x5.2.2.2.1))) then
      k2 t7
    else
      kn (IntKind.i64.wrap (t7 + 1))
  else
    k1
noncomputable def l36_1 {R : Type} (t0 : (List Int)) (t1 : (List T25)) (t2 : Int) (k1 : Option R) (k2 : Int → Option R) : Nat → Int → Option R
  | 0, _ => none
  | n + 1, t7 => s36_1 t0 t1 t2 (l36_1 t0 t1 t2 k1 k2 n) k1 k2 t7
noncomputable def L36_1 : LE := ⟨3, 0, ⟨[(0, (.dat (.sl (.int .i64)))), (1, (.dat (.sl G25))), (2, (.dat (.int .i64))), (7, (.dat (.int .i64)))], []⟩, fun R n x k => l36_1 x.1.1 x.1.2.1 x.1.2.2.1 (k (.exit 0) ⟨[], []⟩) (fun y0 => k .ret ⟨[(6, (.dat (.int .i64) y0))], []⟩) n x.1.2.2.2.1⟩
noncomputable def C36 : Cfg := mkCfg [(3, ⟨[0, 1, 2, 7], []⟩)] [(3, (⟨[], []⟩, ⟨[6], []⟩))] (([(0, L36_1)] : List (Nat × LE)).map (·.2))
theorem ek36_1 : EOk E36 C36 Try.f36.ntmps (bodyL Try.f36 0) L36_1 := eok_of (e := L36_1) (fun R x Kn k => s36_1 x.1.1 x.1.2.1 x.1.2.2.1 (fun v0 => Kn ((x.1.1, x.1.2.1, x.1.2.2.1, v0, ()), (()))) (k (.exit 0) ⟨[], []⟩) (fun y0 => k .ret ⟨[(6, (.dat (.int .i64) y0))], []⟩) x.1.2.2.2.1) (fun _ _ _ => rfl) (fun _ _ _ _ => rfl) (fun R x Kn k => by kernel_rfl)
theorem lm36 : ∀ c, Try.f36.body = some c → LmOk E36 C36 Try.f36.ntmps c := lmOk_of (ps := [(0, L36_1)]) (by kernel_rfl) (by kernel_rfl) ⟨ek36_1, trivial⟩
noncomputable def m36 (a0 : (List Int)) (a1 : (List T25)) (a2 : Int) : Option (Int) :=
  l36_1 a0 a1 a2 (
      some (-1)) (fun y6 =>
      some y6) FUEL 0
noncomputable def e36 : PmE := entry 36 [(.sl (.int .i64)), (.sl G25), (.int .i64)] false (.int .i64) (fun x => m36 x.1 x.2.1 x.2.2.1)
theorem q36 (x : tyL [(.sl (.int .i64)), (.sl G25), (.int .i64)]) : execF E36 C36 Try.f36 (datL [(.sl (.int .i64)), (.sl G25), (.int .i64)] x) [] (retK false (.int .i64)) = m36 x.1 x.2.1 x.2.2.1 := by kernel_rfl
theorem p36 : PmOk Try.prog e36 := pm_ok (E := E36) ok36 ord lm36 Try.func36 ca36 q36

/-! 15: consol/consolref32.Settle -/
theorem ca15 : callable Try.prog 15 := ⟨Try.f15, Try.func15, by kernel_rfl, by kernel_rfl⟩
noncomputable def E15 : Env := mkEnv2 Try.prog [e16, e19, e35, e36] []
theorem ok15 : EnvOk E15 := mkEnv2_ok (by simp only [List.mem_cons, List.not_mem_nil, or_false, forall_eq_or_imp, forall_eq]; exact ⟨p16, p19, p35, p36⟩) (by simp)
/-- a round of a loop of consol/consolref32.Settle -/
noncomputable def s15_1 {R : Type} (t3 : Int) (kn : (List Int) → (List T25) → Option R) (k1 : (List Int) → (List T25) → Option R) (o0 : (List Int)) (o1 : (List T25)) : Option R :=
  (m36 o0 o1 t3).bind fun r4 =>
  bif (decide (r4 ≥ 0)) then
    (m36 o0 o1 t3).bind fun r5 =>
    asrt true (decide (0 ≤ r5) && decide (r5 < (List.length o1 : Int))) (
      ((o1)[(r5 : Int).toNat]?).bind fun x6 =>
      asrt true (decide (0 ≤ x6.2.1) && decide (x6.2.1 < (List.length o0 : Int))) (
        ((o0)[(x6.2.1 : Int).toNat]?).bind fun x7 =>
        asrt true (decide (0 ≤ x6.2.1) && decide (x6.2.1 < (List.length o0 : Int))) (
          ((o0)[(x6.2.1 : Int).toNat]?).bind fun x8 =>
          asrt true (decide (0 ≤ x6.2.2.1) && decide (x6.2.2.1 < (List.length (List.set o0 (x6.2.1 : Int).toNat (IntKind.i64.wrap (x7 - x6.2.2.2.1))) : Int))) (
            (((List.set o0 (x6.2.1 : Int).toNat (IntKind.i64.wrap (x7 - x6.2.2.2.1))))[(x6.2.2.1 : Int).toNat]?).bind fun x9 =>
            asrt true (decide (0 ≤ x6.2.2.1) && decide (x6.2.2.1 < (List.length (List.set o0 (x6.2.1 : Int).toNat (IntKind.i64.wrap (x7 - x6.2.2.2.1))) : Int))) (
              (((List.set o0 (x6.2.1 : Int).toNat (IntKind.i64.wrap (x7 - x6.2.2.2.1))))[(x6.2.2.1 : Int).toNat]?).bind fun x10 =>
              asrt true (decide (0 ≤ r5) && decide (r5 < (List.length o1 : Int))) (
                ((o1)[(r5 : Int).toNat]?).bind fun x11 =>
                bif (x6.1 == 1) then
                  asrt true (decide (List.length (α := T25) (List.set o1 (r5 : Int).toNat (x11.1, x11.2.1, x11.2.2.1, x11.2.2.2.1, x11.2.2.2.2.1, x11.2.2.2.2.2.1, t3, x11.2.2.2.2.2.2.2.1, ())) + List.length (α := T25) [(0, x6.2.2.1, x6.2.1, x6.2.2.2.1, t3, (bif decide (t3 > x6.2.2.2.2.2.2.2.1) then t3 else x6.2.2.2.2.2.2.2.1), (-1), 0, ())] ≤ LIM)) (
                    kn (List.set (List.set o0 (x6.2.1 : Int).toNat (IntKind.i64.wrap (x7 - x6.2.2.2.1))) (x6.2.2.1 : Int).toNat (IntKind.i64.wrap (x9 + x6.2.2.2.1))) ((List.set o1 (r5 : Int).toNat (x11.1, x11.2.1, x11.2.2.1, x11.2.2.2.1, x11.2.2.2.2.1, x11.2.2.2.2.2.1, t3, x11.2.2.2.2.2.2.2.1, ())) ++ [(0, x6.2.2.1, x6.2.1, x6.2.2.2.1, t3, (bif decide (t3 > x6.2.2.2.2.2.2.2.1) then t3 else x6.2.2.2.2.2.2.2.1), (-1), 0, ())]))
                else
                  kn (List.set (List.set o0 (x6.2.1 : Int).toNat (IntKind.i64.wrap (x7 - x6.2.2.2.1))) (x6.2.2.1 : Int).toNat (IntKind.i64.wrap (x9 + x6.2.2.2.1))) (List.set o1 (r5 : Int).toNat (x11.1, x11.2.1, x11.2.2.1, x11.2.2.2.1, x11.2.2.2.2.1, x11.2.2.2.2.2.1, t3, x11.2.2.2.2.2.2.2.1, ()))))))))
  else
    k1 o0 o1
noncomputable def l15_1 {R : Type} (t3 : Int) (k1 : (List Int) → (List T25) → Option R) : Nat → (List Int) → (List T25) → Option R
  | 0, _, _ => none
  | n + 1, o0, o1 => s15_1 t3 (l15_1 t3 k1 n) k1 o0 o1
noncomputable def L15_1 : LE := ⟨6, 0, ⟨[(3, (.dat (.int .i64))), (11, (.own 0)), (12, (.own 1))], [(.arr (.int .i64)), (.arr G25)]⟩, fun R n x k => l15_1 x.1.1 (fun y0 y1 => k (.exit 0) ⟨[(11, (.own 0)), (12, (.own 1))], [(.arr (.int .i64) y0), (.arr G25 y1)]⟩) n x.2.1 x.2.2.1⟩
noncomputable def C15 : Cfg := mkCfg [(6, ⟨[3, 11, 12], []⟩)] [(6, (⟨[11, 12], []⟩, ⟨[8, 9, 10], []⟩))] (([(0, L15_1)] : List (Nat × LE)).map (·.2))
theorem ek15_1 : EOk E15 C15 Try.f15.ntmps (bodyL Try.f15 0) L15_1 := eok_of (e := L15_1) (fun R x Kn k => s15_1 x.1.1 (fun v0 v1 => Kn ((x.1.1, (), (), ()), (v0, v1, ()))) (fun y0 y1 => k (.exit 0) ⟨[(11, (.own 0)), (12, (.own 1))], [(.arr (.int .i64) y0), (.arr G25 y1)]⟩) x.2.1 x.2.2.1) (fun _ _ _ => rfl) (fun _ _ _ _ => rfl) (fun R x Kn k => by kernel_rfl)
theorem lm15 : ∀ c, Try.f15.body = some c → LmOk E15 C15 Try.f15.ntmps c := lmOk_of (ps := [(0, L15_1)]) (by kernel_rfl) (by kernel_rfl) ⟨ek15_1, trivial⟩
noncomputable def m15 (a0 : (List T60)) (a1 : (List Int)) (a2 : (List T25)) (a3 : Int) : Option (((List Int) × ((List T25) × (Int × Unit)))) :=
  (m19 a0 a1).bind fun r1 =>
  (bif ((!r1) == false) then (m16 a0 a2) else some false).bind fun r2 =>
  (bif (((!r1) || (!r2)) == false) then (m35 a3) else some false).bind fun r3 =>
  bif (((!r1) || (!r2)) || (!r3)) then
    some ([], [], 1, ())
  else
    asrt true (decide (List.length (α := Int) a1 ≤ LIM)) (
      asrt true (decide (List.length (α := T25) a2 ≤ LIM)) (
        l15_1 a3 (fun y12 y13 =>
            bif (decide ((List.length y13 : Int) > 10000)) then
              some ([], [], 6, ())
            else
              some (y12, y13, 0, ())) FUEL a1 a2))
noncomputable def e15 : PmE := entry 15 [(.sl G60), (.sl (.int .i64)), (.sl G25), (.int .i64)] true (.cons (.sl (.int .i64)) (.cons (.sl G25) (.cons (.int .i64) .nil))) (fun x => m15 x.1 x.2.1 x.2.2.1 x.2.2.2.1)
theorem q15 (x : tyL [(.sl G60), (.sl (.int .i64)), (.sl G25), (.int .i64)]) : execF E15 C15 Try.f15 (datL [(.sl G60), (.sl (.int .i64)), (.sl G25), (.int .i64)] x) [] (retK true (.cons (.sl (.int .i64)) (.cons (.sl G25) (.cons (.int .i64) .nil)))) = m15 x.1 x.2.1 x.2.2.1 x.2.2.2.1 := by kernel_rfl
theorem p15 : PmOk Try.prog e15 := pm_ok (E := E15) ok15 ord lm15 Try.func15 ca15 q15

noncomputable def cK15 : CmE := konE 15 [(.sl G60), (.sl (.int .i64)), (.sl G25), (.int .i64)] true (.cons (.sl (.int .i64)) (.cons (.sl G25) (.cons (.int .i64) .nil))) (fun x => m15 x.1 x.2.1 x.2.2.1 x.2.2.2.1)
theorem dK15 : CmOk Try.prog cK15 := kon_ok p15

/-! 18: consol/consolref32.Open -/
theorem ca18 : callable Try.prog 18 := ⟨Try.f18, Try.func18, by kernel_rfl, by kernel_rfl⟩
noncomputable def E18 : Env := mkEnv2 Try.prog [] []
theorem ok18 : EnvOk E18 := mkEnv2_ok (by simp) (by simp)
/-- a round of a loop of consol/consolref32.Open -/
noncomputable def s18_1 {R : Type} (t0 : (List T25)) (t1 : Int) (kn : Int → (List Int) → Option R) (k1 : (List Int) → Option R) (t6 : Int) (o0 : (List Int)) : Option R :=
  bif (decide (t6 < (List.length t0 : Int))) then
    cont (fun (k3 : (List Int) → _) =>
      (idx t0 t6).bind fun x1 =>
      (idxG ((x1.2.2.2.2.2.2.1 == (-1)) == true) (0, 0, 0, 0, 0, 0, 0, 0, ()) t0 t6).bind fun x2 =>
      bif ((x1.2.2.2.2.2.2.1 == (-1)) && (decide (x2.2.2.2.2.2.1 ≤ t1))) then
        asrt true (decide (List.length (α := Int) o0 + List.length (α := Int) [t6] ≤ LIM)) (
          k3 (o0 ++ [t6]))
      else
        k3 o0) fun y3 =>
    kn (IntKind.i64.wrap (t6 + 1)) y3
  else
    k1 o0
noncomputable def l18_1 {R : Type} (t0 : (List T25)) (t1 : Int) (k1 : (List Int) → Option R) : Nat → Int → (List Int) → Option R
  | 0, _, _ => none
  | n + 1, t6, o0 => s18_1 t0 t1 (l18_1 t0 t1 k1 n) k1 t6 o0
noncomputable def L18_1 : LE := ⟨4, 0, ⟨[(0, (.dat (.sl G25))), (1, (.dat (.int .i64))), (5, (.own 0)), (6, (.dat (.int .i64)))], [(.arr (.int .i64))]⟩, fun R n x k => l18_1 x.1.1 x.1.2.1 (fun y0 => k (.exit 0) ⟨[(5, (.own 0))], [(.arr (.int .i64) y0)]⟩) n x.1.2.2.2.1 x.2.1⟩
noncomputable def C18 : Cfg := mkCfg [(4, ⟨[0, 1, 5, 6], [(5, [], (.int .i64))]⟩), (5, ⟨[0, 1, 5, 6], [(5, [], (.int .i64))]⟩)] [(4, (⟨[5], []⟩, ⟨[4], []⟩))] (([(0, L18_1)] : List (Nat × LE)).map (·.2))
theorem ek18_1 : EOk E18 C18 Try.f18.ntmps (bodyL Try.f18 0) L18_1 := eok_of (e := L18_1) (fun R x Kn k => s18_1 x.1.1 x.1.2.1 (fun v0 v1 => Kn ((x.1.1, x.1.2.1, (), v0, ()), (v1, ()))) (fun y0 => k (.exit 0) ⟨[(5, (.own 0))], [(.arr (.int .i64) y0)]⟩) x.1.2.2.2.1 x.2.1) (fun _ _ _ => rfl) (fun _ _ _ _ => rfl) (fun R x Kn k => by kernel_rfl)
theorem lm18 : ∀ c, Try.f18.body = some c → LmOk E18 C18 Try.f18.ntmps c := lmOk_of (ps := [(0, L18_1)]) (by kernel_rfl) (by kernel_rfl) ⟨ek18_1, trivial⟩
noncomputable def m18 (a0 : (List T25)) (a1 : Int) : Option ((List Int)) :=
  l18_1 a0 a1 (fun y4 =>
      some y4) FUEL 0 []
noncomputable def e18 : PmE := entry 18 [(.sl G25), (.int .i64)] false (.sl (.int .i64)) (fun x => m18 x.1 x.2.1)
theorem q18 (x : tyL [(.sl G25), (.int .i64)]) : execF E18 C18 Try.f18 (datL [(.sl G25), (.int .i64)] x) [] (retK false (.sl (.int .i64))) = m18 x.1 x.2.1 := by kernel_rfl
theorem p18 : PmOk Try.prog e18 := pm_ok (E := E18) ok18 ord lm18 Try.func18 ca18 q18

noncomputable def cK18 : CmE := konE 18 [(.sl G25), (.int .i64)] false (.sl (.int .i64)) (fun x => m18 x.1 x.2.1)
theorem dK18 : CmOk Try.prog cK18 := kon_ok p18

/-! 4: consol/consollaw32.TradeTells -/
theorem ca4 : callable Try.prog 4 := ⟨Try.f4, Try.func4, by kernel_rfl, by kernel_rfl⟩
noncomputable def E4 : Env := mkEnv2 Try.prog [e7, e8, e9, e10, e11, e12, e13, e14, e15, e16, e17, e18] []
theorem ok4 : EnvOk E4 := mkEnv2_ok (by simp only [List.mem_cons, List.not_mem_nil, or_false, forall_eq_or_imp, forall_eq]; exact ⟨p7, p8, p9, p10, p11, p12, p13, p14, p15, p16, p17, p18⟩) (by simp)
noncomputable def C4 : Cfg := noCfg
theorem lm4 : ∀ c, Try.f4.body = some c → LmOk E4 C4 Try.f4.ntmps c := fun _ _ => noCfg_lm
noncomputable def m4 (a0 : (List T60)) (a1 : (List Int)) (a2 : (List T25)) (a3 : T25) (a4 : Int) : Option (Bool) :=
  (m7).bind fun r1 =>
  (m8 a0 a1 a2).bind fun r2 =>
  bif (!r2) then
    some r1
  else
    (m13 a0 a2 a3).bind fun r3 =>
    (m14 a0 a2 a3).bind fun r4 =>
    (m9 a0 a1 a2 a4).bind fun r5 =>
    (m15 a0 a1 a2 a4).bind fun r6 =>
    (bif ((r3.2.1 == r4.2.1) == true) then (m12 r3.1 r4.1) else some false).bind fun r7 =>
    (bif ((((r3.2.1 == r4.2.1) && r7) && (r5.2.2.1 == r6.2.2.1)) == true) then (m11 r5.1 r6.1) else some false).bind fun r8 =>
    (bif (((((r3.2.1 == r4.2.1) && r7) && (r5.2.2.1 == r6.2.2.1)) && r8) == true) then (m12 r5.2.1 r6.2.1) else some false).bind fun r9 =>
    (bif ((r1 && (((((r3.2.1 == r4.2.1) && r7) && (r5.2.2.1 == r6.2.2.1)) && r8) && r9)) == true) then (m10 a0 a2) else some false).bind fun r10 =>
    (bif ((r1 && (((((r3.2.1 == r4.2.1) && r7) && (r5.2.2.1 == r6.2.2.1)) && r8) && r9)) == true) then (m16 a0 a2) else some false).bind fun r11 =>
    (bif (((r1 && (((((r3.2.1 == r4.2.1) && r7) && (r5.2.2.1 == r6.2.2.1)) && r8) && r9)) && (r10 == r11)) == true) then (m17 a2 a4) else some []).bind fun r12 =>
    (bif (((r1 && (((((r3.2.1 == r4.2.1) && r7) && (r5.2.2.1 == r6.2.2.1)) && r8) && r9)) && (r10 == r11)) == true) then (m18 a2 a4) else some []).bind fun r13 =>
    (bif (((r1 && (((((r3.2.1 == r4.2.1) && r7) && (r5.2.2.1 == r6.2.2.1)) && r8) && r9)) && (r10 == r11)) == true) then (m11 r12 r13) else some false).bind fun r14 =>
    some (((r1 && (((((r3.2.1 == r4.2.1) && r7) && (r5.2.2.1 == r6.2.2.1)) && r8) && r9)) && (r10 == r11)) && r14)
noncomputable def e4 : PmE := entry 4 [(.sl G60), (.sl (.int .i64)), (.sl G25), G25, (.int .i64)] false .bool (fun x => m4 x.1 x.2.1 x.2.2.1 x.2.2.2.1 x.2.2.2.2.1)
theorem q4 (x : tyL [(.sl G60), (.sl (.int .i64)), (.sl G25), G25, (.int .i64)]) : execF E4 C4 Try.f4 (datL [(.sl G60), (.sl (.int .i64)), (.sl G25), G25, (.int .i64)] x) [] (retK false .bool) = m4 x.1 x.2.1 x.2.2.1 x.2.2.2.1 x.2.2.2.2.1 := by kernel_rfl
theorem p4 : PmOk Try.prog e4 := pm_ok (E := E4) ok4 ord lm4 Try.func4 ca4 q4

/-! 20: consol/consolref30.Below -/
theorem ca20 : callable Try.prog 20 := ⟨Try.f20, Try.func20, by kernel_rfl, by kernel_rfl⟩
noncomputable def E20 : Env := mkEnv2 Try.prog [] []
theorem ok20 : EnvOk E20 := mkEnv2_ok (by simp) (by simp)
/-- a round of a loop of consol/consolref30.Below -/
noncomputable def s20_1 {R : Type} (t0 : (List T60)) (t2 : Int) (kn : Int → Option R) (k1 : Int → Option R) (t1 : Int) : Option R :=
  (idxG ((t1 != t2) == true) (0, 0, ()) t0 t1).bind fun x1 =>
  bif ((t1 != t2) && (decide (x1.1 ≥ 0))) then
    (idx t0 t1).bind fun x2 =>
    kn x2.1
  else
    k1 t1
noncomputable def l20_1 {R : Type} (t0 : (List T60)) (t2 : Int) (k1 : Int → Option R) : Nat → Int → Option R
  | 0, _ => none
  | n + 1, t1 => s20_1 t0 t2 (l20_1 t0 t2 k1 n) k1 t1
noncomputable def L20_1 : LE := ⟨2, 0, ⟨[(0, (.dat (.sl G60))), (1, (.dat (.int .i64))), (2, (.dat (.int .i64)))], []⟩, fun R n x k => l20_1 x.1.1 x.1.2.2.1 (fun y0 => k (.exit 0) ⟨[(1, (.dat (.int .i64) y0)), (2, (.dat (.int .i64) x.1.2.2.1))], []⟩) n x.1.2.1⟩
noncomputable def C20 : Cfg := mkCfg [(2, ⟨[0, 1, 2], []⟩)] [(2, (⟨[1, 2], []⟩, ⟨[6], []⟩))] (([(0, L20_1)] : List (Nat × LE)).map (·.2))
theorem ek20_1 : EOk E20 C20 Try.f20.ntmps (bodyL Try.f20 0) L20_1 := eok_of (e := L20_1) (fun R x Kn k => s20_1 x.1.1 x.1.2.2.1 (fun v0 => Kn ((x.1.1, v0, x.1.2.2.1, ()), (()))) (fun y0 => k (.exit 0) ⟨[(1, (.dat (.int .i64) y0)), (2, (.dat (.int .i64) x.1.2.2.1))], []⟩) x.1.2.1) (fun _ _ _ => rfl) (fun _ _ _ _ => rfl) (fun R x Kn k => by kernel_rfl)
theorem lm20 : ∀ c, Try.f20.body = some c → LmOk E20 C20 Try.f20.ntmps c := lmOk_of (ps := [(0, L20_1)]) (by kernel_rfl) (by kernel_rfl) ⟨ek20_1, trivial⟩
noncomputable def m20 (a0 : (List T60)) (a1 : Int) (a2 : Int) : Option (Bool) :=
  l20_1 a0 a2 (fun y3 =>
      some (y3 == a2)) FUEL a1
noncomputable def e20 : PmE := entry 20 [(.sl G60), (.int .i64), (.int .i64)] false .bool (fun x => m20 x.1 x.2.1 x.2.2.1)
theorem q20 (x : tyL [(.sl G60), (.int .i64), (.int .i64)]) : execF E20 C20 Try.f20 (datL [(.sl G60), (.int .i64), (.int .i64)] x) [] (retK false .bool) = m20 x.1 x.2.1 x.2.2.1 := by kernel_rfl
theorem p20 : PmOk Try.prog e20 := pm_ok (E := E20) ok20 ord lm20 Try.func20 ca20 q20

/-! 39: consol/book.valid -/
theorem ca39 : callable Try.prog 39 := ⟨Try.f39, Try.func39, by kernel_rfl, by kernel_rfl⟩
noncomputable def E39 : Env := mkEnv2 Try.prog [e29] []
theorem ok39 : EnvOk E39 := mkEnv2_ok (by simp only [List.mem_cons, List.not_mem_nil, or_false, forall_eq]; exact p29) (by simp)
/-- a round of a loop of consol/book.valid -/
noncomputable def s39_1 {R : Type} (t24 : (List T60)) (t25 : Int) (kn : Int → (List Bool) → Option R) (k1 : (List Bool) → Option R) (t26 : Int) (o0 : (List Bool)) : Option R :=
  bif (decide (t26 < t25)) then
    cont (fun (k4 : (List Bool) → _) =>
      (idx t24 t26).bind fun x2 =>
      bif (decide (x2.1 ≥ 0)) then
        asrt true (decide (0 ≤ x2.1) && decide (x2.1 < (List.length o0 : Int))) (
          ((o0)[(x2.1 : Int).toNat]?).bind fun x3 =>
          k4 (List.set o0 (x2.1 : Int).toNat true))
      else
        k4 o0) fun y4 =>
    kn (IntKind.i64.wrap (t26 + 1)) y4
  else
    k1 o0
noncomputable def l39_1 {R : Type} (t24 : (List T60)) (t25 : Int) (k1 : (List Bool) → Option R) : Nat → Int → (List Bool) → Option R
  | 0, _, _ => none
  | n + 1, t26, o0 => s39_1 t24 t25 (l39_1 t24 t25 k1 n) k1 t26 o0
noncomputable def L39_1 : LE := ⟨6, 0, ⟨[(1, (.dat (.sl (.int .i64)))), (5, (.own 0)), (24, (.dat (.sl G60))), (25, (.dat (.int .i64))), (26, (.dat (.int .i64)))], [(.arr .bool)]⟩, fun R n x k => l39_1 x.1.2.2.1 x.1.2.2.2.1 (fun y0 => k (.exit 0) ⟨[(1, (.dat (.sl (.int .i64)) x.1.1)), (5, (.own 0))], [(.arr .bool y0)]⟩) n x.1.2.2.2.2.1 x.2.1⟩
/-- a round of a loop of consol/book.valid -/
noncomputable def s39_2 {R : Type} (t38 : (List Int)) (t39 : Int) (o0 : (List Bool)) (kn : Int → Int → Option R) (k1 : Int → Option R) (k2 : Option R) (t8 : Int) (t40 : Int) : Option R :=
  bif (decide (t40 < t39)) then
    (idx t38 t40).bind fun x6 =>
    asrt ((((decide (x6 < 0)) || (decide (x6 > 1000000000))) == false) && ((decide (x6 > 0)) == true)) (decide (0 ≤ t40) && decide (t40 < (List.length o0 : Int))) (
      ((bif ((((decide (x6 < 0)) || (decide (x6 > 1000000000))) == false) && ((decide (x6 > 0)) == true)) then (o0)[(t40 : Int).toNat]? else some false)).bind fun x7 =>
      bif (((decide (x6 < 0)) || (decide (x6 > 1000000000))) || ((decide (x6 > 0)) && x7)) then
        k2
      else
        kn (IntKind.i64.wrap (t8 + x6)) (IntKind.i64.wrap (t40 + 1)))
  else
    k1 t8
noncomputable def l39_2 {R : Type} (t38 : (List Int)) (t39 : Int) (o0 : (List Bool)) (k1 : Int → Option R) (k2 : Option R) : Nat → Int → Int → Option R
  | 0, _, _ => none
  | n + 1, t8, t40 => s39_2 t38 t39 o0 (l39_2 t38 t39 o0 k1 k2 n) k1 k2 t8 t40
noncomputable def L39_2 : LE := ⟨13, 0, ⟨[(5, (.own 0)), (8, (.dat (.int .i64))), (38, (.dat (.sl (.int .i64)))), (39, (.dat (.int .i64))), (40, (.dat (.int .i64)))], [(.arr .bool)]⟩, fun R n x k => l39_2 x.1.2.2.1 x.1.2.2.2.1 x.2.1 (fun y0 => k (.exit 2) ⟨[(8, (.dat (.int .i64) y0))], []⟩) (k .ret ⟨[(4, (.dat .bool false))], []⟩) n x.1.2.1 x.1.2.2.2.2.1⟩
noncomputable def C39 : Cfg := mkCfg [(6, ⟨[1, 5, 24, 25, 26], []⟩), (10, ⟨[1, 5, 24, 25, 26], []⟩), (13, ⟨[5, 8, 38, 39, 40], []⟩)] [(6, (⟨[1, 5], []⟩, ⟨[4], []⟩)), (13, (⟨[8], []⟩, ⟨[4], []⟩))] (([(0, L39_1), (1, L39_2)] : List (Nat × LE)).map (·.2))
theorem ek39_1 : EOk E39 C39 Try.f39.ntmps (bodyL Try.f39 0) L39_1 := eok_of (e := L39_1) (fun R x Kn k => s39_1 x.1.2.2.1 x.1.2.2.2.1 (fun v0 v1 => Kn ((x.1.1, (), x.1.2.2.1, x.1.2.2.2.1, v0, ()), (v1, ()))) (fun y0 => k (.exit 0) ⟨[(1, (.dat (.sl (.int .i64)) x.1.1)), (5, (.own 0))], [(.arr .bool y0)]⟩) x.1.2.2.2.2.1 x.2.1) (fun _ _ _ => rfl) (fun _ _ _ _ => rfl) (fun R x Kn k => by kernel_rfl)
theorem ek39_2 : EOk E39 C39 Try.f39.ntmps (bodyL Try.f39 1) L39_2 := eok_of (e := L39_2) (fun R x Kn k => s39_2 x.1.2.2.1 x.1.2.2.2.1 x.2.1 (fun v0 v1 => Kn (((), v0, x.1.2.2.1, x.1.2.2.2.1, v1, ()), (x.2.1, ()))) (fun y0 => k (.exit 2) ⟨[(8, (.dat (.int .i64) y0))], []⟩) (k .ret ⟨[(4, (.dat .bool false))], []⟩) x.1.2.1 x.1.2.2.2.2.1) (fun _ _ _ => rfl) (fun _ _ _ _ => rfl) (fun R x Kn k => by kernel_rfl)
theorem lm39 : ∀ c, Try.f39.body = some c → LmOk E39 C39 Try.f39.ntmps c := lmOk_of (ps := [(0, L39_1), (1, L39_2)]) (by kernel_rfl) (by kernel_rfl) ⟨ek39_1, ek39_2, trivial⟩
noncomputable def m39 (a0 : (List T60)) (a1 : (List Int)) : Option (Bool) :=
  (m29 a0).bind fun r1 =>
  bif ((!r1) || ((List.length a1 : Int) != (List.length a0 : Int))) then
    some false
  else
    asrt true (decide (0 ≤ (List.length a0 : Int)) && decide ((List.length a0 : Int) ≤ (List.length a0 : Int)) && decide ((List.length a0 : Int) ≤ (LIM : Int))) (
      l39_1 a0 (List.length a0 : Int) (fun y5 =>
          l39_2 a1 (List.length a1 : Int) y5 (fun y8 =>
              some (decide (y8 ≤ 1000000000))) (
              some false) FUEL 0 0) FUEL 0 (List.replicate ((List.length a0 : Int) : Int).toNat false))
noncomputable def e39 : PmE := entry 39 [(.sl G60), (.sl (.int .i64))] false .bool (fun x => m39 x.1 x.2.1)
theorem q39 (x : tyL [(.sl G60), (.sl (.int .i64))]) : execF E39 C39 Try.f39 (datL [(.sl G60), (.sl (.int .i64))] x) [] (retK false .bool) = m39 x.1 x.2.1 := by kernel_rfl
theorem p39 : PmOk Try.prog e39 := pm_ok (E := E39) ok39 ord lm39 Try.func39 ca39 q39

/-! 21: consol/book.Held -/
theorem ca21 : callable Try.prog 21 := ⟨Try.f21, Try.func21, by kernel_rfl, by kernel_rfl⟩
noncomputable def E21 : Env := mkEnv2 Try.prog [e39] [c26]
theorem ok21 : EnvOk E21 := mkEnv2_ok (by simp only [List.mem_cons, List.not_mem_nil, or_false, forall_eq]; exact p39) (by simp only [List.mem_cons, List.not_mem_nil, or_false, forall_eq]; exact d26)
/-- a round of a loop of consol/book.Held -/
noncomputable def s21_1 {R : Type} (t0 : (List T60)) (t2 : Int) (kn : Int → (List Int) → Option R) (k1 : (List Int) → Option R) (t8 : Int) (o0 : (List Int)) : Option R :=
  bif (decide (t8 > t2)) then
    cont (fun (k7 : (List Int) → _) =>
      (idx t0 t8).bind fun x3 =>
      bif (decide (x3.1 ≥ 0)) then
        asrt true (decide (0 ≤ x3.1) && decide (x3.1 < (List.length o0 : Int))) (
          ((o0)[(x3.1 : Int).toNat]?).bind fun x4 =>
          asrt true (decide (0 ≤ t8) && decide (t8 < (List.length o0 : Int))) (
            ((o0)[(t8 : Int).toNat]?).bind fun x5 =>
            asrt true (decide (0 ≤ x3.1) && decide (x3.1 < (List.length o0 : Int))) (
              ((o0)[(x3.1 : Int).toNat]?).bind fun x6 =>
              k7 (List.set o0 (x3.1 : Int).toNat (IntKind.i64.wrap (x4 + x5))))))
      else
        k7 o0) fun y7 =>
    kn (IntKind.i64.wrap (t8 - 1)) y7
  else
    k1 o0
noncomputable def l21_1 {R : Type} (t0 : (List T60)) (t2 : Int) (k1 : (List Int) → Option R) : Nat → Int → (List Int) → Option R
  | 0, _, _ => none
  | n + 1, t8, o0 => s21_1 t0 t2 (l21_1 t0 t2 k1 n) k1 t8 o0
noncomputable def L21_1 : LE := ⟨6, 0, ⟨[(0, (.dat (.sl G60))), (2, (.dat (.int .i64))), (7, (.own 0)), (8, (.dat (.int .i64)))], [(.arr (.int .i64))]⟩, fun R n x k => l21_1 x.1.1 x.1.2.1 (fun y0 => k (.exit 0) ⟨[(2, (.dat (.int .i64) x.1.2.1)), (7, (.own 0))], [(.arr (.int .i64) y0)]⟩) n x.1.2.2.2.1 x.2.1⟩
noncomputable def C21 : Cfg := mkCfg [(6, ⟨[0, 2, 7, 8], []⟩), (7, ⟨[0, 2, 7, 8], []⟩)] [(6, (⟨[2, 7], []⟩, ⟨[6], []⟩))] (([(0, L21_1)] : List (Nat × LE)).map (·.2))
theorem ek21_1 : EOk E21 C21 Try.f21.ntmps (bodyL Try.f21 0) L21_1 := eok_of (e := L21_1) (fun R x Kn k => s21_1 x.1.1 x.1.2.1 (fun v0 v1 => Kn ((x.1.1, x.1.2.1, (), v0, ()), (v1, ()))) (fun y0 => k (.exit 0) ⟨[(2, (.dat (.int .i64) x.1.2.1)), (7, (.own 0))], [(.arr (.int .i64) y0)]⟩) x.1.2.2.2.1 x.2.1) (fun _ _ _ => rfl) (fun _ _ _ _ => rfl) (fun R x Kn k => by kernel_rfl)
theorem lm21 : ∀ c, Try.f21.body = some c → LmOk E21 C21 Try.f21.ntmps c := lmOk_of (ps := [(0, L21_1)]) (by kernel_rfl) (by kernel_rfl) ⟨ek21_1, trivial⟩
noncomputable def m21 (a0 : (List T60)) (a1 : (List Int)) (a2 : Int) : Option (Int) :=
  (m39 a0 a1).bind fun r1 =>
  bif (((!r1) || (decide (a2 < 0))) || (decide (a2 ≥ (List.length a0 : Int)))) then
    some 0
  else
    (cloneM a1).bind fun r2 =>
    l21_1 a0 a2 (fun y8 =>
        asrt true (decide (0 ≤ a2) && decide (a2 < (List.length y8 : Int))) (
          ((y8)[(a2 : Int).toNat]?).bind fun x9 =>
          some x9)) FUEL (IntKind.i64.wrap ((List.length a0 : Int) - 1)) r2
noncomputable def e21 : PmE := entry 21 [(.sl G60), (.sl (.int .i64)), (.int .i64)] false (.int .i64) (fun x => m21 x.1 x.2.1 x.2.2.1)
theorem q21 (x : tyL [(.sl G60), (.sl (.int .i64)), (.int .i64)]) : execF E21 C21 Try.f21 (datL [(.sl G60), (.sl (.int .i64)), (.int .i64)] x) [] (retK false (.int .i64)) = m21 x.1 x.2.1 x.2.2.1 := by kernel_rfl
theorem p21 : PmOk Try.prog e21 := pm_ok (E := E21) ok21 ord lm21 Try.func21 ca21 q21

/-! 6: consol/consollaw32.TradeMoves -/
theorem ca6 : callable Try.prog 6 := ⟨Try.f6, Try.func6, by kernel_rfl, by kernel_rfl⟩
noncomputable def E6 : Env := mkEnv2 Try.prog [e7, e8, e9, e10, e17, e19, e20, e21] []
theorem ok6 : EnvOk E6 := mkEnv2_ok (by simp only [List.mem_cons, List.not_mem_nil, or_false, forall_eq_or_imp, forall_eq]; exact ⟨p7, p8, p9, p10, p17, p19, p20, p21⟩) (by simp)
/-- a round of a loop of consol/consollaw32.TradeMoves -/
noncomputable def s6_1 {R : Type} (t0 : (List T60)) (t2 : (List T25)) (t3 : Int) (t11 : (List T25)) (t15 : Int) (kn : Int → Int → Option R) (k1 : Int → Option R) (t16 : Int) (t17 : Int) : Option R :=
  bif (decide (t17 < (List.length t11 : Int))) then
    cont (fun (k17 : Int → _) =>
      (idx t11 t17).bind fun x6 =>
      (idxG (((x6.2.2.2.2.2.2.1 != t3) == false) && ((decide (t17 < (List.length t2 : Int))) == true)) (0, 0, 0, 0, 0, 0, 0, 0, ()) t2 t17).bind fun x7 =>
      bif ((x6.2.2.2.2.2.2.1 != t3) || ((decide (t17 < (List.length t2 : Int))) && (x7.2.2.2.2.2.2.1 != (-1)))) then
        k17 t16
      else
        cont (fun (k12 : Int → _) =>
          (idx t11 t17).bind fun x8 =>
          (m20 t0 x8.2.2.1 t15).bind fun r9 =>
          (idxG (r9 == false) (0, 0, 0, 0, 0, 0, 0, 0, ()) t11 t17).bind fun x10 =>
          bif (r9 || (x10.2.2.1 == t15)) then
            (idx t11 t17).bind fun x11 =>
            k12 (IntKind.i64.wrap (t16 + x11.2.2.2.1))
          else
            k12 t16) fun y12 =>
        (idx t11 t17).bind fun x13 =>
        (m20 t0 x13.2.1 t15).bind fun r14 =>
        (idxG (r14 == false) (0, 0, 0, 0, 0, 0, 0, 0, ()) t11 t17).bind fun x15 =>
        bif (r14 || (x15.2.1 == t15)) then
          (idx t11 t17).bind fun x16 =>
          k17 (IntKind.i64.wrap (y12 - x16.2.2.2.1))
        else
          k17 y12) fun y17 =>
    kn y17 (IntKind.i64.wrap (t17 + 1))
  else
    k1 t16
noncomputable def l6_1 {R : Type} (t0 : (List T60)) (t2 : (List T25)) (t3 : Int) (t11 : (List T25)) (t15 : Int) (k1 : Int → Option R) : Nat → Int → Int → Option R
  | 0, _, _ => none
  | n + 1, t16, t17 => s6_1 t0 t2 t3 t11 t15 (l6_1 t0 t2 t3 t11 t15 k1 n) k1 t16 t17
noncomputable def L6_1 : LE := ⟨19, 0, ⟨[(0, (.dat (.sl G60))), (1, (.dat (.sl (.int .i64)))), (2, (.dat (.sl G25))), (3, (.dat (.int .i64))), (9, (.dat .bool)), (10, (.dat (.sl (.int .i64)))), (11, (.dat (.sl G25))), (13, (.dat (.int .i64))), (14, (.dat (.int .i64))), (15, (.dat (.int .i64))), (16, (.dat (.int .i64))), (17, (.dat (.int .i64)))], []⟩, fun R n x k => l6_1 x.1.1 x.1.2.2.1 x.1.2.2.2.1 x.1.2.2.2.2.2.2.1 x.1.2.2.2.2.2.2.2.2.2.1 (fun y0 => k (.exit 2) ⟨[(0, (.dat (.sl G60) x.1.1)), (1, (.dat (.sl (.int .i64)) x.1.2.1)), (2, (.dat (.sl G25) x.1.2.2.1)), (3, (.dat (.int .i64) x.1.2.2.2.1)), (9, (.dat .bool x.1.2.2.2.2.1)), (10, (.dat (.sl (.int .i64)) x.1.2.2.2.2.2.1)), (11, (.dat (.sl G25) x.1.2.2.2.2.2.2.1)), (13, (.dat (.int .i64) x.1.2.2.2.2.2.2.2.1)), (14, (.dat (.int .i64) x.1.2.2.2.2.2.2.2.2.1)), (15, (.dat (.int .i64) x.1.2.2.2.2.2.2.2.2.2.1)), (16, (.dat (.int .i64) y0))], []⟩) n x.1.2.2.2.2.2.2.2.2.2.2.1 x.1.2.2.2.2.2.2.2.2.2.2.2.1⟩
/-- a round of a loop of consol/consollaw32.TradeMoves -/
noncomputable def s6_2 {R : Type} (t0 : (List T60)) (t1 : (List Int)) (t2 : (List T25)) (t3 : Int) (t10 : (List Int)) (t11 : (List T25)) (kn : Int → Int → Int → Option R) (k1 : Int → Int → Option R) (k2 : Option R) (t13 : Int) (t14 : Int) (t15 : Int) : Option R :=
  bif (decide (t15 < (List.length t0 : Int))) then
    (idx t1 t15).bind fun x4 =>
    (idx t10 t15).bind fun x5 =>
    l6_1 t0 t2 t3 t11 t15 (fun y18 =>
        (m21 t0 t10 t15).bind fun r19 =>
        (m21 t0 t1 t15).bind fun r20 =>
        bif ((IntKind.i64.wrap (r19 - r20)) != y18) then
          k2
        else
          kn (IntKind.i64.wrap (t13 + x4)) (IntKind.i64.wrap (t14 + x5)) (IntKind.i64.wrap (t15 + 1))) FUEL 0 0
  else
    k1 t13 t14
noncomputable def l6_2 {R : Type} (t0 : (List T60)) (t1 : (List Int)) (t2 : (List T25)) (t3 : Int) (t10 : (List Int)) (t11 : (List T25)) (k1 : Int → Int → Option R) (k2 : Option R) : Nat → Int → Int → Int → Option R
  | 0, _, _, _ => none
  | n + 1, t13, t14, t15 => s6_2 t0 t1 t2 t3 t10 t11 (l6_2 t0 t1 t2 t3 t10 t11 k1 k2 n) k1 k2 t13 t14 t15
noncomputable def L6_2 : LE := ⟨13, 0, ⟨[(0, (.dat (.sl G60))), (1, (.dat (.sl (.int .i64)))), (2, (.dat (.sl G25))), (3, (.dat (.int .i64))), (9, (.dat .bool)), (10, (.dat (.sl (.int .i64)))), (11, (.dat (.sl G25))), (13, (.dat (.int .i64))), (14, (.dat (.int .i64))), (15, (.dat (.int .i64)))], []⟩, fun R n x k => l6_2 x.1.1 x.1.2.1 x.1.2.2.1 x.1.2.2.2.1 x.1.2.2.2.2.2.1 x.1.2.2.2.2.2.2.1 (fun y0 y1 => k (.exit 0) ⟨[(0, (.dat (.sl G60) x.1.1)), (3, (.dat (.int .i64) x.1.2.2.2.1)), (9, (.dat .bool x.1.2.2.2.2.1)), (10, (.dat (.sl (.int .i64)) x.1.2.2.2.2.2.1)), (11, (.dat (.sl G25) x.1.2.2.2.2.2.2.1)), (13, (.dat (.int .i64) y0)), (14, (.dat (.int .i64) y1))], []⟩) (k .ret ⟨[(8, (.dat .bool false))], []⟩) n x.1.2.2.2.2.2.2.2.1 x.1.2.2.2.2.2.2.2.2.1 x.1.2.2.2.2.2.2.2.2.2.1⟩
/-- a round of a loop of consol/consollaw32.TradeMoves -/
noncomputable def s6_3 {R : Type} (t3 : Int) (t10 : (List Int)) (t11 : (List T25)) (t18 : (List Int)) (kn : Int → Option R) (k1 : Option R) (k2 : Option R) (t19 : Int) : Option R :=
  bif (decide (t19 < (List.length t18 : Int))) then
    (idx t18 t19).bind fun x24 =>
    (idxG ((decide (x24 < 0)) == false) 0 t18 t19).bind fun x25 =>
    bif ((decide (x24 < 0)) || (decide (x25 ≥ (List.length t11 : Int)))) then
      k2
    else
      (idx t18 t19).bind fun x26 =>
      (idx t11 x26).bind fun x27 =>
      (idxG (((decide (x27.2.1 < 0)) || (decide (x27.2.1 ≥ (List.length t10 : Int)))) == false) 0 t10 x27.2.1).bind fun x28 =>
      bif (((((decide (x27.2.1 < 0)) || (decide (x27.2.1 ≥ (List.length t10 : Int)))) || (decide (x28 ≥ x27.2.2.2.1))) || (x27.2.2.2.2.2.2.1 != (-1))) || (decide (x27.2.2.2.2.2.1 > t3))) then
        k2
      else
        kn (IntKind.i64.wrap (t19 + 1))
  else
    k1
noncomputable def l6_3 {R : Type} (t3 : Int) (t10 : (List Int)) (t11 : (List T25)) (t18 : (List Int)) (k1 : Option R) (k2 : Option R) : Nat → Int → Option R
  | 0, _ => none
  | n + 1, t19 => s6_3 t3 t10 t11 t18 (l6_3 t3 t10 t11 t18 k1 k2 n) k1 k2 t19
noncomputable def L6_3 : LE := ⟨30, 0, ⟨[(0, (.dat (.sl G60))), (3, (.dat (.int .i64))), (9, (.dat .bool)), (10, (.dat (.sl (.int .i64)))), (11, (.dat (.sl G25))), (13, (.dat (.int .i64))), (14, (.dat (.int .i64))), (18, (.dat (.sl (.int .i64)))), (19, (.dat (.int .i64)))], []⟩, fun R n x k => l6_3 x.1.2.1 x.1.2.2.2.1 x.1.2.2.2.2.1 x.1.2.2.2.2.2.2.2.1 (k (.exit 4) ⟨[(0, (.dat (.sl G60) x.1.1)), (9, (.dat .bool x.1.2.2.1)), (10, (.dat (.sl (.int .i64)) x.1.2.2.2.1)), (11, (.dat (.sl G25) x.1.2.2.2.2.1)), (13, (.dat (.int .i64) x.1.2.2.2.2.2.1)), (14, (.dat (.int .i64) x.1.2.2.2.2.2.2.1))], []⟩) (k .ret ⟨[(8, (.dat .bool false))], []⟩) n x.1.2.2.2.2.2.2.2.2.1⟩
noncomputable def C6 : Cfg := mkCfg [(13, ⟨[0, 1, 2, 3, 9, 10, 11, 13, 14, 15], []⟩), (19, ⟨[0, 1, 2, 3, 9, 10, 11, 13, 14, 15, 16, 17], []⟩), (20, ⟨[0, 1, 2, 3, 9, 10, 11, 13, 14, 15, 16, 17], []⟩), (24, ⟨[0, 1, 2, 3, 9, 10, 11, 13, 14, 15, 16, 17], []⟩), (30, ⟨[0, 3, 9, 10, 11, 13, 14, 18, 19], []⟩)] [(13, (⟨[0, 3, 9, 10, 11, 13, 14], []⟩, ⟨[8], []⟩)), (19, (⟨[0, 1, 2, 3, 9, 10, 11, 13, 14, 15, 16], []⟩, ⟨[8], []⟩)), (30, (⟨[0, 9, 10, 11, 13, 14], []⟩, ⟨[8], []⟩))] (([(1, L6_1), (0, L6_2), (2, L6_3)] : List (Nat × LE)).map (·.2))
theorem ek6_1 : EOk E6 C6 Try.f6.ntmps (bodyL Try.f6 1) L6_1 := eok_of (e := L6_1) (fun R x Kn k => s6_1 x.1.1 x.1.2.2.1 x.1.2.2.2.1 x.1.2.2.2.2.2.2.1 x.1.2.2.2.2.2.2.2.2.2.1 (fun v0 v1 => Kn ((x.1.1, x.1.2.1, x.1.2.2.1, x.1.2.2.2.1, x.1.2.2.2.2.1, x.1.2.2.2.2.2.1, x.1.2.2.2.2.2.2.1, x.1.2.2.2.2.2.2.2.1, x.1.2.2.2.2.2.2.2.2.1, x.1.2.2.2.2.2.2.2.2.2.1, v0, v1, ()), (()))) (fun y0 => k (.exit 2) ⟨[(0, (.dat (.sl G60) x.1.1)), (1, (.dat (.sl (.int .i64)) x.1.2.1)), (2, (.dat (.sl G25) x.1.2.2.1)), (3, (.dat (.int .i64) x.1.2.2.2.1)), (9, (.dat .bool x.1.2.2.2.2.1)), (10, (.dat (.sl (.int .i64)) x.1.2.2.2.2.2.1)), (11, (.dat (.sl G25) x.1.2.2.2.2.2.2.1)), (13, (.dat (.int .i64) x.1.2.2.2.2.2.2.2.1)), (14, (.dat (.int .i64) x.1.2.2.2.2.2.2.2.2.1)), (15, (.dat (.int .i64) x.1.2.2.2.2.2.2.2.2.2.1)), (16, (.dat (.int .i64) y0))], []⟩) x.1.2.2.2.2.2.2.2.2.2.2.1 x.1.2.2.2.2.2.2.2.2.2.2.2.1) (fun _ _ _ => rfl) (fun _ _ _ _ => rfl) (fun R x Kn k => by kernel_rfl)
theorem ek6_2 : EOk E6 C6 Try.f6.ntmps (bodyL Try.f6 0) L6_2 := eok_of (e := L6_2) (fun R x Kn k => s6_2 x.1.1 x.1.2.1 x.1.2.2.1 x.1.2.2.2.1 x.1.2.2.2.2.2.1 x.1.2.2.2.2.2.2.1 (fun v0 v1 v2 => Kn ((x.1.1, x.1.2.1, x.1.2.2.1, x.1.2.2.2.1, x.1.2.2.2.2.1, x.1.2.2.2.2.2.1, x.1.2.2.2.2.2.2.1, v0, v1, v2, ()), (()))) (fun y0 y1 => k (.exit 0) ⟨[(0, (.dat (.sl G60) x.1.1)), (3, (.dat (.int .i64) x.1.2.2.2.1)), (9, (.dat .bool x.1.2.2.2.2.1)), (10, (.dat (.sl (.int .i64)) x.1.2.2.2.2.2.1)), (11, (.dat (.sl G25) x.1.2.2.2.2.2.2.1)), (13, (.dat (.int .i64) y0)), (14, (.dat (.int .i64) y1))], []⟩) (k .ret ⟨[(8, (.dat .bool false))], []⟩) x.1.2.2.2.2.2.2.2.1 x.1.2.2.2.2.2.2.2.2.1 x.1.2.2.2.2.2.2.2.2.2.1) (fun _ _ _ => rfl) (fun _ _ _ _ => rfl) (fun R x Kn k => by kernel_rfl)
theorem ek6_3 : EOk E6 C6 Try.f6.ntmps (bodyL Try.f6 2) L6_3 := eok_of (e := L6_3) (fun R x Kn k => s6_3 x.1.2.1 x.1.2.2.2.1 x.1.2.2.2.2.1 x.1.2.2.2.2.2.2.2.1 (fun v0 => Kn ((x.1.1, x.1.2.1, x.1.2.2.1, x.1.2.2.2.1, x.1.2.2.2.2.1, x.1.2.2.2.2.2.1, x.1.2.2.2.2.2.2.1, x.1.2.2.2.2.2.2.2.1, v0, ()), (()))) (k (.exit 4) ⟨[(0, (.dat (.sl G60) x.1.1)), (9, (.dat .bool x.1.2.2.1)), (10, (.dat (.sl (.int .i64)) x.1.2.2.2.1)), (11, (.dat (.sl G25) x.1.2.2.2.2.1)), (13, (.dat (.int .i64) x.1.2.2.2.2.2.1)), (14, (.dat (.int .i64) x.1.2.2.2.2.2.2.1))], []⟩) (k .ret ⟨[(8, (.dat .bool false))], []⟩) x.1.2.2.2.2.2.2.2.2.1) (fun _ _ _ => rfl) (fun _ _ _ _ => rfl) (fun R x Kn k => by kernel_rfl)
theorem lm6 : ∀ c, Try.f6.body = some c → LmOk E6 C6 Try.f6.ntmps c := lmOk_of (ps := [(1, L6_1), (0, L6_2), (2, L6_3)]) (by kernel_rfl) (by kernel_rfl) ⟨ek6_1, ek6_2, ek6_3, trivial⟩
noncomputable def m6 (a0 : (List T60)) (a1 : (List Int)) (a2 : (List T25)) (a3 : Int) : Option (Bool) :=
  (m7).bind fun r1 =>
  (m8 a0 a1 a2).bind fun r2 =>
  bif (!r2) then
    some r1
  else
    (m9 a0 a1 a2 a3).bind fun r3 =>
    bif (r3.2.2.1 != 0) then
      some ((r1 && ((List.length r3.1 : Int) == 0)) && ((List.length r3.2.1 : Int) == 0))
    else
      bif (((List.length r3.1 : Int) != (List.length a0 : Int)) || (decide ((List.length r3.2.1 : Int) < (List.length a2 : Int)))) then
        some false
      else
        l6_2 a0 a1 a2 a3 r3.1 r3.2.1 (fun y21 y22 =>
            (m17 r3.2.1 a3).bind fun r23 =>
            l6_3 a3 r3.1 r3.2.1 r23 (
                (bif ((r1 && (y21 == y22)) == true) then (m19 a0 r3.1) else some false).bind fun r29 =>
                (bif (((r1 && (y21 == y22)) && r29) == true) then (m10 a0 r3.2.1) else some false).bind fun r30 =>
                some (((r1 && (y21 == y22)) && r29) && r30)) (
                some false) FUEL 0) (
            some false) FUEL 0 0 0
noncomputable def e6 : PmE := entry 6 [(.sl G60), (.sl (.int .i64)), (.sl G25), (.int .i64)] false .bool (fun x => m6 x.1 x.2.1 x.2.2.1 x.2.2.2.1)
theorem q6 (x : tyL [(.sl G60), (.sl (.int .i64)), (.sl G25), (.int .i64)]) : execF E6 C6 Try.f6 (datL [(.sl G60), (.sl (.int .i64)), (.sl G25), (.int .i64)] x) [] (retK false .bool) = m6 x.1 x.2.1 x.2.2.1 x.2.2.2.1 := by kernel_rfl
theorem p6 : PmOk Try.prog e6 := pm_ok (E := E6) ok6 ord lm6 Try.func6 ca6 q6

/-! 5: consol/consollaw32.TradeLoans -/
theorem ca5 : callable Try.prog 5 := ⟨Try.f5, Try.func5, by kernel_rfl, by kernel_rfl⟩
noncomputable def E5 : Env := mkEnv2 Try.prog [e7, e8, e9, e11, e12, e13, e17, e19] []
theorem ok5 : EnvOk E5 := mkEnv2_ok (by simp only [List.mem_cons, List.not_mem_nil, or_false, forall_eq_or_imp, forall_eq]; exact ⟨p7, p8, p9, p11, p12, p13, p17, p19⟩) (by simp)
noncomputable def C5 : Cfg := mkCfg [(12, ⟨[0, 1, 5, 7, 8], []⟩)] [] (([] : List (Nat × LE)).map (·.2))
theorem lm5 : ∀ c, Try.f5.body = some c → LmOk E5 C5 Try.f5.ntmps c := lmOk_of (ps := []) (by kernel_rfl) (by kernel_rfl) trivial
noncomputable def m5 (a0 : (List T60)) (a1 : (List Int)) (a2 : T25) : Option (Bool) :=
  (m7).bind fun r1 =>
  (m8 a0 a1 []).bind fun r2 =>
  (bif ((!r2) == false) then (m19 a0 a1) else some false).bind fun r3 =>
  bif ((!r2) || (!r3)) then
    some r1
  else
    (m13 a0 [] a2).bind fun r4 =>
    (idxG (((r4.2.1 != 0) || (a2.1 != 1)) == false) 0 a1 a2.2.1).bind fun x5 =>
    bif (((r4.2.1 != 0) || (a2.1 != 1)) || (decide (x5 < a2.2.2.2.1))) then
      some (r1 && ((r4.2.1 == 0) || ((List.length r4.1 : Int) == 0)))
    else
      cont (fun (k10 : Unit → _) =>
        bif (decide (a2.2.2.2.2.2.1 > 0)) then
          (m9 a0 a1 r4.1 (IntKind.i64.wrap (a2.2.2.2.2.2.1 - 1))).bind fun r6 =>
          (bif ((r6.2.2.1 != 0) == false) then (m11 r6.1 a1) else some false).bind fun r7 =>
          (bif (((r6.2.2.1 != 0) || (!r7)) == false) then (m12 r6.2.1 r4.1) else some false).bind fun r8 =>
          (bif ((((r6.2.2.1 != 0) || (!r7)) || (!r8)) == false) then (m17 r4.1 (IntKind.i64.wrap (a2.2.2.2.2.2.1 - 1))) else some []).bind fun r9 =>
          bif ((((r6.2.2.1 != 0) || (!r7)) || (!r8)) || (decide ((List.length r9 : Int) > 0))) then
            some false
          else
            k10 ()
        else
          k10 ()) fun _ =>
      (m9 a0 a1 r4.1 a2.2.2.2.2.2.1).bind fun r11 =>
      (idxG (((r11.2.2.1 != 0) || ((List.length r11.1 : Int) != (List.length a1 : Int))) == false) 0 r11.1 a2.2.1).bind fun x12 =>
      (idxG (((r11.2.2.1 != 0) || ((List.length r11.1 : Int) != (List.length a1 : Int))) == false) 0 a1 a2.2.1).bind fun x13 =>
      (idxG ((((r11.2.2.1 != 0) || ((List.length r11.1 : Int) != (List.length a1 : Int))) || (x12 != (IntKind.i64.wrap (x13 - a2.2.2.2.1)))) == false) 0 r11.1 a2.2.2.1).bind fun x14 =>
      (idxG ((((r11.2.2.1 != 0) || ((List.length r11.1 : Int) != (List.length a1 : Int))) || (x12 != (IntKind.i64.wrap (x13 - a2.2.2.2.1)))) == false) 0 a1 a2.2.2.1).bind fun x15 =>
      bif ((((r11.2.2.1 != 0) || ((List.length r11.1 : Int) != (List.length a1 : Int))) || (x12 != (IntKind.i64.wrap (x13 - a2.2.2.2.1)))) || (x14 != (IntKind.i64.wrap (x15 + a2.2.2.2.1)))) then
        some false
      else
        (m9 a0 r11.1 r11.2.1 a2.2.2.2.2.2.2.2.1).bind fun r16 =>
        (bif ((r1 && (r16.2.2.1 == 0)) == true) then (m11 r16.1 a1) else some false).bind fun r17 =>
        (bif (((r1 && (r16.2.2.1 == 0)) && r17) == true) then (m17 r16.2.1 a2.2.2.2.2.2.2.2.1) else some []).bind fun r18 =>
        some (((r1 && (r16.2.2.1 == 0)) && r17) && ((List.length r18 : Int) == 0))
noncomputable def e5 : PmE := entry 5 [(.sl G60), (.sl (.int .i64)), G25] false .bool (fun x => m5 x.1 x.2.1 x.2.2.1)
theorem q5 (x : tyL [(.sl G60), (.sl (.int .i64)), G25]) : execF E5 C5 Try.f5 (datL [(.sl G60), (.sl (.int .i64)), G25] x) [] (retK false .bool) = m5 x.1 x.2.1 x.2.2.1 := by kernel_rfl
theorem p5 : PmOk Try.prog e5 := pm_ok (E := E5) ok5 ord lm5 Try.func5 ca5 q5

/-! 3: consol/consollaw32.TradeLater -/
theorem ca3 : callable Try.prog 3 := ⟨Try.f3, Try.func3, by kernel_rfl, by kernel_rfl⟩
noncomputable def E3 : Env := mkEnv2 Try.prog [e7, e8, e10, e11, e12] [cK9]
theorem ok3 : EnvOk E3 := mkEnv2_ok (by simp only [List.mem_cons, List.not_mem_nil, or_false, forall_eq_or_imp, forall_eq]; exact ⟨p7, p8, p10, p11, p12⟩) (by simp only [List.mem_cons, List.not_mem_nil, or_false, forall_eq]; exact dK9)
noncomputable def C3 : Cfg := noCfg
theorem lm3 : ∀ c, Try.f3.body = some c → LmOk E3 C3 Try.f3.ntmps c := fun _ _ => noCfg_lm
noncomputable def m3 (a0 : (List T60)) (a1 : (List Int)) (a2 : (List T25)) (a3 : Int) (a4 : T25) (a5 : Int) : Option (Bool) :=
  (m7).bind fun r1 =>
  (m8 a0 a1 a2).bind fun r2 =>
  bif ((!r2) || (decide ((List.length a2 : Int) > 11))) then
    some r1
  else
    (m9 a0 a1 a2 a3).bind fun r3 =>
    bif (((r3.2.2.1 != 0) || (decide (a4.2.2.2.2.2.1 ≤ a3))) == false) then
      (bif (((r3.2.2.1 != 0) || (decide (a4.2.2.2.2.2.1 ≤ a3))) == false) then (m10 a0 [a4]) else some false).bind fun r4 =>
      bif (((r3.2.2.1 != 0) || (decide (a4.2.2.2.2.2.1 ≤ a3))) || (!r4)) then
        some r1
      else
        asrt true ((IntKind.i64.wrap ((List.length a2 : Int) + 1)) != 0) (
          asrt true (bounds true (List.length a2) 0 (Int.tmod (IntKind.i64.wrap a5) (IntKind.i64.wrap ((List.length a2 : Int) + 1)))) (
            asrt true (decide (List.length (α := T25) (subl a2 0 (Int.tmod (IntKind.i64.wrap a5) (IntKind.i64.wrap ((List.length a2 : Int) + 1)))) ≤ LIM)) (
              asrt true (decide (List.length (α := T25) (subl a2 0 (Int.tmod (IntKind.i64.wrap a5) (IntKind.i64.wrap ((List.length a2 : Int) + 1)))) + List.length (α := T25) [a4] ≤ LIM)) (
                asrt true (bounds true (List.length a2) (Int.tmod (IntKind.i64.wrap a5) (IntKind.i64.wrap ((List.length a2 : Int) + 1))) (List.length a2 : Int)) (
                  asrt true (decide (List.length (α := T25) ((subl a2 0 (Int.tmod (IntKind.i64.wrap a5) (IntKind.i64.wrap ((List.length a2 : Int) + 1)))) ++ [a4]) + List.length (α := T25) (subl a2 (Int.tmod (IntKind.i64.wrap a5) (IntKind.i64.wrap ((List.length a2 : Int) + 1))) (List.length a2 : Int)) ≤ LIM)) (
                    (m9 a0 a1 (((subl a2 0 (Int.tmod (IntKind.i64.wrap a5) (IntKind.i64.wrap ((List.length a2 : Int) + 1)))) ++ [a4]) ++ (subl a2 (Int.tmod (IntKind.i64.wrap a5) (IntKind.i64.wrap ((List.length a2 : Int) + 1))) (List.length a2 : Int))) a3).bind fun r6 =>
                    bif ((r6.2.2.1 != 0) || ((List.length r6.2.1 : Int) != (IntKind.i64.wrap ((List.length r3.2.1 : Int) + 1)))) then
                      some false
                    else
                      asrt true (bounds true (List.length r6.2.1) 0 (Int.tmod (IntKind.i64.wrap a5) (IntKind.i64.wrap ((List.length a2 : Int) + 1)))) (
                        asrt true (decide (List.length (α := T25) (subl r6.2.1 0 (Int.tmod (IntKind.i64.wrap a5) (IntKind.i64.wrap ((List.length a2 : Int) + 1)))) ≤ LIM)) (
                          asrt true (bounds true (List.length r6.2.1) (IntKind.i64.wrap ((Int.tmod (IntKind.i64.wrap a5) (IntKind.i64.wrap ((List.length a2 : Int) + 1))) + 1)) (List.length r6.2.1 : Int)) (
                            asrt true (decide (List.length (α := T25) (subl r6.2.1 0 (Int.tmod (IntKind.i64.wrap a5) (IntKind.i64.wrap ((List.length a2 : Int) + 1)))) + List.length (α := T25) (subl r6.2.1 (IntKind.i64.wrap ((Int.tmod (IntKind.i64.wrap a5) (IntKind.i64.wrap ((List.length a2 : Int) + 1))) + 1)) (List.length r6.2.1 : Int)) ≤ LIM)) (
                              (bif (r1 == true) then (m11 r3.1 r6.1) else some false).bind fun r7 =>
                              (idxG ((r1 && r7) == true) (0, 0, 0, 0, 0, 0, 0, 0, ()) r6.2.1 (Int.tmod (IntKind.i64.wrap a5) (IntKind.i64.wrap ((List.length a2 : Int) + 1)))).bind fun x8 =>
                              (bif (((r1 && r7) && ((x8.1 == a4.1) && ((x8.2.1 == a4.2.1) && ((x8.2.2.1 == a4.2.2.1) && ((x8.2.2.2.1 == a4.2.2.2.1) && ((x8.2.2.2.2.1 == a4.2.2.2.2.1) && ((x8.2.2.2.2.2.1 == a4.2.2.2.2.2.1) && ((x8.2.2.2.2.2.2.1 == a4.2.2.2.2.2.2.1) && ((x8.2.2.2.2.2.2.2.1 == a4.2.2.2.2.2.2.2.1) && true))))))))) == true) then (m12 r3.2.1 ((subl r6.2.1 0 (Int.tmod (IntKind.i64.wrap a5) (IntKind.i64.wrap ((List.length a2 : Int) + 1)))) ++ (subl r6.2.1 (IntKind.i64.wrap ((Int.tmod (IntKind.i64.wrap a5) (IntKind.i64.wrap ((List.length a2 : Int) + 1))) + 1)) (List.length r6.2.1 : Int)))) else some false).bind fun r9 =>
                              some (((r1 && r7) && ((x8.1 == a4.1) && ((x8.2.1 == a4.2.1) && ((x8.2.2.1 == a4.2.2.1) && ((x8.2.2.2.1 == a4.2.2.2.1) && ((x8.2.2.2.2.1 == a4.2.2.2.2.1) && ((x8.2.2.2.2.2.1 == a4.2.2.2.2.2.1) && ((x8.2.2.2.2.2.2.1 == a4.2.2.2.2.2.2.1) && ((x8.2.2.2.2.2.2.2.1 == a4.2.2.2.2.2.2.2.1) && true))))))))) && r9)))))))))))
    else
      (bif (((r3.2.2.1 != 0) || (decide (a4.2.2.2.2.2.1 ≤ a3))) == false) then (m10 a0 []) else some false).bind fun r5 =>
      bif (((r3.2.2.1 != 0) || (decide (a4.2.2.2.2.2.1 ≤ a3))) || (!r5)) then
        some r1
      else
        asrt true ((IntKind.i64.wrap ((List.length a2 : Int) + 1)) != 0) (
          asrt true (bounds true (List.length a2) 0 (Int.tmod (IntKind.i64.wrap a5) (IntKind.i64.wrap ((List.length a2 : Int) + 1)))) (
            asrt true (decide (List.length (α := T25) (subl a2 0 (Int.tmod (IntKind.i64.wrap a5) (IntKind.i64.wrap ((List.length a2 : Int) + 1)))) ≤ LIM)) (
              asrt true (decide (List.length (α := T25) (subl a2 0 (Int.tmod (IntKind.i64.wrap a5) (IntKind.i64.wrap ((List.length a2 : Int) + 1)))) + List.length (α := T25) [a4] ≤ LIM)) (
                asrt true (bounds true (List.length a2) (Int.tmod (IntKind.i64.wrap a5) (IntKind.i64.wrap ((List.length a2 : Int) + 1))) (List.length a2 : Int)) (
                  asrt true (decide (List.length (α := T25) ((subl a2 0 (Int.tmod (IntKind.i64.wrap a5) (IntKind.i64.wrap ((List.length a2 : Int) + 1)))) ++ [a4]) + List.length (α := T25) (subl a2 (Int.tmod (IntKind.i64.wrap a5) (IntKind.i64.wrap ((List.length a2 : Int) + 1))) (List.length a2 : Int)) ≤ LIM)) (
                    (m9 a0 a1 (((subl a2 0 (Int.tmod (IntKind.i64.wrap a5) (IntKind.i64.wrap ((List.length a2 : Int) + 1)))) ++ [a4]) ++ (subl a2 (Int.tmod (IntKind.i64.wrap a5) (IntKind.i64.wrap ((List.length a2 : Int) + 1))) (List.length a2 : Int))) a3).bind fun r10 =>
                    bif ((r10.2.2.1 != 0) || ((List.length r10.2.1 : Int) != (IntKind.i64.wrap ((List.length r3.2.1 : Int) + 1)))) then
                      some false
                    else
                      asrt true (bounds true (List.length r10.2.1) 0 (Int.tmod (IntKind.i64.wrap a5) (IntKind.i64.wrap ((List.length a2 : Int) + 1)))) (
                        asrt true (decide (List.length (α := T25) (subl r10.2.1 0 (Int.tmod (IntKind.i64.wrap a5) (IntKind.i64.wrap ((List.length a2 : Int) + 1)))) ≤ LIM)) (
                          asrt true (bounds true (List.length r10.2.1) (IntKind.i64.wrap ((Int.tmod (IntKind.i64.wrap a5) (IntKind.i64.wrap ((List.length a2 : Int) + 1))) + 1)) (List.length r10.2.1 : Int)) (
                            asrt true (decide (List.length (α := T25) (subl r10.2.1 0 (Int.tmod (IntKind.i64.wrap a5) (IntKind.i64.wrap ((List.length a2 : Int) + 1)))) + List.length (α := T25) (subl r10.2.1 (IntKind.i64.wrap ((Int.tmod (IntKind.i64.wrap a5) (IntKind.i64.wrap ((List.length a2 : Int) + 1))) + 1)) (List.length r10.2.1 : Int)) ≤ LIM)) (
                              (bif (r1 == true) then (m11 r3.1 r10.1) else some false).bind fun r11 =>
                              (idxG ((r1 && r11) == true) (0, 0, 0, 0, 0, 0, 0, 0, ()) r10.2.1 (Int.tmod (IntKind.i64.wrap a5) (IntKind.i64.wrap ((List.length a2 : Int) + 1)))).bind fun x12 =>
                              (bif (((r1 && r11) && ((x12.1 == a4.1) && ((x12.2.1 == a4.2.1) && ((x12.2.2.1 == a4.2.2.1) && ((x12.2.2.2.1 == a4.2.2.2.1) && ((x12.2.2.2.2.1 == a4.2.2.2.2.1) && ((x12.2.2.2.2.2.1 == a4.2.2.2.2.2.1) && ((x12.2.2.2.2.2.2.1 == a4.2.2.2.2.2.2.1) && ((x12.2.2.2.2.2.2.2.1 == a4.2.2.2.2.2.2.2.1) && true))))))))) == true) then (m12 r3.2.1 ((subl r10.2.1 0 (Int.tmod (IntKind.i64.wrap a5) (IntKind.i64.wrap ((List.length a2 : Int) + 1)))) ++ (subl r10.2.1 (IntKind.i64.wrap ((Int.tmod (IntKind.i64.wrap a5) (IntKind.i64.wrap ((List.length a2 : Int) + 1))) + 1)) (List.length r10.2.1 : Int)))) else some false).bind fun r13 =>
                              some (((r1 && r11) && ((x12.1 == a4.1) && ((x12.2.1 == a4.2.1) && ((x12.2.2.1 == a4.2.2.1) && ((x12.2.2.2.1 == a4.2.2.2.1) && ((x12.2.2.2.2.1 == a4.2.2.2.2.1) && ((x12.2.2.2.2.2.1 == a4.2.2.2.2.2.1) && ((x12.2.2.2.2.2.2.1 == a4.2.2.2.2.2.2.1) && ((x12.2.2.2.2.2.2.2.1 == a4.2.2.2.2.2.2.2.1) && true))))))))) && r13)))))))))))
noncomputable def e3 : PmE := entry 3 [(.sl G60), (.sl (.int .i64)), (.sl G25), (.int .i64), G25, (.int .u8)] false .bool (fun x => m3 x.1 x.2.1 x.2.2.1 x.2.2.2.1 x.2.2.2.2.1 x.2.2.2.2.2.1)
theorem q3 (x : tyL [(.sl G60), (.sl (.int .i64)), (.sl G25), (.int .i64), G25, (.int .u8)]) : execF E3 C3 Try.f3 (datL [(.sl G60), (.sl (.int .i64)), (.sl G25), (.int .i64), G25, (.int .u8)] x) [] (retK false .bool) = m3 x.1 x.2.1 x.2.2.1 x.2.2.2.1 x.2.2.2.2.1 x.2.2.2.2.2.1 := by kernel_rfl
theorem p3 : PmOk Try.prog e3 := pm_ok (E := E3) ok3 ord lm3 Try.func3 ca3 q3

end Go.Proofs.Ytihcngohiffaeaa
