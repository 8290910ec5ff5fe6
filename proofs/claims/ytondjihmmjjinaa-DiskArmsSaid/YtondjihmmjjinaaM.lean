/- Models of the functions that the statements reach. -/
import Derived.Test.YtondjihmmjjinaaE42
import Derived.Test.YtondjihmmjjinaaE35
import Derived.Test.YtondjihmmjjinaaChecked
import Derived.KernelRfl
namespace Go.Proofs.Ytondjihmmjjinaa
open Go Go.Eng
set_option linter.unusedVariables false
set_option linter.unusedSimpArgs false

/-- x, y, signed, code -/
abbrev G7 : GT := .cons (.int .i64) (.cons (.int .i64) (.cons .bool (.cons (.int .u8) (.nil))))
abbrev T7 : Type := Int × Int × Bool × Int × Unit
/-- msg, addr -/
abbrev G13 : GT := .cons .str (.cons (.int .u64) (.nil))
abbrev T13 : Type := (List UInt8) × Int × Unit
/-- Do, F, N, S, Keep -/
abbrev G32 : GT := .cons (.int .i64) (.cons (.int .i64) (.cons (.int .i64) (.cons .str (.cons (.sl (.int .i64)) (.nil)))))
abbrev T32 : Type := Int × Int × Int × (List UInt8) × (List Int) × Unit
/-- Files, Queue, Lost, IsDown, Armed, Keep -/
abbrev G59 : GT := .cons (.sl (.cons (.int .i64) (.cons .str (.cons .str .nil)))) (.cons (.sl (.cons (.int .i64) (.cons (.int .i64) .nil))) (.cons (.int .i64) (.cons .bool (.cons (.int .i64) (.cons (.sl (.int .i64)) (.nil))))))
abbrev T59 : Type := (List (Int × ((List UInt8) × ((List UInt8) × Unit)))) × (List (Int × (Int × Unit))) × Int × Bool × Int × (List Int) × Unit
/-- now, last -/
abbrev G62 : GT := .cons .str (.cons .str (.nil))
abbrev T62 : Type := (List UInt8) × (List UInt8) × Unit
/-- Number, Now, Last -/
abbrev G64 : GT := .cons (.int .i64) (.cons .str (.cons .str (.nil)))
abbrev T64 : Type := Int × (List UInt8) × (List UInt8) × Unit
/-- file, number -/
abbrev G69 : GT := .cons (.int .i64) (.cons (.int .i64) (.nil))
abbrev T69 : Type := Int × Int × Unit

theorem ord : Try.prog.follows .mixedOrders = true := by kernel_rfl

/-! 10: consol/disk.New -/
theorem ca10 : callable Try.prog 10 := ⟨Try.f10, Try.func10, by kernel_rfl, by kernel_rfl⟩
abbrev F10i : ShS := ⟨[], []⟩
abbrev F10o : ShS := ⟨[(0, (.box 0 [] 0))], [(.box (.agg (.scons (.mp 1) (.scons (.own 2) (.scons (.mp 3) (.scons (.dat (.int .i64)) (.scons (.dat .bool) (.scons (.dat (.int .i64)) (.scons (.dat (.sl (.int .i64))) .snil))))))))), (.map (.int .i64) G62), (.arr G69), (.map G69 .bool)]⟩
noncomputable def E10 : Env := mkEnv2 Try.prog [] []
theorem ok10 : EnvOk (E10) := mkEnv2_ok (by simp) (by simp)
noncomputable def C10 : Cfg := noCfg
theorem lm10 : ∀ c, Try.f10.body = some c → LmOk (E10) (C10) Try.f10.ntmps c := fun _ _ => noCfg_lm
noncomputable def m10  : Option F10o.ty :=
  some (((), ()), (((), (), (), 0, false, 0, [], ()), [], [], [], ()))
theorem q10 (x : F10i.ty) : execF E10 C10 Try.f10 ((F10i.enc x).regs.map (·.2)) (F10i.enc x).heap (retS [(0, [6], (.sl (.int .i64)))] [(0, [1], G69)] 0 F10o) = m10  := by kernel_rfl
theorem R10 : CRun Try.prog 10 F10i F10o (fun x => m10 ) := st_run (E := E10) ok10 ord lm10 Try.func10 q10
noncomputable def c10 : CmE := stE 10 [] [] F10i F10o (fun x => m10 )
theorem d10 : CmOk Try.prog c10 := st_ok ca10 R10

/-! 47: consol/disk.put -/
theorem ca47 : callable Try.prog 47 := ⟨Try.f47, Try.func47, by kernel_rfl, by kernel_rfl⟩
noncomputable def E47 : Env := mkEnv2 Try.prog [] [] [22]
theorem ok47 : EnvOk (E47) := mkEnv2_ok (by simp) (by simp)
noncomputable def C47 : Cfg := noCfg
theorem lm47 : ∀ c, Try.f47.body = some c → LmOk (E47) (C47) Try.f47.ntmps c := fun _ _ => noCfg_lm
noncomputable def m47 (a0 : (List UInt8)) (a1 : Int) (a2 : (List UInt8)) : Option ((List UInt8)) :=
  bif (a2 == ([] : List UInt8)) then
    some a0
  else
    asrt true (decide (0 ≤ (bif decide ((IntKind.i64.wrap (a1 + (List.length a2 : Int))) > (List.length a0 : Int)) then (IntKind.i64.wrap (a1 + (List.length a2 : Int))) else (List.length a0 : Int))) && decide ((bif decide ((IntKind.i64.wrap (a1 + (List.length a2 : Int))) > (List.length a0 : Int)) then (IntKind.i64.wrap (a1 + (List.length a2 : Int))) else (List.length a0 : Int)) ≤ (bif decide ((IntKind.i64.wrap (a1 + (List.length a2 : Int))) > (List.length a0 : Int)) then (IntKind.i64.wrap (a1 + (List.length a2 : Int))) else (List.length a0 : Int))) && decide ((bif decide ((IntKind.i64.wrap (a1 + (List.length a2 : Int))) > (List.length a0 : Int)) then (IntKind.i64.wrap (a1 + (List.length a2 : Int))) else (List.length a0 : Int)) ≤ (LIM : Int))) (
      asrt true (bounds true (List.length (α := Int) (patch (α := Int) (List.replicate ((bif decide ((IntKind.i64.wrap (a1 + (List.length a2 : Int))) > (List.length a0 : Int)) then (IntKind.i64.wrap (a1 + (List.length a2 : Int))) else (List.length a0 : Int)) : Int).toNat 0) 0 (List.length (α := Int) (List.replicate ((bif decide ((IntKind.i64.wrap (a1 + (List.length a2 : Int))) > (List.length a0 : Int)) then (IntKind.i64.wrap (a1 + (List.length a2 : Int))) else (List.length a0 : Int)) : Int).toNat 0)) (List.map (fun c => (UInt8.toNat c : Int)) a0))) a1 ((List.length (α := Int) (patch (α := Int) (List.replicate ((bif decide ((IntKind.i64.wrap (a1 + (List.length a2 : Int))) > (List.length a0 : Int)) then (IntKind.i64.wrap (a1 + (List.length a2 : Int))) else (List.length a0 : Int)) : Int).toNat 0) 0 (List.length (α := Int) (List.replicate ((bif decide ((IntKind.i64.wrap (a1 + (List.length a2 : Int))) > (List.length a0 : Int)) then (IntKind.i64.wrap (a1 + (List.length a2 : Int))) else (List.length a0 : Int)) : Int).toNat 0)) (List.map (fun c => (UInt8.toNat c : Int)) a0))) : Int)) (
        asrt true (decide ((Int.toNat a1) + ((List.length (α := Int) (patch (α := Int) (List.replicate ((bif decide ((IntKind.i64.wrap (a1 + (List.length a2 : Int))) > (List.length a0 : Int)) then (IntKind.i64.wrap (a1 + (List.length a2 : Int))) else (List.length a0 : Int)) : Int).toNat 0) 0 (List.length (α := Int) (List.replicate ((bif decide ((IntKind.i64.wrap (a1 + (List.length a2 : Int))) > (List.length a0 : Int)) then (IntKind.i64.wrap (a1 + (List.length a2 : Int))) else (List.length a0 : Int)) : Int).toNat 0)) (List.map (fun c => (UInt8.toNat c : Int)) a0))) - (Int.toNat a1)) ≤ (List.length (α := Int) (patch (α := Int) (List.replicate ((bif decide ((IntKind.i64.wrap (a1 + (List.length a2 : Int))) > (List.length a0 : Int)) then (IntKind.i64.wrap (a1 + (List.length a2 : Int))) else (List.length a0 : Int)) : Int).toNat 0) 0 (List.length (α := Int) (List.replicate ((bif decide ((IntKind.i64.wrap (a1 + (List.length a2 : Int))) > (List.length a0 : Int)) then (IntKind.i64.wrap (a1 + (List.length a2 : Int))) else (List.length a0 : Int)) : Int).toNat 0)) (List.map (fun c => (UInt8.toNat c : Int)) a0))))) (
          some (List.map (fun n => UInt8.ofNat (Int.toNat n)) (patch (α := Int) (patch (α := Int) (List.replicate ((bif decide ((IntKind.i64.wrap (a1 + (List.length a2 : Int))) > (List.length a0 : Int)) then (IntKind.i64.wrap (a1 + (List.length a2 : Int))) else (List.length a0 : Int)) : Int).toNat 0) 0 (List.length (α := Int) (List.replicate ((bif decide ((IntKind.i64.wrap (a1 + (List.length a2 : Int))) > (List.length a0 : Int)) then (IntKind.i64.wrap (a1 + (List.length a2 : Int))) else (List.length a0 : Int)) : Int).toNat 0)) (List.map (fun c => (UInt8.toNat c : Int)) a0)) (Int.toNat a1) ((List.length (α := Int) (patch (α := Int) (List.replicate ((bif decide ((IntKind.i64.wrap (a1 + (List.length a2 : Int))) > (List.length a0 : Int)) then (IntKind.i64.wrap (a1 + (List.length a2 : Int))) else (List.length a0 : Int)) : Int).toNat 0) 0 (List.length (α := Int) (List.replicate ((bif decide ((IntKind.i64.wrap (a1 + (List.length a2 : Int))) > (List.length a0 : Int)) then (IntKind.i64.wrap (a1 + (List.length a2 : Int))) else (List.length a0 : Int)) : Int).toNat 0)) (List.map (fun c => (UInt8.toNat c : Int)) a0))) - (Int.toNat a1)) (List.map (fun c => (UInt8.toNat c : Int)) a2))))))
noncomputable def e47 : PmE := entry 47 [.str, (.int .i64), .str] false .str (fun x => m47 x.1 x.2.1 x.2.2.1)
theorem q47 (x : tyL [.str, (.int .i64), .str]) : execF E47 C47 Try.f47 (datL [.str, (.int .i64), .str] x) [] (retK false .str) = m47 x.1 x.2.1 x.2.2.1 := by kernel_rfl
theorem p47 : PmOk Try.prog e47 := pm_ok (E := E47) ok47 ord lm47 Try.func47 ca47 q47

/-! 49: (*consol/disk.Disk).write -/
theorem ca49 : callable Try.prog 49 := ⟨Try.f49, Try.func49, by kernel_rfl, by kernel_rfl⟩
abbrev F49i : ShS := ⟨[(0, (.box 0 [] 0)), (1, (.dat (.int .i64))), (2, (.dat (.int .i64))), (3, (.dat .str))], [(.box (.agg (.scons (.mp 1) (.scons (.own 2) (.scons (.mp 3) (.scons (.dat (.int .i64)) (.scons (.dat .bool) (.scons (.dat (.int .i64)) (.scons (.dat (.sl (.int .i64))) .snil))))))))), (.map (.int .i64) G62), (.arr G69), (.map G69 .bool)]⟩
abbrev F49o : ShS := ⟨[(0, (.dat (.int .i64)))], [(.box (.agg (.scons (.mp 1) (.scons (.own 4) (.scons (.mp 5) (.scons (.dat (.int .i64)) (.scons (.dat .bool) (.scons (.dat (.int .i64)) (.scons (.dat (.sl (.int .i64))) .snil))))))))), (.map (.int .i64) G62), .dead, .dead, (.arr G69), (.map G69 .bool)]⟩
theorem ca44 : callable Try.prog 44 := ⟨Try.f44, Try.func44, by kernel_rfl, by kernel_rfl⟩
noncomputable def E49i44 : Env := mkEnv2 Try.prog [] []
theorem ok49i44 : EnvOk (E49i44) := mkEnv2_ok (by simp) (by simp)
noncomputable def C49i44 : Cfg := noCfg
theorem lm49i44 : ∀ c, Try.f44.body = some c → LmOk (E49i44) (C49i44) Try.f44.ntmps c := fun _ _ => noCfg_lm
noncomputable def c49i44 : CmE := inl E49i44 C49i44 44 Try.f44
theorem d49i44 : CmOk Try.prog c49i44 := inl_ok (E := E49i44) ok49i44 ord lm49i44 Try.func44 ca44

noncomputable def E49 : Env := mkEnv2 Try.prog [e47] [c49i44]
theorem ok49 : EnvOk (E49) := mkEnv2_ok (by simp only [List.mem_cons, List.not_mem_nil, or_false, forall_eq]; exact p47) (by simp only [List.mem_cons, List.not_mem_nil, or_false, forall_eq]; exact d49i44)
/-- a round of a loop of (*consol/disk.Disk).write -/
noncomputable def s49_1 {R : Type} (t1 : Int) (t2 : Int) (t3 : (List UInt8)) (kn : Int → (List (T69 × Bool)) → (List T69) → Option R) (k1 : (List (T69 × Bool)) → (List T69) → Option R) (t11 : Int) (o3 : (List (T69 × Bool))) (o4 : (List T69)) : Option R :=
  bif (decide (t11 ≤ (IntKind.i64.wrap (Int.tdiv (IntKind.i64.wrap ((IntKind.i64.wrap (t2 + (List.length t3 : Int))) - 1)) 64)))) then
    cont (fun (k2 : ((List (T69 × Bool)) × (List T69)) → _) =>
      bif (!(Option.getD (mapAt G69 .bool (t1, t11, ()) o3) false)) then
        asrt true (decide (List.length (α := T69) o4 + List.length (α := T69) [(t1, t11, ())] ≤ LIM)) (
          k2 ((putM G69 .bool (t1, t11, ()) true (putM G69 .bool (t1, t11, ()) (Option.getD (mapAt G69 .bool (t1, t11, ()) o3) false) o3)), (o4 ++ [(t1, t11, ())])))
      else
        k2 (o3, o4)) fun y2 =>
    kn (IntKind.i64.wrap (t11 + 1)) y2.1 y2.2
  else
    k1 o3 o4
noncomputable def l49_1 {R : Type} (t1 : Int) (t2 : Int) (t3 : (List UInt8)) (k1 : (List (T69 × Bool)) → (List T69) → Option R) : Nat → Int → (List (T69 × Bool)) → (List T69) → Option R
  | 0, _, _, _ => none
  | n + 1, t11, o3, o4 => s49_1 t1 t2 t3 (l49_1 t1 t2 t3 k1 n) k1 t11 o3 o4
noncomputable def L49_1 : LE := ⟨15, 4, ⟨[(0, (.box 0 [] 0)), (1, (.dat (.int .i64))), (2, (.dat (.int .i64))), (3, (.dat .str)), (11, (.dat (.int .i64)))], [(.box (.agg (.scons (.mp 1) (.scons (.own 4) (.scons (.mp 3) (.scons (.dat (.int .i64)) (.scons (.dat .bool) (.scons (.dat (.int .i64)) (.scons (.dat (.sl (.int .i64))) .snil))))))))), (.map (.int .i64) G62), .dead, (.map G69 .bool), (.arr G69)]⟩, fun R n x k => l49_1 x.1.2.1 x.1.2.2.1 x.1.2.2.2.1 (fun y0 y1 => k (.exit 1) ⟨[], [(.box (.agg (.scons (.mp 1) (.scons (.own 4) (.scons (.mp 3) (.scons (.dat (.int .i64) x.2.1.2.2.2.1) (.scons (.dat .bool x.2.1.2.2.2.2.1) (.scons (.dat (.int .i64) x.2.1.2.2.2.2.2.1) (.scons (.dat (.sl (.int .i64)) x.2.1.2.2.2.2.2.2.1) .snil))))))))), (.map (.int .i64) G62 x.2.2.1), .dead, (.map G69 .bool y0), (.arr G69 y1)]⟩) n x.1.2.2.2.2.1 x.2.2.2.2.1 x.2.2.2.2.2.1⟩
noncomputable def C49 : Cfg := mkCfg [(15, ⟨[0, 1, 2, 3, 11], [], [(0, [1], (.cons .nil .opq))]⟩), (16, ⟨[0, 1, 2, 3, 11], [], [(0, [1], (.cons .nil .opq))]⟩)] [(15, (⟨[], [], []⟩, ⟨[8], [], []⟩))] (([(0, L49_1)] : List (Nat × LE)).map (·.2))
theorem ek49_1 : EOk (E49) (C49) Try.f49.ntmps (bodyL Try.f49 0) (L49_1) := eok_of (e := L49_1) (fun R x Kn k => s49_1 x.1.2.1 x.1.2.2.1 x.1.2.2.2.1 (fun v0 v1 v2 => Kn (((), x.1.2.1, x.1.2.2.1, x.1.2.2.2.1, v0, ()), (((), (), (), x.2.1.2.2.2.1, x.2.1.2.2.2.2.1, x.2.1.2.2.2.2.2.1, x.2.1.2.2.2.2.2.2.1, ()), x.2.2.1, (), v1, v2, ()))) (fun y0 y1 => k (.exit 1) ⟨[], [(.box (.agg (.scons (.mp 1) (.scons (.own 4) (.scons (.mp 3) (.scons (.dat (.int .i64) x.2.1.2.2.2.1) (.scons (.dat .bool x.2.1.2.2.2.2.1) (.scons (.dat (.int .i64) x.2.1.2.2.2.2.2.1) (.scons (.dat (.sl (.int .i64)) x.2.1.2.2.2.2.2.2.1) .snil))))))))), (.map (.int .i64) G62 x.2.2.1), .dead, (.map G69 .bool y0), (.arr G69 y1)]⟩) x.1.2.2.2.2.1 x.2.2.2.2.1 x.2.2.2.2.2.1) (fun _ _ _ => rfl) (fun _ _ _ _ => rfl) (fun R x Kn k => by kernel_rfl)
theorem lm49 : ∀ c, Try.f49.body = some c → LmOk (E49) (C49) Try.f49.ntmps c := lmOk_of (ps := [(0, L49_1)]) (by kernel_rfl) (by kernel_rfl) ⟨ek49_1, trivial⟩
noncomputable def m49 (a0 : Int) (a1 : Int) (a2 : (List UInt8)) (a3 : Int) (a4 : Bool) (a5 : Int) (a6 : (List Int)) (a7 : (List (Int × T62))) (a8 : (List T69)) (a9 : (List (T69 × Bool))) : Option F49o.ty :=
  bif a4 then
    some ((8, ()), (((), (), (), a3, a4, a5, a6, ()), a7, (), (), a8, a9, ()))
  else
    bif ((decide (a0 < 0)) || (decide (a0 ≥ 16))) then
      some ((1, ()), (((), (), (), a3, a4, a5, a6, ()), a7, (), (), a8, a9, ()))
    else
      bif (decide (a1 < 0)) then
        some ((1, ()), (((), (), (), a3, a4, a5, a6, ()), a7, (), (), a8, a9, ()))
      else
        bif ((decide (a1 > 16777216)) || (decide ((List.length a2 : Int) > (IntKind.i64.wrap (16777216 - a1))))) then
          some ((6, ()), (((), (), (), a3, a4, a5, a6, ()), a7, (), (), a8, a9, ()))
        else
          bif (a2 == ([] : List UInt8)) then
            some ((0, ()), (((), (), (), a3, a4, a5, a6, ()), a7, (), (), a8, a9, ()))
          else
            (m47 (Option.getD (mapAt (.int .i64) G62 a0 a7) (([] : (List UInt8)), ([] : (List UInt8)), ())).1 a1 a2).bind fun r1 =>
            l49_1 a0 a1 a2 (fun y3 y4 =>
                some ((0, ()), (((), (), (), a3, a4, a5, a6, ()), (putM (.int .i64) G62 a0 (r1, (Option.getD (mapAt (.int .i64) G62 a0 a7) (([] : (List UInt8)), ([] : (List UInt8)), ())).2.1, ()) a7), (), (), y4, y3, ()))) FUEL (IntKind.i64.wrap (Int.tdiv a1 64)) a9 a8
theorem q49 (x : F49i.ty) : execF E49 C49 Try.f49 ((F49i.enc x).regs.map (·.2)) (F49i.enc x).heap (retB [(1, [6], (.sl (.int .i64))), (1, [1], (.cons .nil .opq)), (1, [2], (.cons .nil .opq)), (1, [2], (.cons .bool .opq)), (1, [3], (.cons .bool .opq))] [(1, [1], G69)] 4 F49o) = m49 x.1.2.1 x.1.2.2.1 x.1.2.2.2.1 x.2.1.2.2.2.1 x.2.1.2.2.2.2.1 x.2.1.2.2.2.2.2.1 x.2.1.2.2.2.2.2.2.1 x.2.2.1 x.2.2.2.1 x.2.2.2.2.1 := by kernel_rfl
theorem R49 : CRun Try.prog 49 F49i F49o (fun x => m49 x.1.2.1 x.1.2.2.1 x.1.2.2.2.1 x.2.1.2.2.2.1 x.2.1.2.2.2.2.1 x.2.1.2.2.2.2.2.1 x.2.1.2.2.2.2.2.2.1 x.2.2.1 x.2.2.2.1 x.2.2.2.2.1) := st_runB (E := E49) ok49 ord lm49 Try.func49 rfl q49
noncomputable def c49 : CmE := stE 49 [(0, [6], (.sl (.int .i64)))] [(0, [1], G69)] F49i F49o (fun x => m49 x.1.2.1 x.1.2.2.1 x.1.2.2.2.1 x.2.1.2.2.2.1 x.2.1.2.2.2.2.1 x.2.1.2.2.2.2.2.1 x.2.1.2.2.2.2.2.2.1 x.2.2.1 x.2.2.2.1 x.2.2.2.2.1)
theorem d49 : CmOk Try.prog c49 := st_ok ca49 R49

/-! 25: (*consol/disk.Disk).Crash -/
theorem ca25 : callable Try.prog 25 := ⟨Try.f25, Try.func25, by kernel_rfl, by kernel_rfl⟩
abbrev F25i : ShS := ⟨[(0, (.box 0 [] 0)), (1, (.dat (.sl (.int .i64))))], [(.box (.agg (.scons (.mp 1) (.scons (.own 2) (.scons (.mp 3) (.scons (.dat (.int .i64)) (.scons (.dat .bool) (.scons (.dat (.int .i64)) (.scons (.dat (.sl (.int .i64))) .snil))))))))), (.map (.int .i64) G62), (.arr G69), (.map G69 .bool)]⟩
abbrev F25o : ShS := ⟨[(0, (.tup .snil))], [(.box (.agg (.scons (.mp 1) (.scons (.own 4) (.scons (.mp 5) (.scons (.dat (.int .i64)) (.scons (.dat .bool) (.scons (.dat (.int .i64)) (.scons (.dat (.sl (.int .i64))) .snil))))))))), (.map (.int .i64) G62), .dead, .dead, (.arr G69), (.map G69 .bool)]⟩
noncomputable def E25 : Env := mkEnv2 Try.prog [e47] [] [65]
theorem ok25 : EnvOk (E25) := mkEnv2_ok (by simp only [List.mem_cons, List.not_mem_nil, or_false, forall_eq]; exact p47) (by simp)
/-- a round of a loop of (*consol/disk.Disk).Crash -/
noncomputable def s25_1 {R : Type} (t1 : (List Int)) (t24 : Int) (o2 : (List T69)) (kn : Int → (List (Int × T62)) → Option R) (k1 : (List (Int × T62)) → Option R) (t25 : Int) (o1 : (List (Int × T62))) : Option R :=
  bif (decide (t25 < t24)) then
    cont (fun (k8 : (List (Int × T62)) → _) =>
      asrt true (decide (0 ≤ t25) && decide (t25 < (List.length o2 : Int))) (
        ((o2)[(t25 : Int).toNat]?).bind fun x5 =>
        asrt (((List.length t1 : Int) == 0) == false) ((List.length t1 : Int) != 0) (
          (idxG (((List.length t1 : Int) == 0) == false) 0 t1 (Int.tmod t25 (List.length t1 : Int))).bind fun x6 =>
          bif ((((List.length t1 : Int) == 0) || ((IntKind.i64.wrap ((BitVec.ofInt IntKind.i64.bits x6 &&& BitVec.ofInt IntKind.i64.bits 1).toNat)) == 0)) || (decide ((IntKind.i64.wrap (x5.2.1 * 64)) ≥ (List.length (Option.getD (mapAt (.int .i64) G62 x5.1 o1) (([] : (List UInt8)), ([] : (List UInt8)), ())).1 : Int)))) then
            k8 o1
          else
            asrt true (bounds true (List.length (Option.getD (mapAt (.int .i64) G62 x5.1 o1) (([] : (List UInt8)), ([] : (List UInt8)), ())).1) (IntKind.i64.wrap (x5.2.1 * 64)) (bif decide ((List.length (Option.getD (mapAt (.int .i64) G62 x5.1 o1) (([] : (List UInt8)), ([] : (List UInt8)), ())).1 : Int) < (IntKind.i64.wrap ((IntKind.i64.wrap (x5.2.1 * 64)) + 64))) then (List.length (Option.getD (mapAt (.int .i64) G62 x5.1 o1) (([] : (List UInt8)), ([] : (List UInt8)), ())).1 : Int) else (IntKind.i64.wrap ((IntKind.i64.wrap (x5.2.1 * 64)) + 64)))) (
              (m47 (Option.getD (mapAt (.int .i64) G62 x5.1 o1) (([] : (List UInt8)), ([] : (List UInt8)), ())).2.1 (IntKind.i64.wrap (x5.2.1 * 64)) (subl (Option.getD (mapAt (.int .i64) G62 x5.1 o1) (([] : (List UInt8)), ([] : (List UInt8)), ())).1 (IntKind.i64.wrap (x5.2.1 * 64)) (bif decide ((List.length (Option.getD (mapAt (.int .i64) G62 x5.1 o1) (([] : (List UInt8)), ([] : (List UInt8)), ())).1 : Int) < (IntKind.i64.wrap ((IntKind.i64.wrap (x5.2.1 * 64)) + 64))) then (List.length (Option.getD (mapAt (.int .i64) G62 x5.1 o1) (([] : (List UInt8)), ([] : (List UInt8)), ())).1 : Int) else (IntKind.i64.wrap ((IntKind.i64.wrap (x5.2.1 * 64)) + 64))))).bind fun r7 =>
              k8 (putM (.int .i64) G62 x5.1 ((Option.getD (mapAt (.int .i64) G62 x5.1 o1) (([] : (List UInt8)), ([] : (List UInt8)), ())).1, r7, ()) o1))))) fun y8 =>
    kn (IntKind.i64.wrap (t25 + 1)) y8
  else
    k1 o1
noncomputable def l25_1 {R : Type} (t1 : (List Int)) (t24 : Int) (o2 : (List T69)) (k1 : (List (Int × T62)) → Option R) : Nat → Int → (List (Int × T62)) → Option R
  | 0, _, _ => none
  | n + 1, t25, o1 => s25_1 t1 t24 o2 (l25_1 t1 t24 o2 k1 n) k1 t25 o1
noncomputable def L25_1 : LE := ⟨4, 4, ⟨[(0, (.box 0 [] 0)), (1, (.dat (.sl (.int .i64)))), (23, (.own 2)), (24, (.dat (.int .i64))), (25, (.dat (.int .i64)))], [(.box (.agg (.scons (.mp 1) (.scons (.own 2) (.scons (.mp 3) (.scons (.dat (.int .i64)) (.scons (.dat .bool) (.scons (.dat (.int .i64)) (.scons (.dat (.sl (.int .i64))) .snil))))))))), (.map (.int .i64) G62), (.arr G69), (.map G69 .bool)]⟩, fun R n x k => l25_1 x.1.2.1 x.1.2.2.2.1 x.2.2.2.1 (fun y0 => k (.exit 0) ⟨[(0, (.box 0 [] 0))], [(.box (.agg (.scons (.mp 1) (.scons (.own 2) (.scons (.mp 3) (.scons (.dat (.int .i64) x.2.1.2.2.2.1) (.scons (.dat .bool x.2.1.2.2.2.2.1) (.scons (.dat (.int .i64) x.2.1.2.2.2.2.2.1) (.scons (.dat (.sl (.int .i64)) x.2.1.2.2.2.2.2.2.1) .snil))))))))), (.map (.int .i64) G62 y0), (.arr G69 x.2.2.2.1), (.map G69 .bool x.2.2.2.2.1)]⟩) n x.1.2.2.2.2.1 x.2.2.1⟩
noncomputable def C25 : Cfg := mkCfg [(4, ⟨[0, 1, 23, 24, 25], [], []⟩), (10, ⟨[0, 1, 23, 24, 25], [], []⟩), (12, ⟨[0, 88], [], []⟩)] [(4, (⟨[0], [], []⟩, ⟨[], [], []⟩)), (12, (⟨[0], [], []⟩, ⟨[], [], []⟩))] (([(0, L25_1)] : List (Nat × LE)).map (·.2))
theorem ek25_1 : EOk (E25) (C25) Try.f25.ntmps (bodyL Try.f25 0) (L25_1) := eok_of (e := L25_1) (fun R x Kn k => s25_1 x.1.2.1 x.1.2.2.2.1 x.2.2.2.1 (fun v0 v1 => Kn (((), x.1.2.1, (), x.1.2.2.2.1, v0, ()), (((), (), (), x.2.1.2.2.2.1, x.2.1.2.2.2.2.1, x.2.1.2.2.2.2.2.1, x.2.1.2.2.2.2.2.2.1, ()), v1, x.2.2.2.1, x.2.2.2.2.1, ()))) (fun y0 => k (.exit 0) ⟨[(0, (.box 0 [] 0))], [(.box (.agg (.scons (.mp 1) (.scons (.own 2) (.scons (.mp 3) (.scons (.dat (.int .i64) x.2.1.2.2.2.1) (.scons (.dat .bool x.2.1.2.2.2.2.1) (.scons (.dat (.int .i64) x.2.1.2.2.2.2.2.1) (.scons (.dat (.sl (.int .i64)) x.2.1.2.2.2.2.2.2.1) .snil))))))))), (.map (.int .i64) G62 y0), (.arr G69 x.2.2.2.1), (.map G69 .bool x.2.2.2.2.1)]⟩) x.1.2.2.2.2.1 x.2.2.1) (fun _ _ _ => rfl) (fun _ _ _ _ => rfl) (fun R x Kn k => by kernel_rfl)
theorem lm25 : ∀ c, Try.f25.body = some c → LmOk (E25) (C25) Try.f25.ntmps c := lmOk_of (ps := [(0, L25_1)]) (by kernel_rfl) (by kernel_rfl) ⟨ek25_1, trivial⟩
abbrev F25q : ShS := ⟨[(0, (.box 0 [] 0))], [(.box (.agg (.scons (.mp 1) (.scons (.own 2) (.scons (.mp 3) (.scons (.dat (.int .i64)) (.scons (.dat .bool) (.scons (.dat (.int .i64)) (.scons (.dat (.sl (.int .i64))) .snil))))))))), (.map (.int .i64) G62), (.arr G69), (.map G69 .bool)]⟩
/-- in front of the range -/
noncomputable def pre25 (a0 : (List Int)) (a1 : Int) (a2 : Bool) (a3 : Int) (a4 : (List Int)) (a5 : (List (Int × T62))) (a6 : (List T69)) (a7 : (List (T69 × Bool))) : Option (Bool × F25q.ty) :=
  bif a2 then
    some (true, (((), ()), (((), (), (), a1, a2, a3, a4, ()), a5, a6, a7, ())))
  else
    l25_1 a0 (List.length a6 : Int) a6 (fun y9 =>
        some (false, (((), ()), (((), (), (), a1, true, 0, a4, ()), y9, a6, a7, ())))) FUEL 0 a5
def kd25 : List (Nat × List Nat × GT) := [(1, [6], (.sl (.int .i64))), (1, [1], (.cons .nil .opq)), (1, [2], (.cons .nil .opq)), (1, [2], (.cons .bool .opq)), (1, [3], (.cons .bool .opq))]
def kw25 : List (Nat × List Nat × GT) := [(1, [1], G69)]
def rl25 : List (Nat × SV) := [(0, .box 0 [] 0)]
noncomputable def b25 : Code := (Try.f25.body).getD .skip
theorem body25 : Try.f25.body = some b25 := by kernel_rfl
noncomputable def tl25 : Code := tailOf 11 b25
noncomputable def lp25 : Code := codeL (codeL (codeR (codeL tl25)))
noncomputable def l0_25 : List Oper := (opsR (codeL (codeL tl25))).take 4
noncomputable def o0_25 : Oper := atO (opsR (codeL (codeL tl25))) 4
noncomputable def on25 : Oper := atO (opsR (codeL lp25)) 0
noncomputable def ox25 : Oper := atO (opsR (codeL lp25)) 1
noncomputable def in25 : Code := codeL (codeR (codeR lp25))
noncomputable def oe25 : Oper := atO (opsR (codeL in25)) 0
noncomputable def l2_25 : List Oper := (opsR (codeL in25)).drop 1
noncomputable def rest25 : Code := codeR in25
noncomputable def r14_25 : Code := codeR tl25
theorem tail25 : tailOf 11 b25 = Code.seq (Code.seq (.region 10 (l0_25 ++ [o0_25]).toArray false) (.block 2 (.loop (.seq (.region 11 #[on25, ox25] false) (.seq (.cond (.tmp 90) .skip (.exit 2)) (.block 3 (.seq (.region 12 (oe25 :: l2_25).toArray false) rest25))))))) r14_25 := by kernel_rfl
noncomputable def k25v : Option Ex → St → Option (Bool × F25q.ty) := fun e s => match e with
  | none => canonK (some ⟨[0], [], []⟩) 4 s fun s' => (match F25q.dec s' with
    | some z => some (false, z)
    | none => none)
  | some .ret => canonK (some ⟨[0], [], []⟩) 4 s fun s' => (match F25q.dec s' with
    | some z => some (true, z)
    | none => none)
  | some _ => none
theorem q25v (x : F25i.ty) : execV E25 C25 Try.f25.ntmps 4 11 b25 ⟨initR ((F25i.enc x).regs.map (·.2)) 0, (F25i.enc x).heap⟩ k25v = pre25 x.1.2.1 x.2.1.2.2.2.1 x.2.1.2.2.2.2.1 x.2.1.2.2.2.2.2.1 x.2.1.2.2.2.2.2.2.1 x.2.2.1 x.2.2.2.1 x.2.2.2.2.1 := by kernel_rfl
noncomputable def hp25 (z : F25q.ty) : List SO := (F25q.enc z).heap
noncomputable def reg25 (x : Int) (y : T62) (ptr : Value) : List (Nat × SV) := (91, .tup (.scons (.dat (.int .i64) x) (.scons (.dat G62 y) .snil))) :: (88, .dat .opq ptr) :: rl25
noncomputable def bd25 (z : F25q.ty) (c : Nat) (es : List (Int × T62)) (bs : List Nat) (x : Int) (y : T62) (ptr : Value) : Option St :=
  runOps E25 (oe25 :: l2_25) (reg25 x y ptr) l2_25 [] (setN (hp25 z) 1 (.mapB (.int .i64) G62 es bs c)) (fun rs h => execC E25 noCfg Try.f25.ntmps 4 rest25 ⟨after rs (reg25 x y ptr), h⟩ fun e s => match e with
    | .normal => canonK (some ⟨[88, 0], [], []⟩) 4 s some
    | _ => none)
theorem bd25_eq (z : F25q.ty) (c : Nat) (es : List (Int × T62)) (bs : List Nat) (x : Int) (y : T62) (ptr : Value) : bd25 z c es bs x y ptr =
    asrt true (mapAt (.int .i64) G62 x es).isSome (some ⟨(88, .dat .opq ptr) :: rl25, setN (hp25 z) 1 (.mapB (.int .i64) G62 (putM (.int .i64) G62 x (y.2.1, y.2.1, ()) es) bs c)⟩) := by kernel_rfl
def fd25 (e : Int × T62) : Option T62 := some (e.2.2.1, e.2.2.1, ())
theorem code25 (z : F25q.ty) (c : Nat) : RCode (k := .int .i64) (v := G62) E25 noCfg Try.f25.ntmps 1 88 c 89 90 91 3 rl25 (hp25 z) fd25 (fun _ => false) on25 ox25 oe25 l2_25 rest25 [88, 0] where
  hon := ⟨by kernel_rfl, by kernel_rfl, by kernel_rfl⟩
  hox := ⟨by kernel_rfl, by kernel_rfl, by kernel_rfl⟩
  hoe := ⟨by kernel_rfl, by kernel_rfl, by kernel_rfl⟩
  frl := rfl
  lt1 := by decide +kernel
  lt2 := by decide +kernel
  lt3 := by decide +kernel
  f1 := fun _ => rfl
  f2 := fun _ => rfl
  ds := by kernel_rfl
  lm := noCfg_lm
  key := by kernel_rfl
  hn := Nat.succ_lt_succ (Nat.zero_lt_succ _)
  body := fun es bs x y ptr h => by
    refine (bd25_eq z c es bs x y ptr).trans ?_
    rw [h]
    rfl
  stays := fun x y h => by cases h
noncomputable def ru25 (z : F25q.ty) : Option (List Rc × List SO) := runOps E25 (l0_25 ++ [o0_25]) rl25 l0_25 [] (hp25 z) (fun rs h => some (rs, h))
noncomputable def rs25 (z : F25q.ty) : List Rc := ((ru25 z).getD ([], [])).1
theorem ru25_eq (z : F25q.ty) : ru25 z = some (rs25 z, hp25 z) := by kernel_rfl
theorem af25 (z : F25q.ty) : lk (after (rs25 z) rl25) 87 = some (.mp 1) ∧ lk (after (rs25 z) rl25) 0 = some (.box 0 [] 0) := ⟨by kernel_rfl, by kernel_rfl⟩
/-- the end when the machine was down -/
def fa25 (z : F25q.ty) : F25o.ty := (((), ()), (z.2.1, z.2.2.1, (), (), z.2.2.2.1, z.2.2.2.2.1, ()))
/-- the end behind the range -/
def fb25 (z : F25q.ty) (fs : List (Int × T62)) : F25o.ty := (((), ()), (z.2.1, fs, (), (), [], [], ()))
theorem enda25 (z : F25q.ty) : retB kd25 kw25 4 F25o (.tup .snil) (hp25 z) = some (fa25 z) := by kernel_rfl
noncomputable def k14_25 : Ex → St → Option F25o.ty := fun e s => match e with
  | .normal => retB kd25 kw25 4 F25o (.tup .snil) s.heap
  | _ => none
theorem endb25 (z : F25q.ty) (fs : List (Int × T62)) : execC E25 noCfg Try.f25.ntmps 4 r14_25 ⟨rl25, setN (hp25 z) 1 (.map (.int .i64) G62 fs)⟩ k14_25 = some (fb25 z fs) := by kernel_rfl
noncomputable def m25 (a0 : (List Int)) (a1 : Int) (a2 : Bool) (a3 : Int) (a4 : (List Int)) (a5 : (List (Int × T62))) (a6 : (List T69)) (a7 : (List (T69 × Bool))) : Option F25o.ty := (pre25 a0 a1 a2 a3 a4 a5 a6 a7).bind fun q => bif q.1 then some (fa25 q.2) else asrt true (nodK (.int .i64) G62 q.2.2.2.1) (some (fb25 q.2 (overM fd25 q.2.2.2.1)))
theorem R25 : CRun Try.prog 25 F25i F25o (fun x => m25 x.1.2.1 x.2.1.2.2.2.1 x.2.1.2.2.2.2.1 x.2.1.2.2.2.2.2.1 x.2.1.2.2.2.2.2.2.1 x.2.2.1 x.2.2.2.1 x.2.2.2.2.1) := by
  intro x y hy B X H vals hv
  obtain ⟨q, hq, hy⟩ := Option.bind_eq_some_iff.1 hy
  have hlen : X.ρ.length = 4 := H.len
  obtain ⟨b0, hb0⟩ : ∃ b, X.ρ[0]? = some (.pointer (some ⟨b, 0, none⟩)) := by
    obtain ⟨b, cs, T, k1, _⟩ := H.obj 0 (.box _) rfl
    exact ⟨b, k1⟩
  have S0 := enter_ok H hv (N := Try.f25.ntmps) (show 2 ≤ Try.f25.ntmps by decide +kernel)
  refine calls_of_wp Try.func25 body25 ?_
  refine execV_sound (E := E25) ok25 ord (C := C25) (key := 11) b25 k25v _ _ X _ (lm25 _ body25) S0 ((q25v x).trans hq) ?_ ?_
  · intro e s' a' X' hne S' x' hk'
    cases e with
    | normal => exact absurd rfl hne
    | exit id => simp [k25v] at hk'
    | ret =>
    simp only [k25v] at hk'
    obtain ⟨s1, X2, e1, S2, x2, hd⟩ := canonK_sound S' hk'
    split at hd
    · rename_i z hz
      have hz2 := F25q.dec_enc _ _ hz
      subst hz2
      obtain rfl := Option.some.inj hd
      obtain rfl := Option.some.inj hy
      have hx : Ext X X2 := ExtN.all (by rw [hlen]; exact x'.trans x2)
      refine ret_unit' (by kernel_rfl) S'.defers ?_
      obtain ⟨X3, e3, x3, H3, h3⟩ := end_retB (v := .tup .snil) (val := .tuple #[]) S2.heap (hx.ρ _ _ hb0) ⟨[], rfl, rfl⟩ (enda25 z)
      exact ⟨_, X3, e3.trans e1, ExtN.all (by rw [hlen]; exact (x'.trans x2).trans x3), H3, rfl, h3⟩
    · cases hd
  · intro s' a' X' S' x' hk'
    simp only [k25v] at hk'
    obtain ⟨s1, X2, e1, S2, x2, hd⟩ := canonK_sound S' hk'
    split at hd
    · rename_i z hz
      have hz2 := F25q.dec_enc _ _ hz
      subst hz2
      obtain rfl := Option.some.inj hd
      obtain ⟨hn, hy⟩ := asrt_true hy
      obtain rfl := Option.some.inj hy
      rw [tail25, ← e1]
      refine wp_seq (map_range ok25 ord (code25 z) (i0 := 10) (i1 := 11) (i2 := 12) (b := 2) (b2 := 3) (m := 87) (t := 52) (kt' := 3) (vt := 63) (l0 := l0_25) (o0 := o0_25) ⟨by kernel_rfl, by kernel_rfl, by kernel_rfl⟩ (by decide +kernel) (by kernel_rfl) (by kernel_rfl)
        (rs0 := rs25 z) (es := z.2.2.1) S2 (ru25_eq z) (af25 z).1 rfl hn (fun t u hl => by
          simp only [rl25, lk] at hl
          cases hb : Nat.beq 0 t with
          | true =>
            rw [hb] at hl
            simp only [cond_true, Option.some.injEq] at hl
            subst hl
            rw [← Nat.eq_of_beq_eq_true hb]
            exact (af25 z).2
          | false => rw [hb] at hl; cases hl) ?_)
      intro a2 X3 S3 hx3
      show r14_25.wp Try.prog _ a2 X3.w
      refine execC_sound (E := E25) ok25 ord (C := noCfg) r14_25 k14_25 _ a2 X3 _ noCfg_lm S3 (endb25 z _) ?_
      intro e s4 a4 X4 S4 x4 hk4
      cases e with
      | ret => simp [k14_25] at hk4
      | exit id => simp [k14_25] at hk4
      | normal =>
      simp only [k14_25] at hk4
      have h2 : ExtN 4 X X2 := x'.trans x2
      have h4 : ExtN 4 X X4 := (h2.trans (.of hx3)).trans x4
      refine ret_unit (by kernel_rfl) S4.defers ?_
      obtain ⟨X5, e5, x5, H5, h5⟩ := end_retB (v := .tup .snil) (val := .tuple #[]) S4.heap ((ExtN.all (by rw [hlen]; exact h4) : Ext X X4).ρ _ _ hb0) ⟨[], rfl, rfl⟩ hk4
      exact ⟨_, X5, e5, ExtN.all (by rw [hlen]; exact h4.trans x5), H5, rfl, h5⟩
    · cases hd

noncomputable def c25 : CmE := stE 25 [(0, [6], (.sl (.int .i64))), (1, [], (.sl (.int .i64)))] [(0, [1], G69)] F25i F25o (fun x => m25 x.1.2.1 x.2.1.2.2.2.1 x.2.1.2.2.2.2.1 x.2.1.2.2.2.2.2.1 x.2.1.2.2.2.2.2.2.1 x.2.2.1 x.2.2.2.1 x.2.2.2.2.1)
theorem d25 : CmOk Try.prog c25 := st_ok ca25 R25

/-! 29: (*consol/disk.Disk).Write -/
theorem ca29 : callable Try.prog 29 := ⟨Try.f29, Try.func29, by kernel_rfl, by kernel_rfl⟩
abbrev F29i : ShS := ⟨[(0, (.box 0 [] 0)), (1, (.dat (.int .i64))), (2, (.dat (.int .i64))), (3, (.dat .str))], [(.box (.agg (.scons (.mp 1) (.scons (.own 2) (.scons (.mp 3) (.scons (.dat (.int .i64)) (.scons (.dat .bool) (.scons (.dat (.int .i64)) (.scons (.dat (.sl (.int .i64))) .snil))))))))), (.map (.int .i64) G62), (.arr G69), (.map G69 .bool)]⟩
abbrev F29o : ShS := ⟨[(0, (.dat (.int .i64)))], [(.box (.agg (.scons (.mp 1) (.scons (.own 4) (.scons (.mp 5) (.scons (.dat (.int .i64)) (.scons (.dat .bool) (.scons (.dat (.int .i64)) (.scons (.dat (.sl (.int .i64))) .snil))))))))), (.map (.int .i64) G62), .dead, .dead, (.arr G69), (.map G69 .bool)]⟩
theorem ca43 : callable Try.prog 43 := ⟨Try.f43, Try.func43, by kernel_rfl, by kernel_rfl⟩
noncomputable def E29i43 : Env := mkEnv2 Try.prog [] []
theorem ok29i43 : EnvOk (E29i43) := mkEnv2_ok (by simp) (by simp)
noncomputable def C29i43 : Cfg := noCfg
theorem lm29i43 : ∀ c, Try.f43.body = some c → LmOk (E29i43) (C29i43) Try.f43.ntmps c := fun _ _ => noCfg_lm
noncomputable def c29i43 : CmE := inl E29i43 C29i43 43 Try.f43
theorem d29i43 : CmOk Try.prog c29i43 := inl_ok (E := E29i43) ok29i43 ord lm29i43 Try.func43 ca43

noncomputable def E29 : Env := mkEnv2 Try.prog [] [c25, c29i43, c49]
theorem ok29 : EnvOk (E29) := mkEnv2_ok (by simp) (by simp only [List.mem_cons, List.not_mem_nil, or_false, forall_eq_or_imp, forall_eq]; exact ⟨d25, d29i43, d49⟩)
noncomputable def C29 : Cfg := noCfg
theorem lm29 : ∀ c, Try.f29.body = some c → LmOk (E29) (C29) Try.f29.ntmps c := fun _ _ => noCfg_lm
noncomputable def m29 (a0 : Int) (a1 : Int) (a2 : (List UInt8)) (a3 : Int) (a4 : Bool) (a5 : Int) (a6 : (List Int)) (a7 : (List (Int × T62))) (a8 : (List T69)) (a9 : (List (T69 × Bool))) : Option F29o.ty :=
  bif (a4 || (a5 == 0)) then
    (m49 a0 a1 a2 a3 a4 a5 a6 a7 a8 a9).bind fun r1 =>
    some ((r1.1.1, ()), (((), (), (), r1.2.1.2.2.2.1, r1.2.1.2.2.2.2.1, r1.2.1.2.2.2.2.2.1, r1.2.1.2.2.2.2.2.2.1, ()), r1.2.2.1, (), (), r1.2.2.2.2.2.1, r1.2.2.2.2.2.2.1, ()))
  else
    (m49 a0 a1 a2 a3 a4 (IntKind.i64.wrap (a5 - 1)) a6 a7 a8 a9).bind fun r2 =>
    bif ((IntKind.i64.wrap (a5 - 1)) == 0) then
      (m25 r2.2.1.2.2.2.2.2.2.1 r2.2.1.2.2.2.1 r2.2.1.2.2.2.2.1 r2.2.1.2.2.2.2.2.1 r2.2.1.2.2.2.2.2.2.1 r2.2.2.1 r2.2.2.2.2.2.1 r2.2.2.2.2.2.2.1).bind fun r3 =>
      some ((8, ()), (((), (), (), r3.2.1.2.2.2.1, r3.2.1.2.2.2.2.1, r3.2.1.2.2.2.2.2.1, r3.2.1.2.2.2.2.2.2.1, ()), r3.2.2.1, (), (), r3.2.2.2.2.2.1, r3.2.2.2.2.2.2.1, ()))
    else
      some ((r2.1.1, ()), (((), (), (), r2.2.1.2.2.2.1, r2.2.1.2.2.2.2.1, r2.2.1.2.2.2.2.2.1, r2.2.1.2.2.2.2.2.2.1, ()), r2.2.2.1, (), (), r2.2.2.2.2.2.1, r2.2.2.2.2.2.2.1, ()))
theorem q29 (x : F29i.ty) : execF E29 C29 Try.f29 ((F29i.enc x).regs.map (·.2)) (F29i.enc x).heap (retB [(1, [6], (.sl (.int .i64))), (1, [1], (.cons .nil .opq)), (1, [2], (.cons .nil .opq)), (1, [2], (.cons .bool .opq)), (1, [3], (.cons .bool .opq))] [(1, [1], G69)] 4 F29o) = m29 x.1.2.1 x.1.2.2.1 x.1.2.2.2.1 x.2.1.2.2.2.1 x.2.1.2.2.2.2.1 x.2.1.2.2.2.2.2.1 x.2.1.2.2.2.2.2.2.1 x.2.2.1 x.2.2.2.1 x.2.2.2.2.1 := by kernel_rfl
theorem R29 : CRun Try.prog 29 F29i F29o (fun x => m29 x.1.2.1 x.1.2.2.1 x.1.2.2.2.1 x.2.1.2.2.2.1 x.2.1.2.2.2.2.1 x.2.1.2.2.2.2.2.1 x.2.1.2.2.2.2.2.2.1 x.2.2.1 x.2.2.2.1 x.2.2.2.2.1) := st_runB (E := E29) ok29 ord lm29 Try.func29 rfl q29
noncomputable def c29 : CmE := stE 29 [(0, [6], (.sl (.int .i64)))] [(0, [1], G69)] F29i F29o (fun x => m29 x.1.2.1 x.1.2.2.1 x.1.2.2.2.1 x.2.1.2.2.2.1 x.2.1.2.2.2.2.1 x.2.1.2.2.2.2.2.1 x.2.1.2.2.2.2.2.2.1 x.2.2.1 x.2.2.2.1 x.2.2.2.2.1)
theorem d29 : CmOk Try.prog c29 := st_ok ca29 R29

/-! 58: maps.DeleteFunc[map[consol/disk.sector]bool,consol/disk.sector,bool] -/
theorem ca58 : callable Try.prog 58 := ⟨Try.f58, Try.func58, by kernel_rfl, by kernel_rfl⟩
abbrev F58i : ShS := ⟨[(0, (.mp 0)), (1, (.fn 59 (.scons (.box 1 [] 0) .snil)))], [(.map G69 .bool), (.box (.dat (.int .i64)))]⟩
abbrev F58o : ShS := ⟨[(0, (.tup .snil))], [(.map G69 .bool), (.box (.dat (.int .i64)))]⟩
theorem ca59 : callable Try.prog 59 := ⟨Try.f59, Try.func59, by kernel_rfl, by kernel_rfl⟩
noncomputable def E58i59 : Env := mkEnv2 Try.prog [] []
theorem ok58i59 : EnvOk (E58i59) := mkEnv2_ok (by simp) (by simp)
noncomputable def C58i59 : Cfg := noCfg
theorem lm58i59 : ∀ c, Try.f59.body = some c → LmOk (E58i59) (C58i59) Try.f59.ntmps c := fun _ _ => noCfg_lm
noncomputable def c58i59 : CmE := inl E58i59 C58i59 59 Try.f59
theorem d58i59 : CmOk Try.prog c58i59 := inl_ok (E := E58i59) ok58i59 ord lm58i59 Try.func59 ca59

noncomputable def E58 : Env := mkEnv2 Try.prog [] [c58i59]
theorem ok58 : EnvOk (E58) := mkEnv2_ok (by simp) (by simp only [List.mem_cons, List.not_mem_nil, or_false, forall_eq]; exact d58i59)
noncomputable def C58 : Cfg := mkCfg [(2, ⟨[0, 1, 7], [], []⟩)] [(2, (⟨[], [], []⟩, ⟨[], [], []⟩))] (([] : List (Nat × LE)).map (·.2))
theorem lm58 : ∀ c, Try.f58.body = some c → LmOk (E58) (C58) Try.f58.ntmps c := lmOk_of (ps := []) (by kernel_rfl) (by kernel_rfl) trivial
def hp58 (es : List (T69 × Bool)) (fv : Int) : List SO := [.map G69 .bool es, .box (.dat (.int .i64) fv)]
def rl58 : List (Nat × SV) := [(0, .mp 0), (1, .fn 59 (.scons (.box 1 [] 0) .snil))]
noncomputable def b58 : Code := (Try.f58.body).getD .skip
noncomputable def lp58 : Code := codeL (codeL (codeR b58))
noncomputable def l0_58 : List Oper := (opsR (codeL b58)).take 1
noncomputable def o0_58 : Oper := atO (opsR (codeL b58)) 1
noncomputable def on58 : Oper := atO (opsR (codeL lp58)) 0
noncomputable def ox58 : Oper := atO (opsR (codeL lp58)) 1
noncomputable def in58 : Code := codeL (codeR (codeR lp58))
noncomputable def oe58 : Oper := atO (opsR (codeL in58)) 0
noncomputable def l2_58 : List Oper := (opsR (codeL in58)).drop 1
noncomputable def rest58 : Code := codeR in58
theorem body58 : Try.f58.body = some (Code.seq (.region 0 (l0_58 ++ [o0_58]).toArray false) (.block 0 (.loop (.seq (.region 1 #[on58, ox58] false) (.seq (.cond (.tmp 9) .skip (.exit 0)) (.block 1 (.seq (.region 2 (oe58 :: l2_58).toArray false) rest58))))))) := by kernel_rfl
noncomputable def reg58 (x : T69) (y : Bool) (ptr : Value) : List (Nat × SV) := (10, .tup (.scons (.dat G69 x) (.scons (.dat .bool y) .snil))) :: (7, .dat .opq ptr) :: rl58
noncomputable def bd58 (es0 : List (T69 × Bool)) (fv : Int) (c : Nat) (es : List (T69 × Bool)) (bs : List Nat) (x : T69) (y : Bool) (ptr : Value) : Option St :=
  runOps E58 (oe58 :: l2_58) (reg58 x y ptr) l2_58 [] (setN (hp58 es0 fv) 0 (.mapB G69 .bool es bs c)) (fun rs h => execC E58 noCfg Try.f58.ntmps 2 rest58 ⟨after rs (reg58 x y ptr), h⟩ fun e s => match e with
    | .normal => canonK (some ⟨[7, 0, 1], [], []⟩) 2 s some
    | _ => none)
theorem bd58_eq (es0 : List (T69 × Bool)) (fv : Int) (c : Nat) (es : List (T69 × Bool)) (bs : List Nat) (x : T69) (y : Bool) (ptr : Value) : bd58 es0 fv c es bs x y ptr =
    bif x.1 == fv then some ⟨(7, .dat .opq ptr) :: rl58, setN (hp58 es0 fv) 0 (.mapB G69 .bool (es.eraseIdx (posM G69 .bool x es)) (bs.eraseIdx (posM G69 .bool x es)) c)⟩ else some ⟨(7, .dat .opq ptr) :: rl58, setN (hp58 es0 fv) 0 (.mapB G69 .bool es bs c)⟩ := by kernel_rfl
noncomputable def fd58 (fv : Int) (e : T69 × Bool) : Option Bool := bif e.1.1 == fv then none else some e.2
def st58 (fv : Int) (e : T69 × Bool) : Bool := !(e.1.1 == fv)
theorem code58 (es0 : List (T69 × Bool)) (fv : Int) (c : Nat) : RCode (k := G69) (v := .bool) E58 noCfg Try.f58.ntmps 0 7 c 8 9 10 70 rl58 (hp58 es0 fv) (fd58 fv) (st58 fv) on58 ox58 oe58 l2_58 rest58 [7, 0, 1] where
  hon := ⟨by kernel_rfl, by kernel_rfl, by kernel_rfl⟩
  hox := ⟨by kernel_rfl, by kernel_rfl, by kernel_rfl⟩
  hoe := ⟨by kernel_rfl, by kernel_rfl, by kernel_rfl⟩
  frl := rfl
  lt1 := by decide +kernel
  lt2 := by decide +kernel
  lt3 := by decide +kernel
  f1 := fun _ => rfl
  f2 := fun _ => rfl
  ds := by kernel_rfl
  lm := noCfg_lm
  key := by kernel_rfl
  hn := Nat.zero_lt_succ _
  body := fun es bs x y ptr _ => by
    refine (bd58_eq es0 fv c es bs x y ptr).trans ?_
    simp only [st58, fd58]
    cases x.1 == fv <;> rfl
  stays := fun x y h => by
    simp only [st58, Bool.not_eq_true'] at h
    simp only [fd58, h, cond_false]
noncomputable def ru58 (es : List (T69 × Bool)) (fv : Int) : Option (List Rc × List SO) := runOps E58 (l0_58 ++ [o0_58]) rl58 l0_58 [] (hp58 es fv) (fun rs h => some (rs, h))
noncomputable def rs58 (es : List (T69 × Bool)) (fv : Int) : List Rc := ((ru58 es fv).getD ([], [])).1
theorem ru58_eq (es : List (T69 × Bool)) (fv : Int) : ru58 es fv = some (rs58 es fv, hp58 es fv) := by kernel_rfl
theorem af58 (es : List (T69 × Bool)) (fv : Int) : after (rs58 es fv) rl58 = (6, .mp 0) :: rl58 := by kernel_rfl
noncomputable def m58 (es : List (T69 × Bool)) (fv : Int) : Option F58o.ty := asrt true (nodK G69 .bool es) (some (((), ()), (overM (fd58 fv) es, fv, ())))
theorem R58 : CRun Try.prog 58 F58i F58o (fun x => m58 x.2.1 x.2.2.1) := by
  intro x y hy B X H vals hv
  obtain ⟨hn, hy⟩ := asrt_true hy
  obtain rfl := Option.some.inj hy
  have S0 : StOk B Try.f58.ntmps X ⟨rl58, hp58 x.2.1 x.2.2.1⟩ { tmps := vals.toArray ++ Array.replicate (Try.f58.ntmps - vals.toArray.size) undef, defers := [] } := enter_ok H hv (N := Try.f58.ntmps) (show 2 ≤ Try.f58.ntmps by decide +kernel)
  refine calls_of_wp Try.func58 body58 ?_
  refine map_range ok58 ord (code58 x.2.1 x.2.2.1) (i0 := 0) (i1 := 1) (i2 := 2) (b := 0) (b2 := 1) (m := 6) (t := 53) (kt' := 70) (vt := 4) (l0 := l0_58) (o0 := o0_58) ⟨by kernel_rfl, by kernel_rfl, by kernel_rfl⟩ (by decide +kernel) (by kernel_rfl) (by kernel_rfl)
    (rs0 := rs58 x.2.1 x.2.2.1) (es := x.2.1) S0 (ru58_eq _ _) (by rw [af58]; rfl) rfl hn (fun t u hl => by
      rw [af58]
      simp only [lk]
      cases hb : Nat.beq 6 t with
      | false => exact hl
      | true =>
        rw [← Nat.eq_of_beq_eq_true hb] at hl
        cases hl) ?_
  intro a' X' S' hx
  refine ret_unit (by kernel_rfl) S'.defers ?_
  refine ⟨_, X', rfl, hx, S'.heap, rfl, fun u hu => ?_⟩
  have : u = .tup .snil := by
    have := (List.cons.inj hu).1
    exact (Prod.mk.inj this).2.symm
  subst this
  exact ⟨[], rfl, rfl⟩

noncomputable def c58 : CmE := stE 58 [] [] F58i F58o (fun x => m58 x.2.1 x.2.2.1)
theorem d58 : CmOk Try.prog c58 := st_ok ca58 R58

/-! 45: (*consol/disk.Disk).settle -/
theorem ca45 : callable Try.prog 45 := ⟨Try.f45, Try.func45, by kernel_rfl, by kernel_rfl⟩
abbrev F45i : ShS := ⟨[(0, (.box 0 [] 0)), (1, (.dat (.int .i64))), (2, (.dat .str))], [(.box (.agg (.scons (.mp 1) (.scons (.own 2) (.scons (.mp 3) (.scons (.dat (.int .i64)) (.scons (.dat .bool) (.scons (.dat (.int .i64)) (.scons (.dat (.sl (.int .i64))) .snil))))))))), (.map (.int .i64) G62), (.arr G69), (.map G69 .bool)]⟩
abbrev F45o : ShS := ⟨[(0, (.tup .snil))], [(.box (.agg (.scons (.mp 1) (.scons (.own 4) (.scons (.mp 5) (.scons (.dat (.int .i64)) (.scons (.dat .bool) (.scons (.dat (.int .i64)) (.scons (.dat (.sl (.int .i64))) .snil))))))))), (.map (.int .i64) G62), .dead, .dead, (.arr G69), (.map G69 .bool)]⟩
theorem ca57 : callable Try.prog 57 := ⟨Try.f57, Try.func57, by kernel_rfl, by kernel_rfl⟩
noncomputable def E45i57 : Env := mkEnv2 Try.prog [] []
theorem ok45i57 : EnvOk (E45i57) := mkEnv2_ok (by simp) (by simp)
noncomputable def C45i57 : Cfg := noCfg
theorem lm45i57 : ∀ c, Try.f57.body = some c → LmOk (E45i57) (C45i57) Try.f57.ntmps c := fun _ _ => noCfg_lm
noncomputable def c45i57 : CmE := inl E45i57 C45i57 57 Try.f57
theorem d45i57 : CmOk Try.prog c45i57 := inl_ok (E := E45i57) ok45i57 ord lm45i57 Try.func57 ca57

theorem ca63 : callable Try.prog 63 := ⟨Try.f63, Try.func63, by kernel_rfl, by kernel_rfl⟩
noncomputable def E45i63 : Env := mkEnv2 Try.prog [] [c45i57]
theorem ok45i63 : EnvOk (E45i63) := mkEnv2_ok (by simp) (by simp only [List.mem_cons, List.not_mem_nil, or_false, forall_eq]; exact d45i57)
/-- a round of a loop of slices.IndexFunc[[]consol/disk.sector,consol/disk.sector] -/
noncomputable def s45_1 {R : Type} (t7 : Int) (o2 : (List T69)) (o4 : Int) (kn : Int → Option R) (k1 : Option R) (k2 : Int → Option R) (t8 : Int) : Option R :=
  bif (decide (t8 < t7)) then
    asrt true (decide (0 ≤ t8) && decide (t8 < (List.length o2 : Int))) (
      ((o2)[(t8 : Int).toNat]?).bind fun x1 =>
      bif (x1.1 == o4) then
        k2 t8
      else
        kn (IntKind.i64.wrap (t8 + 1)))
  else
    k1
noncomputable def l45_1 {R : Type} (t7 : Int) (o2 : (List T69)) (o4 : Int) (k1 : Option R) (k2 : Int → Option R) : Nat → Int → Option R
  | 0, _ => none
  | n + 1, t8 => s45_1 t7 o2 o4 (l45_1 t7 o2 o4 k1 k2 n) k1 k2 t8
noncomputable def L45_1 : LE := ⟨3, 5, ⟨[(0, (.own 2)), (1, (.fn 57 (.scons (.box 4 [] 0) .snil))), (7, (.dat (.int .i64))), (8, (.dat (.int .i64)))], [.dead, .dead, (.arr G69), .dead, (.box (.dat (.int .i64)))]⟩, fun R n x k => l45_1 x.1.2.2.1 x.2.2.2.1 x.2.2.2.2.2.1 (k (.exit 0) ⟨[], [.dead, .dead, (.arr G69 x.2.2.2.1), .dead, (.box (.dat (.int .i64) x.2.2.2.2.2.1))]⟩) (fun y0 => k .ret ⟨[(4, (.dat (.int .i64) y0))], [.dead, .dead, (.arr G69 x.2.2.2.1), .dead, (.box (.dat (.int .i64) x.2.2.2.2.2.1))]⟩) n x.1.2.2.2.1⟩
noncomputable def C45i63 : Cfg := mkCfg [(3, ⟨[0, 1, 7, 8], [], []⟩)] [(3, (⟨[], [], []⟩, ⟨[4], [], []⟩))] (([(0, L45_1)] : List (Nat × LE)).map (·.2))
theorem ek45_1 : EOk (E45i63) (C45i63) Try.f63.ntmps (bodyL Try.f63 0) (L45_1) := eok_of (e := L45_1) (fun R x Kn k => s45_1 x.1.2.2.1 x.2.2.2.1 x.2.2.2.2.2.1 (fun v0 => Kn (((), ((), ()), x.1.2.2.1, v0, ()), ((), (), x.2.2.2.1, (), x.2.2.2.2.2.1, ()))) (k (.exit 0) ⟨[], [.dead, .dead, (.arr G69 x.2.2.2.1), .dead, (.box (.dat (.int .i64) x.2.2.2.2.2.1))]⟩) (fun y0 => k .ret ⟨[(4, (.dat (.int .i64) y0))], [.dead, .dead, (.arr G69 x.2.2.2.1), .dead, (.box (.dat (.int .i64) x.2.2.2.2.2.1))]⟩) x.1.2.2.2.1) (fun _ _ _ => rfl) (fun _ _ _ _ => rfl) (fun R x Kn k => by kernel_rfl)
theorem lm45i63 : ∀ c, Try.f63.body = some c → LmOk (E45i63) (C45i63) Try.f63.ntmps c := lmOk_of (ps := [(0, L45_1)]) (by kernel_rfl) (by kernel_rfl) ⟨ek45_1, trivial⟩
noncomputable def c45i63 : CmE := inl E45i63 C45i63 63 Try.f63
theorem d45i63 : CmOk Try.prog c45i63 := inl_ok (E := E45i63) ok45i63 ord lm45i63 Try.func63 ca63

theorem ca56 : callable Try.prog 56 := ⟨Try.f56, Try.func56, by kernel_rfl, by kernel_rfl⟩
noncomputable def E45i56 : Env := mkEnv2 Try.prog [] [c45i57, c45i63] [36]
theorem ok45i56 : EnvOk (E45i56) := mkEnv2_ok (by simp) (by simp only [List.mem_cons, List.not_mem_nil, or_false, forall_eq_or_imp, forall_eq]; exact ⟨d45i57, d45i63⟩)
/-- a round of a loop of slices.DeleteFunc[[]consol/disk.sector,consol/disk.sector] -/
noncomputable def s45_2 {R : Type} (o4 : Int) (kn : Int → Int → (List T69) → Option R) (k1 : Int → (List T69) → Option R) (t5 : Int) (t6 : Int) (o2 : (List T69)) : Option R :=
  bif (decide (t6 < (List.length o2 : Int))) then
    cont (fun (k6 : (Int × (List T69)) → _) =>
      asrt true (decide (0 ≤ t6) && decide (t6 < (List.length o2 : Int))) (
        ((o2)[(t6 : Int).toNat]?).bind fun x4 =>
        bif (!(x4.1 == o4)) then
          asrt true (decide (0 ≤ t5) && decide (t5 < (List.length o2 : Int))) (
            ((o2)[(t5 : Int).toNat]?).bind fun x5 =>
            k6 ((IntKind.i64.wrap (t5 + 1)), (List.set o2 (t5 : Int).toNat x4)))
        else
          k6 (t5, o2))) fun y6 =>
    kn y6.1 (IntKind.i64.wrap (t6 + 1)) y6.2
  else
    k1 t5 o2
noncomputable def l45_2 {R : Type} (o4 : Int) (k1 : Int → (List T69) → Option R) : Nat → Int → Int → (List T69) → Option R
  | 0, _, _, _ => none
  | n + 1, t5, t6, o2 => s45_2 o4 (l45_2 o4 k1 n) k1 t5 t6 o2
noncomputable def L45_2 : LE := ⟨6, 5, ⟨[(0, (.own 2)), (1, (.fn 57 (.scons (.box 4 [] 0) .snil))), (5, (.dat (.int .i64))), (6, (.dat (.int .i64)))], [.dead, .dead, (.arr G69), .dead, (.box (.dat (.int .i64)))]⟩, fun R n x k => l45_2 x.2.2.2.2.2.1 (fun y0 y1 => k (.exit 0) ⟨[(0, (.own 2)), (5, (.dat (.int .i64) y0))], [.dead, .dead, (.arr G69 y1), .dead, (.box (.dat (.int .i64) x.2.2.2.2.2.1))]⟩) n x.1.2.2.1 x.1.2.2.2.1 x.2.2.2.1⟩
noncomputable def C45i56 : Cfg := mkCfg [(6, ⟨[0, 1, 5, 6], [], []⟩), (7, ⟨[0, 1, 5, 6], [], []⟩)] [(6, (⟨[0, 5], [], []⟩, ⟨[4], [], []⟩))] (([(0, L45_2)] : List (Nat × LE)).map (·.2))
theorem ek45_2 : EOk (E45i56) (C45i56) Try.f56.ntmps (bodyL Try.f56 0) (L45_2) := eok_of (e := L45_2) (fun R x Kn k => s45_2 x.2.2.2.2.2.1 (fun v0 v1 v2 => Kn (((), ((), ()), v0, v1, ()), ((), (), v2, (), x.2.2.2.2.2.1, ()))) (fun y0 y1 => k (.exit 0) ⟨[(0, (.own 2)), (5, (.dat (.int .i64) y0))], [.dead, .dead, (.arr G69 y1), .dead, (.box (.dat (.int .i64) x.2.2.2.2.2.1))]⟩) x.1.2.2.1 x.1.2.2.2.1 x.2.2.2.1) (fun _ _ _ => rfl) (fun _ _ _ _ => rfl) (fun R x Kn k => by kernel_rfl)
theorem lm45i56 : ∀ c, Try.f56.body = some c → LmOk (E45i56) (C45i56) Try.f56.ntmps c := lmOk_of (ps := [(0, L45_2)]) (by kernel_rfl) (by kernel_rfl) ⟨ek45_2, trivial⟩
noncomputable def c45i56 : CmE := inl E45i56 C45i56 56 Try.f56
theorem d45i56 : CmOk Try.prog c45i56 := inl_ok (E := E45i56) ok45i56 ord lm45i56 Try.func56 ca56

noncomputable def E45 : Env := mkEnv2 Try.prog [] [c45i56, c58]
theorem ok45 : EnvOk (E45) := mkEnv2_ok (by simp) (by simp only [List.mem_cons, List.not_mem_nil, or_false, forall_eq_or_imp, forall_eq]; exact ⟨d45i56, d58⟩)
noncomputable def C45 : Cfg := noCfg
theorem lm45 : ∀ c, Try.f45.body = some c → LmOk (E45) (C45) Try.f45.ntmps c := fun _ _ => noCfg_lm
noncomputable def m45 (a0 : Int) (a1 : (List UInt8)) (a2 : Int) (a3 : Bool) (a4 : Int) (a5 : (List Int)) (a6 : (List (Int × T62))) (a7 : (List T69)) (a8 : (List (T69 × Bool))) : Option F45o.ty :=
  l45_1 (List.length a7 : Int) a7 a0 (
      (m58 a8 a0).bind fun r10 =>
      some (((()), ()), (((), (), (), a2, a3, a4, a5, ()), (putM (.int .i64) G62 a0 (a1, a1, ()) a6), (), (), a7, r10.2.1, ()))) (fun y2 =>
      bif (y2 == (-1)) then
        (m58 a8 a0).bind fun r3 =>
        some (((()), ()), (((), (), (), a2, a3, a4, a5, ()), (putM (.int .i64) G62 a0 (a1, a1, ()) a6), (), (), a7, r3.2.1, ()))
      else
        l45_2 a0 (fun y7 y8 =>
            asrt true (bounds true (List.length (α := T69) y8) y7 ((List.length (α := T69) y8) : Int)) (
              asrt true (decide ((Int.toNat y7) + ((List.length (α := T69) y8) - (Int.toNat y7)) ≤ (List.length (α := T69) y8))) (
                asrt true (bounds true (List.length (patch (α := T69) y8 (Int.toNat y7) ((List.length (α := T69) y8) - (Int.toNat y7)) (List.replicate ((List.length (α := T69) y8) - (Int.toNat y7)) (0, 0, ())))) 0 y7) (
                  (m58 a8 a0).bind fun r9 =>
                  some (((()), ()), (((), (), (), a2, a3, a4, a5, ()), (putM (.int .i64) G62 a0 (a1, a1, ()) a6), (), (), (subl (patch (α := T69) y8 (Int.toNat y7) ((List.length (α := T69) y8) - (Int.toNat y7)) (List.replicate ((List.length (α := T69) y8) - (Int.toNat y7)) (0, 0, ()))) 0 y7), r9.2.1, ())))))) FUEL y2 (IntKind.i64.wrap (y2 + 1)) a7) FUEL 0
theorem q45 (x : F45i.ty) : execF E45 C45 Try.f45 ((F45i.enc x).regs.map (·.2)) (F45i.enc x).heap (retB [(1, [6], (.sl (.int .i64))), (1, [1], (.cons .nil .opq)), (1, [2], (.cons .nil .opq)), (1, [2], (.cons .bool .opq)), (1, [3], (.cons .bool .opq))] [(1, [1], G69)] 4 F45o) = m45 x.1.2.1 x.1.2.2.1 x.2.1.2.2.2.1 x.2.1.2.2.2.2.1 x.2.1.2.2.2.2.2.1 x.2.1.2.2.2.2.2.2.1 x.2.2.1 x.2.2.2.1 x.2.2.2.2.1 := by kernel_rfl
theorem R45 : CRun Try.prog 45 F45i F45o (fun x => m45 x.1.2.1 x.1.2.2.1 x.2.1.2.2.2.1 x.2.1.2.2.2.2.1 x.2.1.2.2.2.2.2.1 x.2.1.2.2.2.2.2.2.1 x.2.2.1 x.2.2.2.1 x.2.2.2.2.1) := st_runB (E := E45) ok45 ord lm45 Try.func45 rfl q45
noncomputable def c45 : CmE := stE 45 [(0, [6], (.sl (.int .i64)))] [(0, [1], G69)] F45i F45o (fun x => m45 x.1.2.1 x.1.2.2.1 x.2.1.2.2.2.1 x.2.1.2.2.2.2.1 x.2.1.2.2.2.2.2.1 x.2.1.2.2.2.2.2.2.1 x.2.2.1 x.2.2.2.1 x.2.2.2.2.1)
theorem d45 : CmOk Try.prog c45 := st_ok ca45 R45

/-! 19: (*consol/disk.Disk).Sync -/
theorem ca19 : callable Try.prog 19 := ⟨Try.f19, Try.func19, by kernel_rfl, by kernel_rfl⟩
abbrev F19i : ShS := ⟨[(0, (.box 0 [] 0)), (1, (.dat (.int .i64)))], [(.box (.agg (.scons (.mp 1) (.scons (.own 2) (.scons (.mp 3) (.scons (.dat (.int .i64)) (.scons (.dat .bool) (.scons (.dat (.int .i64)) (.scons (.dat (.sl (.int .i64))) .snil))))))))), (.map (.int .i64) G62), (.arr G69), (.map G69 .bool)]⟩
abbrev F19o : ShS := ⟨[(0, (.dat (.int .i64)))], [(.box (.agg (.scons (.mp 1) (.scons (.own 4) (.scons (.mp 5) (.scons (.dat (.int .i64)) (.scons (.dat .bool) (.scons (.dat (.int .i64)) (.scons (.dat (.sl (.int .i64))) .snil))))))))), (.map (.int .i64) G62), .dead, .dead, (.arr G69), (.map G69 .bool)]⟩
noncomputable def E19 : Env := mkEnv2 Try.prog [] [c25, c29i43, c49i44, c45]
theorem ok19 : EnvOk (E19) := mkEnv2_ok (by simp) (by simp only [List.mem_cons, List.not_mem_nil, or_false, forall_eq_or_imp, forall_eq]; exact ⟨d25, d29i43, d49i44, d45⟩)
noncomputable def C19 : Cfg := mkCfg [(4, ⟨[0, 1], [], [(0, [1], (.cons .nil .opq))]⟩)] [] (([] : List (Nat × LE)).map (·.2))
theorem lm19 : ∀ c, Try.f19.body = some c → LmOk (E19) (C19) Try.f19.ntmps c := lmOk_of (ps := []) (by kernel_rfl) (by kernel_rfl) trivial
noncomputable def m19 (a0 : Int) (a1 : Int) (a2 : Bool) (a3 : Int) (a4 : (List Int)) (a5 : (List (Int × T62))) (a6 : (List T69)) (a7 : (List (T69 × Bool))) : Option F19o.ty :=
  bif (a2 || (a3 == 0)) then
    bif a2 then
      some ((8, ()), (((), (), (), a1, a2, a3, a4, ()), a5, (), (), a6, a7, ()))
    else
      bif ((decide (a0 < 0)) || (decide (a0 ≥ 16))) then
        some ((1, ()), (((), (), (), a1, a2, a3, a4, ()), a5, (), (), a6, a7, ()))
      else
        bif (decide (a1 > 0)) then
          some ((9, ()), (((), (), (), (IntKind.i64.wrap (a1 - 1)), a2, a3, a4, ()), a5, (), (), a6, a7, ()))
        else
          (m45 a0 ((Option.getD (mapAt (.int .i64) G62 a0 a5) (([] : (List UInt8)), ([] : (List UInt8)), ())).1) a1 a2 a3 a4 a5 a6 a7).bind fun r2 =>
          some ((0, ()), (((), (), (), r2.2.1.2.2.2.1, r2.2.1.2.2.2.2.1, r2.2.1.2.2.2.2.2.1, r2.2.1.2.2.2.2.2.2.1, ()), r2.2.2.1, (), (), r2.2.2.2.2.2.1, r2.2.2.2.2.2.2.1, ()))
  else
    bif ((IntKind.i64.wrap (a3 - 1)) == 0) then
      (m25 a4 a1 a2 (IntKind.i64.wrap (a3 - 1)) a4 a5 a6 a7).bind fun r1 =>
      bif r1.2.1.2.2.2.2.1 then
        some ((8, ()), (((), (), (), r1.2.1.2.2.2.1, r1.2.1.2.2.2.2.1, r1.2.1.2.2.2.2.2.1, r1.2.1.2.2.2.2.2.2.1, ()), r1.2.2.1, (), (), r1.2.2.2.2.2.1, r1.2.2.2.2.2.2.1, ()))
      else
        bif ((decide (a0 < 0)) || (decide (a0 ≥ 16))) then
          some ((1, ()), (((), (), (), r1.2.1.2.2.2.1, r1.2.1.2.2.2.2.1, r1.2.1.2.2.2.2.2.1, r1.2.1.2.2.2.2.2.2.1, ()), r1.2.2.1, (), (), r1.2.2.2.2.2.1, r1.2.2.2.2.2.2.1, ()))
        else
          bif (decide (r1.2.1.2.2.2.1 > 0)) then
            some ((9, ()), (((), (), (), (IntKind.i64.wrap (r1.2.1.2.2.2.1 - 1)), r1.2.1.2.2.2.2.1, r1.2.1.2.2.2.2.2.1, r1.2.1.2.2.2.2.2.2.1, ()), r1.2.2.1, (), (), r1.2.2.2.2.2.1, r1.2.2.2.2.2.2.1, ()))
          else
            (m45 a0 ((Option.getD (mapAt (.int .i64) G62 a0 r1.2.2.1) (([] : (List UInt8)), ([] : (List UInt8)), ())).1) r1.2.1.2.2.2.1 r1.2.1.2.2.2.2.1 r1.2.1.2.2.2.2.2.1 r1.2.1.2.2.2.2.2.2.1 r1.2.2.1 r1.2.2.2.2.2.1 r1.2.2.2.2.2.2.1).bind fun r3 =>
            some ((0, ()), (((), (), (), r3.2.1.2.2.2.1, r3.2.1.2.2.2.2.1, r3.2.1.2.2.2.2.2.1, r3.2.1.2.2.2.2.2.2.1, ()), r3.2.2.1, (), (), r3.2.2.2.2.2.1, r3.2.2.2.2.2.2.1, ()))
    else
      bif a2 then
        some ((8, ()), (((), (), (), a1, a2, (IntKind.i64.wrap (a3 - 1)), a4, ()), a5, (), (), a6, a7, ()))
      else
        bif ((decide (a0 < 0)) || (decide (a0 ≥ 16))) then
          some ((1, ()), (((), (), (), a1, a2, (IntKind.i64.wrap (a3 - 1)), a4, ()), a5, (), (), a6, a7, ()))
        else
          bif (decide (a1 > 0)) then
            some ((9, ()), (((), (), (), (IntKind.i64.wrap (a1 - 1)), a2, (IntKind.i64.wrap (a3 - 1)), a4, ()), a5, (), (), a6, a7, ()))
          else
            (m45 a0 ((Option.getD (mapAt (.int .i64) G62 a0 a5) (([] : (List UInt8)), ([] : (List UInt8)), ())).1) a1 a2 (IntKind.i64.wrap (a3 - 1)) a4 a5 a6 a7).bind fun r4 =>
            some ((0, ()), (((), (), (), r4.2.1.2.2.2.1, r4.2.1.2.2.2.2.1, r4.2.1.2.2.2.2.2.1, r4.2.1.2.2.2.2.2.2.1, ()), r4.2.2.1, (), (), r4.2.2.2.2.2.1, r4.2.2.2.2.2.2.1, ()))
theorem q19 (x : F19i.ty) : execF E19 C19 Try.f19 ((F19i.enc x).regs.map (·.2)) (F19i.enc x).heap (retB [(1, [6], (.sl (.int .i64))), (1, [1], (.cons .nil .opq)), (1, [2], (.cons .nil .opq)), (1, [2], (.cons .bool .opq)), (1, [3], (.cons .bool .opq))] [(1, [1], G69)] 4 F19o) = m19 x.1.2.1 x.2.1.2.2.2.1 x.2.1.2.2.2.2.1 x.2.1.2.2.2.2.2.1 x.2.1.2.2.2.2.2.2.1 x.2.2.1 x.2.2.2.1 x.2.2.2.2.1 := by kernel_rfl
theorem R19 : CRun Try.prog 19 F19i F19o (fun x => m19 x.1.2.1 x.2.1.2.2.2.1 x.2.1.2.2.2.2.1 x.2.1.2.2.2.2.2.1 x.2.1.2.2.2.2.2.2.1 x.2.2.1 x.2.2.2.1 x.2.2.2.2.1) := st_runB (E := E19) ok19 ord lm19 Try.func19 rfl q19
noncomputable def c19 : CmE := stE 19 [(0, [6], (.sl (.int .i64)))] [(0, [1], G69)] F19i F19o (fun x => m19 x.1.2.1 x.2.1.2.2.2.1 x.2.1.2.2.2.2.1 x.2.1.2.2.2.2.2.1 x.2.1.2.2.2.2.2.2.1 x.2.2.1 x.2.2.2.1 x.2.2.2.2.1)
theorem d19 : CmOk Try.prog c19 := st_ok ca19 R19

theorem ca40 : callable Try.prog 40 := ⟨Try.f40, Try.func40, by kernel_rfl, by kernel_rfl⟩
/-! 40: maps.Clone[map[int]consol/disk.file,int,consol/disk.file] -/
noncomputable def mclRen40 : Shelf.Ren := ⟨fun | 5 => 40 | 7 => 55 | n => n, fun | 3 => 63 | 4 => 4 | 20 => 20 | 23 => 52 | 25 => 3 | n => n, id⟩
theorem mclLays40 : SlLaysW.n5 Try.prog mclRen40 where
  mixed := ord
  f5 := ⟨ "maps.Clone[map[int]consol/disk.file,int,consol/disk.file]", by decide, Try.func40.trans (congrArg some (by kernel_rfl))⟩
  f7 := Try.func55.trans (congrArg some (by kernel_rfl))
  t4 := by kernel_rfl
  t20 := by kernel_rfl
  t23 := by kernel_rfl
  a4 := fun _ => by kernel_rfl
  z4 := fun _ => by kernel_rfl
  v4 := fun _ => by kernel_rfl
  a20 := fun _ => by kernel_rfl
  z20 := fun _ => by kernel_rfl
  v20 := fun _ => by kernel_rfl
  a23 := fun _ => by kernel_rfl
  z23 := fun _ => by kernel_rfl
  v23 := fun _ => by kernel_rfl
noncomputable def c40 : CmE := mclE 40
theorem d40 : CmOk Try.prog c40 := mcl_ok (mclSpec_of (ρ := mclRen40) mclLays40 ca40)

theorem ca41 : callable Try.prog 41 := ⟨Try.f41, Try.func41, by kernel_rfl, by kernel_rfl⟩
/-! 41: slices.Clone[[]consol/disk.sector,consol/disk.sector] -/
noncomputable def c41 : CmE := ownE 41 [(.sl G69)] G69 (fun x => cloneM x.1)
theorem d41 : CmOk Try.prog c41 := own_ok ca41 (clone_run (g := G69) ord Try.func41 Try.underlying54 rfl (by kernel_rfl) (fun _ => by kernel_rfl) (by kernel_rfl) (fun _ => by kernel_rfl))

theorem ca42 : callable Try.prog 42 := ⟨Try.f42, Try.func42, by kernel_rfl, by kernel_rfl⟩
/-! 42: maps.Clone[map[consol/disk.sector]bool,consol/disk.sector,bool] -/
noncomputable def mclRen42 : Shelf.Ren := ⟨fun | 5 => 42 | 7 => 55 | n => n, fun | 3 => 4 | 4 => 4 | 20 => 20 | 23 => 53 | 25 => 70 | n => n, id⟩
theorem mclLays42 : SlLaysW.n5 Try.prog mclRen42 where
  mixed := ord
  f5 := ⟨ "maps.Clone[map[consol/disk.sector]bool,consol/disk.sector,bool]", by decide, Try.func42.trans (congrArg some (by kernel_rfl))⟩
  f7 := Try.func55.trans (congrArg some (by kernel_rfl))
  t4 := by kernel_rfl
  t20 := by kernel_rfl
  t23 := by kernel_rfl
  a4 := fun _ => by kernel_rfl
  z4 := fun _ => by kernel_rfl
  v4 := fun _ => by kernel_rfl
  a20 := fun _ => by kernel_rfl
  z20 := fun _ => by kernel_rfl
  v20 := fun _ => by kernel_rfl
  a23 := fun _ => by kernel_rfl
  z23 := fun _ => by kernel_rfl
  v23 := fun _ => by kernel_rfl
noncomputable def c42 : CmE := mclE 42
theorem d42 : CmOk Try.prog c42 := mcl_ok (mclSpec_of (ρ := mclRen42) mclLays42 ca42)

/-! 18: (*consol/disk.Disk).Copy -/
theorem ca18 : callable Try.prog 18 := ⟨Try.f18, Try.func18, by kernel_rfl, by kernel_rfl⟩
abbrev F18i : ShS := ⟨[(0, (.box 0 [] 0))], [(.box (.agg (.scons (.mp 1) (.scons (.own 2) (.scons (.mp 3) (.scons (.dat (.int .i64)) (.scons (.dat .bool) (.scons (.dat (.int .i64)) (.scons (.dat (.sl (.int .i64))) .snil))))))))), (.map (.int .i64) G62), (.arr G69), (.map G69 .bool)]⟩
abbrev F18o : ShS := ⟨[(0, (.box 4 [] 0))], [(.box (.agg (.scons (.mp 1) (.scons (.own 2) (.scons (.mp 3) (.scons (.dat (.int .i64)) (.scons (.dat .bool) (.scons (.dat (.int .i64)) (.scons (.dat (.sl (.int .i64))) .snil))))))))), (.map (.int .i64) G62), (.arr G69), (.map G69 .bool), (.box (.agg (.scons (.mp 5) (.scons (.own 6) (.scons (.mp 7) (.scons (.dat (.int .i64)) (.scons (.dat .bool) (.scons (.dat (.int .i64)) (.scons (.dat (.sl (.int .i64))) .snil))))))))), (.map (.int .i64) G62), (.arr G69), (.map G69 .bool)]⟩
noncomputable def E18 : Env := mkEnv2 Try.prog [] [c40, c41, c42]
theorem ok18 : EnvOk (E18) := mkEnv2_ok (by simp) (by simp only [List.mem_cons, List.not_mem_nil, or_false, forall_eq_or_imp, forall_eq]; exact ⟨d40, d41, d42⟩)
noncomputable def C18 : Cfg := noCfg
theorem lm18 : ∀ c, Try.f18.body = some c → LmOk (E18) (C18) Try.f18.ntmps c := fun _ _ => noCfg_lm
noncomputable def m18 (a0 : Int) (a1 : Bool) (a2 : Int) (a3 : (List Int)) (a4 : (List (Int × T62))) (a5 : (List T69)) (a6 : (List (T69 × Bool))) : Option F18o.ty :=
  (cloneM a5).bind fun r1 =>
  some (((), ()), (((), (), (), a0, a1, a2, a3, ()), a4, a5, a6, ((), (), (), a0, a1, a2, a3, ()), a4, r1, a6, ()))
theorem q18 (x : F18i.ty) : execF E18 C18 Try.f18 ((F18i.enc x).regs.map (·.2)) (F18i.enc x).heap (retS [] [] 4 F18o) = m18 x.2.1.2.2.2.1 x.2.1.2.2.2.2.1 x.2.1.2.2.2.2.2.1 x.2.1.2.2.2.2.2.2.1 x.2.2.1 x.2.2.2.1 x.2.2.2.2.1 := by kernel_rfl
theorem R18 : CRun Try.prog 18 F18i F18o (fun x => m18 x.2.1.2.2.2.1 x.2.1.2.2.2.2.1 x.2.1.2.2.2.2.2.1 x.2.1.2.2.2.2.2.2.1 x.2.2.1 x.2.2.2.1 x.2.2.2.2.1) := st_run (E := E18) ok18 ord lm18 Try.func18 q18
noncomputable def c18 : CmE := stE 18 [(0, [6], (.sl (.int .i64)))] [(0, [1], G69)] F18i F18o (fun x => m18 x.2.1.2.2.2.1 x.2.1.2.2.2.2.1 x.2.1.2.2.2.2.2.1 x.2.1.2.2.2.2.2.2.1 x.2.2.1 x.2.2.2.1 x.2.2.2.2.1)
theorem d18 : CmOk Try.prog c18 := st_ok ca18 R18

/-! 20: (*consol/disk.Disk).Read -/
theorem ca20 : callable Try.prog 20 := ⟨Try.f20, Try.func20, by kernel_rfl, by kernel_rfl⟩
abbrev F20i : ShS := ⟨[(0, (.box 0 [] 0)), (1, (.dat (.int .i64))), (2, (.dat (.int .i64))), (3, (.dat (.int .i64)))], [(.box (.agg (.scons (.mp 1) (.scons (.own 2) (.scons (.mp 3) (.scons (.dat (.int .i64)) (.scons (.dat .bool) (.scons (.dat (.int .i64)) (.scons (.dat (.sl (.int .i64))) .snil))))))))), (.map (.int .i64) G62), (.arr G69), (.map G69 .bool)]⟩
abbrev F20o : ShS := ⟨[(0, (.tup (.scons (.dat .str) (.scons (.dat (.int .i64)) .snil))))], [(.box (.agg (.scons (.mp 1) (.scons (.own 2) (.scons (.mp 3) (.scons (.dat (.int .i64)) (.scons (.dat .bool) (.scons (.dat (.int .i64)) (.scons (.dat (.sl (.int .i64))) .snil))))))))), (.map (.int .i64) G62), (.arr G69), (.map G69 .bool)]⟩
noncomputable def E20 : Env := mkEnv2 Try.prog [] [c49i44]
theorem ok20 : EnvOk (E20) := mkEnv2_ok (by simp) (by simp only [List.mem_cons, List.not_mem_nil, or_false, forall_eq]; exact d49i44)
noncomputable def C20 : Cfg := noCfg
theorem lm20 : ∀ c, Try.f20.body = some c → LmOk (E20) (C20) Try.f20.ntmps c := fun _ _ => noCfg_lm
noncomputable def m20 (a0 : Int) (a1 : Int) (a2 : Int) (a3 : Int) (a4 : Bool) (a5 : Int) (a6 : (List Int)) (a7 : (List (Int × T62))) (a8 : (List T69)) (a9 : (List (T69 × Bool))) : Option F20o.ty :=
  bif a4 then
    some ((([], 8, ()), ()), (((), (), (), a3, a4, a5, a6, ()), a7, a8, a9, ()))
  else
    bif ((decide (a0 < 0)) || (decide (a0 ≥ 16))) then
      some ((([], 1, ()), ()), (((), (), (), a3, a4, a5, a6, ()), a7, a8, a9, ()))
    else
      bif ((decide (a1 < 0)) || (decide (a2 < 0))) then
        some ((([], 1, ()), ()), (((), (), (), a3, a4, a5, a6, ()), a7, a8, a9, ()))
      else
        asrt true (bounds true (List.length (Option.getD (mapAt (.int .i64) G62 a0 a7) (([] : (List UInt8)), ([] : (List UInt8)), ())).1) (bif decide ((List.length (Option.getD (mapAt (.int .i64) G62 a0 a7) (([] : (List UInt8)), ([] : (List UInt8)), ())).1 : Int) < a1) then (List.length (Option.getD (mapAt (.int .i64) G62 a0 a7) (([] : (List UInt8)), ([] : (List UInt8)), ())).1 : Int) else a1) (List.length (Option.getD (mapAt (.int .i64) G62 a0 a7) (([] : (List UInt8)), ([] : (List UInt8)), ())).1 : Int)) (
          asrt true (bounds true (List.length (subl (Option.getD (mapAt (.int .i64) G62 a0 a7) (([] : (List UInt8)), ([] : (List UInt8)), ())).1 (bif decide ((List.length (Option.getD (mapAt (.int .i64) G62 a0 a7) (([] : (List UInt8)), ([] : (List UInt8)), ())).1 : Int) < a1) then (List.length (Option.getD (mapAt (.int .i64) G62 a0 a7) (([] : (List UInt8)), ([] : (List UInt8)), ())).1 : Int) else a1) (List.length (Option.getD (mapAt (.int .i64) G62 a0 a7) (([] : (List UInt8)), ([] : (List UInt8)), ())).1 : Int))) 0 (bif decide ((List.length (subl (Option.getD (mapAt (.int .i64) G62 a0 a7) (([] : (List UInt8)), ([] : (List UInt8)), ())).1 (bif decide ((List.length (Option.getD (mapAt (.int .i64) G62 a0 a7) (([] : (List UInt8)), ([] : (List UInt8)), ())).1 : Int) < a1) then (List.length (Option.getD (mapAt (.int .i64) G62 a0 a7) (([] : (List UInt8)), ([] : (List UInt8)), ())).1 : Int) else a1) (List.length (Option.getD (mapAt (.int .i64) G62 a0 a7) (([] : (List UInt8)), ([] : (List UInt8)), ())).1 : Int)) : Int) < a2) then (List.length (subl (Option.getD (mapAt (.int .i64) G62 a0 a7) (([] : (List UInt8)), ([] : (List UInt8)), ())).1 (bif decide ((List.length (Option.getD (mapAt (.int .i64) G62 a0 a7) (([] : (List UInt8)), ([] : (List UInt8)), ())).1 : Int) < a1) then (List.length (Option.getD (mapAt (.int .i64) G62 a0 a7) (([] : (List UInt8)), ([] : (List UInt8)), ())).1 : Int) else a1) (List.length (Option.getD (mapAt (.int .i64) G62 a0 a7) (([] : (List UInt8)), ([] : (List UInt8)), ())).1 : Int)) : Int) else a2)) (
            some ((((subl (subl (Option.getD (mapAt (.int .i64) G62 a0 a7) (([] : (List UInt8)), ([] : (List UInt8)), ())).1 (bif decide ((List.length (Option.getD (mapAt (.int .i64) G62 a0 a7) (([] : (List UInt8)), ([] : (List UInt8)), ())).1 : Int) < a1) then (List.length (Option.getD (mapAt (.int .i64) G62 a0 a7) (([] : (List UInt8)), ([] : (List UInt8)), ())).1 : Int) else a1) (List.length (Option.getD (mapAt (.int .i64) G62 a0 a7) (([] : (List UInt8)), ([] : (List UInt8)), ())).1 : Int)) 0 (bif decide ((List.length (subl (Option.getD (mapAt (.int .i64) G62 a0 a7) (([] : (List UInt8)), ([] : (List UInt8)), ())).1 (bif decide ((List.length (Option.getD (mapAt (.int .i64) G62 a0 a7) (([] : (List UInt8)), ([] : (List UInt8)), ())).1 : Int) < a1) then (List.length (Option.getD (mapAt (.int .i64) G62 a0 a7) (([] : (List UInt8)), ([] : (List UInt8)), ())).1 : Int) else a1) (List.length (Option.getD (mapAt (.int .i64) G62 a0 a7) (([] : (List UInt8)), ([] : (List UInt8)), ())).1 : Int)) : Int) < a2) then (List.length (subl (Option.getD (mapAt (.int .i64) G62 a0 a7) (([] : (List UInt8)), ([] : (List UInt8)), ())).1 (bif decide ((List.length (Option.getD (mapAt (.int .i64) G62 a0 a7) (([] : (List UInt8)), ([] : (List UInt8)), ())).1 : Int) < a1) then (List.length (Option.getD (mapAt (.int .i64) G62 a0 a7) (([] : (List UInt8)), ([] : (List UInt8)), ())).1 : Int) else a1) (List.length (Option.getD (mapAt (.int .i64) G62 a0 a7) (([] : (List UInt8)), ([] : (List UInt8)), ())).1 : Int)) : Int) else a2)), 0, ()), ()), (((), (), (), a3, a4, a5, a6, ()), a7, a8, a9, ()))))
theorem q20 (x : F20i.ty) : execF E20 C20 Try.f20 ((F20i.enc x).regs.map (·.2)) (F20i.enc x).heap (retS [] [] 4 F20o) = m20 x.1.2.1 x.1.2.2.1 x.1.2.2.2.1 x.2.1.2.2.2.1 x.2.1.2.2.2.2.1 x.2.1.2.2.2.2.2.1 x.2.1.2.2.2.2.2.2.1 x.2.2.1 x.2.2.2.1 x.2.2.2.2.1 := by kernel_rfl
theorem R20 : CRun Try.prog 20 F20i F20o (fun x => m20 x.1.2.1 x.1.2.2.1 x.1.2.2.2.1 x.2.1.2.2.2.1 x.2.1.2.2.2.2.1 x.2.1.2.2.2.2.2.1 x.2.1.2.2.2.2.2.2.1 x.2.2.1 x.2.2.2.1 x.2.2.2.2.1) := st_run (E := E20) ok20 ord lm20 Try.func20 q20
noncomputable def c20 : CmE := stE 20 [(0, [6], (.sl (.int .i64)))] [(0, [1], G69)] F20i F20o (fun x => m20 x.1.2.1 x.1.2.2.1 x.1.2.2.2.1 x.2.1.2.2.2.1 x.2.1.2.2.2.2.1 x.2.1.2.2.2.2.2.1 x.2.1.2.2.2.2.2.2.1 x.2.2.1 x.2.2.2.1 x.2.2.2.2.1)
theorem d20 : CmOk Try.prog c20 := st_ok ca20 R20

/-! 8: consol/consollaw02.small -/
theorem ca14 : callable Try.prog 14 := ⟨Try.f14, Try.func14, by kernel_rfl, by kernel_rfl⟩
noncomputable def E8i14 : Env := mkEnv2 Try.prog [] []
theorem ok8i14 : EnvOk (E8i14) := mkEnv2_ok (by simp) (by simp)
noncomputable def C8i14 : Cfg := noCfg
theorem lm8i14 : ∀ c, Try.f14.body = some c → LmOk (E8i14) (C8i14) Try.f14.ntmps c := fun _ _ => noCfg_lm
noncomputable def c8i14 : CmE := inl E8i14 C8i14 14 Try.f14
theorem d8i14 : CmOk Try.prog c8i14 := inl_ok (E := E8i14) ok8i14 ord lm8i14 Try.func14 ca14

theorem ca16 : callable Try.prog 16 := ⟨Try.f16, Try.func16, by kernel_rfl, by kernel_rfl⟩
noncomputable def E8i16 : Env := mkEnv2 Try.prog [] []
theorem ok8i16 : EnvOk (E8i16) := mkEnv2_ok (by simp) (by simp)
noncomputable def C8i16 : Cfg := noCfg
theorem lm8i16 : ∀ c, Try.f16.body = some c → LmOk (E8i16) (C8i16) Try.f16.ntmps c := fun _ _ => noCfg_lm
noncomputable def c8i16 : CmE := inl E8i16 C8i16 16 Try.f16
theorem d8i16 : CmOk Try.prog c8i16 := inl_ok (E := E8i16) ok8i16 ord lm8i16 Try.func16 ca16

theorem ca26 : callable Try.prog 26 := ⟨Try.f26, Try.func26, by kernel_rfl, by kernel_rfl⟩
noncomputable def E8i26 : Env := mkEnv2 Try.prog [] []
theorem ok8i26 : EnvOk (E8i26) := mkEnv2_ok (by simp) (by simp)
noncomputable def C8i26 : Cfg := noCfg
theorem lm8i26 : ∀ c, Try.f26.body = some c → LmOk (E8i26) (C8i26) Try.f26.ntmps c := fun _ _ => noCfg_lm
noncomputable def c8i26 : CmE := inl E8i26 C8i26 26 Try.f26
theorem d8i26 : CmOk Try.prog c8i26 := inl_ok (E := E8i26) ok8i26 ord lm8i26 Try.func26 ca26

theorem ca8 : callable Try.prog 8 := ⟨Try.f8, Try.func8, by kernel_rfl, by kernel_rfl⟩
noncomputable def E8 : Env := mkEnv2 Try.prog [] [c10, c8i14, c8i16, c18, c19, c20, c25, c8i26, c29]
theorem ok8 : EnvOk (E8) := mkEnv2_ok (by simp) (by simp only [List.mem_cons, List.not_mem_nil, or_false, forall_eq_or_imp, forall_eq]; exact ⟨d10, d8i14, d8i16, d18, d19, d20, d25, d8i26, d29⟩)
noncomputable def C8 : Cfg := noCfg
theorem lm8 : ∀ c, Try.f8.body = some c → LmOk (E8) (C8) Try.f8.ntmps c := fun _ _ => noCfg_lm
noncomputable def m8  : Option (Bool) :=
  (m10).bind fun r1 =>
  (m29 0 0 [97, 98, 99] r1.2.1.2.2.2.1 r1.2.1.2.2.2.2.1 r1.2.1.2.2.2.2.2.1 r1.2.1.2.2.2.2.2.2.1 r1.2.2.1 r1.2.2.2.1 r1.2.2.2.2.1).bind fun r2 =>
  (m19 0 r2.2.1.2.2.2.1 r2.2.1.2.2.2.2.1 r2.2.1.2.2.2.2.2.1 r2.2.1.2.2.2.2.2.2.1 r2.2.2.1 r2.2.2.2.2.2.1 r2.2.2.2.2.2.2.1).bind fun r3 =>
  (m29 0 1 [88, 89] r3.2.1.2.2.2.1 r3.2.1.2.2.2.2.1 r3.2.1.2.2.2.2.2.1 r3.2.1.2.2.2.2.2.2.1 r3.2.2.1 r3.2.2.2.2.2.1 r3.2.2.2.2.2.2.1).bind fun r4 =>
  (m18 r4.2.1.2.2.2.1 r4.2.1.2.2.2.2.1 r4.2.1.2.2.2.2.2.1 r4.2.1.2.2.2.2.2.2.1 r4.2.2.1 r4.2.2.2.2.2.1 r4.2.2.2.2.2.2.1).bind fun r5 =>
  (m25 [1] r5.2.1.2.2.2.1 r5.2.1.2.2.2.2.1 r5.2.1.2.2.2.2.2.1 r5.2.1.2.2.2.2.2.2.1 r5.2.2.1 r5.2.2.2.1 r5.2.2.2.2.1).bind fun r6 =>
  (m20 0 0 9 r6.2.1.2.2.2.1 r6.2.1.2.2.2.2.1 r6.2.1.2.2.2.2.2.1 r6.2.1.2.2.2.2.2.2.1 r6.2.2.1 r6.2.2.2.2.2.1 r6.2.2.2.2.2.2.1).bind fun r7 =>
  (m20 0 0 9 r7.2.1.2.2.2.1 false r7.2.1.2.2.2.2.2.1 r7.2.1.2.2.2.2.2.2.1 r7.2.2.1 r7.2.2.2.1 r7.2.2.2.2.1).bind fun r8 =>
  (m25 [0] r5.2.2.2.2.2.1.2.2.2.1 r5.2.2.2.2.2.1.2.2.2.2.1 r5.2.2.2.2.2.1.2.2.2.2.2.1 r5.2.2.2.2.2.1.2.2.2.2.2.2.1 r5.2.2.2.2.2.2.1 r5.2.2.2.2.2.2.2.1 r5.2.2.2.2.2.2.2.2.1).bind fun r9 =>
  (m20 0 1 9 r9.2.1.2.2.2.1 false r9.2.1.2.2.2.2.2.1 r9.2.1.2.2.2.2.2.2.1 r9.2.2.1 r9.2.2.2.2.2.1 r9.2.2.2.2.2.2.1).bind fun r10 =>
  (m29 1 62 [97, 98, 99, 100] r10.2.1.2.2.2.1 r10.2.1.2.2.2.2.1 r10.2.1.2.2.2.2.2.1 r10.2.1.2.2.2.2.2.2.1 r10.2.2.1 r10.2.2.2.1 r10.2.2.2.2.1).bind fun r11 =>
  (m25 [0, 1] r11.2.1.2.2.2.1 r11.2.1.2.2.2.2.1 r11.2.1.2.2.2.2.2.1 r11.2.1.2.2.2.2.2.2.1 r11.2.2.1 r11.2.2.2.2.2.1 r11.2.2.2.2.2.2.1).bind fun r12 =>
  (m20 1 60 100 r12.2.1.2.2.2.1 false r12.2.1.2.2.2.2.2.1 r12.2.1.2.2.2.2.2.2.1 r12.2.2.1 r12.2.2.2.2.2.1 r12.2.2.2.2.2.2.1).bind fun r13 =>
  bif ((((((((((((r2.1.1 == 0) && (r3.1.1 == 0)) && r6.2.1.2.2.2.2.1) && (r7.1.1.2.1 == 8)) && (r8.1.1.1 == ([97, 88, 89] : List UInt8))) && (r8.1.1.2.1 == 0)) && (r10.1.1.1 == ([98, 99] : List UInt8))) && (r10.1.1.2.1 == 0)) && (r11.1.1 == 0)) && (r13.1.1.1 == ([0, 0, 0, 0, 99, 100] : List UInt8))) && (r13.1.1.2.1 == 0)) == true) then
    bif (((((((((((((r2.1.1 == 0) && (r3.1.1 == 0)) && r6.2.1.2.2.2.2.1) && (r7.1.1.2.1 == 8)) && (r8.1.1.1 == ([97, 88, 89] : List UInt8))) && (r8.1.1.2.1 == 0)) && (r10.1.1.1 == ([98, 99] : List UInt8))) && (r10.1.1.2.1 == 0)) && (r11.1.1 == 0)) && (r13.1.1.1 == ([0, 0, 0, 0, 99, 100] : List UInt8))) && (r13.1.1.2.1 == 0)) && ((List.length (Option.getD (mapAt (.int .i64) G62 1 r13.2.2.1) (([] : (List UInt8)), ([] : (List UInt8)), ())).1 : Int) == 66)) == true) then
      (m29 16 0 [] r13.2.1.2.2.2.1 r13.2.1.2.2.2.2.1 r13.2.1.2.2.2.2.2.1 r13.2.1.2.2.2.2.2.2.1 r13.2.2.1 r13.2.2.2.1 r13.2.2.2.2.1).bind fun r14 =>
      bif ((((((((((((((r2.1.1 == 0) && (r3.1.1 == 0)) && r6.2.1.2.2.2.2.1) && (r7.1.1.2.1 == 8)) && (r8.1.1.1 == ([97, 88, 89] : List UInt8))) && (r8.1.1.2.1 == 0)) && (r10.1.1.1 == ([98, 99] : List UInt8))) && (r10.1.1.2.1 == 0)) && (r11.1.1 == 0)) && (r13.1.1.1 == ([0, 0, 0, 0, 99, 100] : List UInt8))) && (r13.1.1.2.1 == 0)) && ((List.length (Option.getD (mapAt (.int .i64) G62 1 r13.2.2.1) (([] : (List UInt8)), ([] : (List UInt8)), ())).1 : Int) == 66)) && (r14.1.1 == 1)) == true) then
        (m29 1 16777216 [97] r14.2.1.2.2.2.1 r14.2.1.2.2.2.2.1 r14.2.1.2.2.2.2.2.1 r14.2.1.2.2.2.2.2.2.1 r14.2.2.1 r14.2.2.2.2.2.1 r14.2.2.2.2.2.2.1).bind fun r15 =>
        some ((((((((((((((r2.1.1 == 0) && (r3.1.1 == 0)) && r6.2.1.2.2.2.2.1) && (r7.1.1.2.1 == 8)) && (r8.1.1.1 == ([97, 88, 89] : List UInt8))) && (r8.1.1.2.1 == 0)) && (r10.1.1.1 == ([98, 99] : List UInt8))) && (r10.1.1.2.1 == 0)) && (r11.1.1 == 0)) && (r13.1.1.1 == ([0, 0, 0, 0, 99, 100] : List UInt8))) && (r13.1.1.2.1 == 0)) && ((List.length (Option.getD (mapAt (.int .i64) G62 1 r13.2.2.1) (([] : (List UInt8)), ([] : (List UInt8)), ())).1 : Int) == 66)) && (r14.1.1 == 1)) && (r15.1.1 == 6))
      else
        some ((((((((((((((r2.1.1 == 0) && (r3.1.1 == 0)) && r6.2.1.2.2.2.2.1) && (r7.1.1.2.1 == 8)) && (r8.1.1.1 == ([97, 88, 89] : List UInt8))) && (r8.1.1.2.1 == 0)) && (r10.1.1.1 == ([98, 99] : List UInt8))) && (r10.1.1.2.1 == 0)) && (r11.1.1 == 0)) && (r13.1.1.1 == ([0, 0, 0, 0, 99, 100] : List UInt8))) && (r13.1.1.2.1 == 0)) && ((List.length (Option.getD (mapAt (.int .i64) G62 1 r13.2.2.1) (([] : (List UInt8)), ([] : (List UInt8)), ())).1 : Int) == 66)) && (r14.1.1 == 1)) && false)
    else
      bif ((((((((((((((r2.1.1 == 0) && (r3.1.1 == 0)) && r6.2.1.2.2.2.2.1) && (r7.1.1.2.1 == 8)) && (r8.1.1.1 == ([97, 88, 89] : List UInt8))) && (r8.1.1.2.1 == 0)) && (r10.1.1.1 == ([98, 99] : List UInt8))) && (r10.1.1.2.1 == 0)) && (r11.1.1 == 0)) && (r13.1.1.1 == ([0, 0, 0, 0, 99, 100] : List UInt8))) && (r13.1.1.2.1 == 0)) && ((List.length (Option.getD (mapAt (.int .i64) G62 1 r13.2.2.1) (([] : (List UInt8)), ([] : (List UInt8)), ())).1 : Int) == 66)) && false) == true) then
        (m29 1 16777216 [97] r13.2.1.2.2.2.1 r13.2.1.2.2.2.2.1 r13.2.1.2.2.2.2.2.1 r13.2.1.2.2.2.2.2.2.1 r13.2.2.1 r13.2.2.2.1 r13.2.2.2.2.1).bind fun r16 =>
        some ((((((((((((((r2.1.1 == 0) && (r3.1.1 == 0)) && r6.2.1.2.2.2.2.1) && (r7.1.1.2.1 == 8)) && (r8.1.1.1 == ([97, 88, 89] : List UInt8))) && (r8.1.1.2.1 == 0)) && (r10.1.1.1 == ([98, 99] : List UInt8))) && (r10.1.1.2.1 == 0)) && (r11.1.1 == 0)) && (r13.1.1.1 == ([0, 0, 0, 0, 99, 100] : List UInt8))) && (r13.1.1.2.1 == 0)) && ((List.length (Option.getD (mapAt (.int .i64) G62 1 r13.2.2.1) (([] : (List UInt8)), ([] : (List UInt8)), ())).1 : Int) == 66)) && false) && (r16.1.1 == 6))
      else
        some ((((((((((((((r2.1.1 == 0) && (r3.1.1 == 0)) && r6.2.1.2.2.2.2.1) && (r7.1.1.2.1 == 8)) && (r8.1.1.1 == ([97, 88, 89] : List UInt8))) && (r8.1.1.2.1 == 0)) && (r10.1.1.1 == ([98, 99] : List UInt8))) && (r10.1.1.2.1 == 0)) && (r11.1.1 == 0)) && (r13.1.1.1 == ([0, 0, 0, 0, 99, 100] : List UInt8))) && (r13.1.1.2.1 == 0)) && ((List.length (Option.getD (mapAt (.int .i64) G62 1 r13.2.2.1) (([] : (List UInt8)), ([] : (List UInt8)), ())).1 : Int) == 66)) && false) && false)
  else
    bif (((((((((((((r2.1.1 == 0) && (r3.1.1 == 0)) && r6.2.1.2.2.2.2.1) && (r7.1.1.2.1 == 8)) && (r8.1.1.1 == ([97, 88, 89] : List UInt8))) && (r8.1.1.2.1 == 0)) && (r10.1.1.1 == ([98, 99] : List UInt8))) && (r10.1.1.2.1 == 0)) && (r11.1.1 == 0)) && (r13.1.1.1 == ([0, 0, 0, 0, 99, 100] : List UInt8))) && (r13.1.1.2.1 == 0)) && false) == true) then
      (m29 16 0 [] r13.2.1.2.2.2.1 r13.2.1.2.2.2.2.1 r13.2.1.2.2.2.2.2.1 r13.2.1.2.2.2.2.2.2.1 r13.2.2.1 r13.2.2.2.1 r13.2.2.2.2.1).bind fun r17 =>
      bif ((((((((((((((r2.1.1 == 0) && (r3.1.1 == 0)) && r6.2.1.2.2.2.2.1) && (r7.1.1.2.1 == 8)) && (r8.1.1.1 == ([97, 88, 89] : List UInt8))) && (r8.1.1.2.1 == 0)) && (r10.1.1.1 == ([98, 99] : List UInt8))) && (r10.1.1.2.1 == 0)) && (r11.1.1 == 0)) && (r13.1.1.1 == ([0, 0, 0, 0, 99, 100] : List UInt8))) && (r13.1.1.2.1 == 0)) && false) && (r17.1.1 == 1)) == true) then
        (m29 1 16777216 [97] r17.2.1.2.2.2.1 r17.2.1.2.2.2.2.1 r17.2.1.2.2.2.2.2.1 r17.2.1.2.2.2.2.2.2.1 r17.2.2.1 r17.2.2.2.2.2.1 r17.2.2.2.2.2.2.1).bind fun r18 =>
        some ((((((((((((((r2.1.1 == 0) && (r3.1.1 == 0)) && r6.2.1.2.2.2.2.1) && (r7.1.1.2.1 == 8)) && (r8.1.1.1 == ([97, 88, 89] : List UInt8))) && (r8.1.1.2.1 == 0)) && (r10.1.1.1 == ([98, 99] : List UInt8))) && (r10.1.1.2.1 == 0)) && (r11.1.1 == 0)) && (r13.1.1.1 == ([0, 0, 0, 0, 99, 100] : List UInt8))) && (r13.1.1.2.1 == 0)) && false) && (r17.1.1 == 1)) && (r18.1.1 == 6))
      else
        some ((((((((((((((r2.1.1 == 0) && (r3.1.1 == 0)) && r6.2.1.2.2.2.2.1) && (r7.1.1.2.1 == 8)) && (r8.1.1.1 == ([97, 88, 89] : List UInt8))) && (r8.1.1.2.1 == 0)) && (r10.1.1.1 == ([98, 99] : List UInt8))) && (r10.1.1.2.1 == 0)) && (r11.1.1 == 0)) && (r13.1.1.1 == ([0, 0, 0, 0, 99, 100] : List UInt8))) && (r13.1.1.2.1 == 0)) && false) && (r17.1.1 == 1)) && false)
    else
      bif ((((((((((((((r2.1.1 == 0) && (r3.1.1 == 0)) && r6.2.1.2.2.2.2.1) && (r7.1.1.2.1 == 8)) && (r8.1.1.1 == ([97, 88, 89] : List UInt8))) && (r8.1.1.2.1 == 0)) && (r10.1.1.1 == ([98, 99] : List UInt8))) && (r10.1.1.2.1 == 0)) && (r11.1.1 == 0)) && (r13.1.1.1 == ([0, 0, 0, 0, 99, 100] : List UInt8))) && (r13.1.1.2.1 == 0)) && false) && false) == true) then
        (m29 1 16777216 [97] r13.2.1.2.2.2.1 r13.2.1.2.2.2.2.1 r13.2.1.2.2.2.2.2.1 r13.2.1.2.2.2.2.2.2.1 r13.2.2.1 r13.2.2.2.1 r13.2.2.2.2.1).bind fun r19 =>
        some ((((((((((((((r2.1.1 == 0) && (r3.1.1 == 0)) && r6.2.1.2.2.2.2.1) && (r7.1.1.2.1 == 8)) && (r8.1.1.1 == ([97, 88, 89] : List UInt8))) && (r8.1.1.2.1 == 0)) && (r10.1.1.1 == ([98, 99] : List UInt8))) && (r10.1.1.2.1 == 0)) && (r11.1.1 == 0)) && (r13.1.1.1 == ([0, 0, 0, 0, 99, 100] : List UInt8))) && (r13.1.1.2.1 == 0)) && false) && false) && (r19.1.1 == 6))
      else
        some ((((((((((((((r2.1.1 == 0) && (r3.1.1 == 0)) && r6.2.1.2.2.2.2.1) && (r7.1.1.2.1 == 8)) && (r8.1.1.1 == ([97, 88, 89] : List UInt8))) && (r8.1.1.2.1 == 0)) && (r10.1.1.1 == ([98, 99] : List UInt8))) && (r10.1.1.2.1 == 0)) && (r11.1.1 == 0)) && (r13.1.1.1 == ([0, 0, 0, 0, 99, 100] : List UInt8))) && (r13.1.1.2.1 == 0)) && false) && false) && false)
noncomputable def e8 : PmE := entry 8 [] false .bool (fun x => m8 )
theorem q8 (x : tyL []) : execF E8 C8 Try.f8 (datL [] x) [] (retK false .bool) = m8  := by kernel_rfl
theorem p8 : PmOk Try.prog e8 := pm_ok (E := E8) ok8 ord lm8 Try.func8 ca8 q8

/-! 9: consol/consollaw02.few -/
theorem ca9 : callable Try.prog 9 := ⟨Try.f9, Try.func9, by kernel_rfl, by kernel_rfl⟩
noncomputable def E9 : Env := mkEnv2 Try.prog [] []
theorem ok9 : EnvOk (E9) := mkEnv2_ok (by simp) (by simp)
/-- a round of a loop of consol/consollaw02.few -/
noncomputable def s9_1 {R : Type} (t0 : (List T32)) (kn : Int → Option R) (k1 : Option R) (k2 : Option R) (t3 : Int) : Option R :=
  bif (decide (t3 < (List.length t0 : Int))) then
    (idx t0 t3).bind fun x1 =>
    (idxG ((decide ((List.length x1.2.2.2.1 : Int) > 300)) == false) (0, 0, 0, ([] : (List UInt8)), ([] : (List Int)), ()) t0 t3).bind fun x2 =>
    (idxG (((decide ((List.length x1.2.2.2.1 : Int) > 300)) || (decide ((List.length x2.2.2.2.2.1 : Int) > 60))) == false) (0, 0, 0, ([] : (List UInt8)), ([] : (List Int)), ()) t0 t3).bind fun x3 =>
    (idxG ((((decide ((List.length x1.2.2.2.1 : Int) > 300)) || (decide ((List.length x2.2.2.2.2.1 : Int) > 60))) == false) && ((decide (x3.2.2.1 > 3000)) == true)) (0, 0, 0, ([] : (List UInt8)), ([] : (List Int)), ()) t0 t3).bind fun x4 =>
    bif (((decide ((List.length x1.2.2.2.1 : Int) > 300)) || (decide ((List.length x2.2.2.2.2.1 : Int) > 60))) || ((decide (x3.2.2.1 > 3000)) && (decide (x4.2.2.1 < 16776916)))) then
      k2
    else
      kn (IntKind.i64.wrap (t3 + 1))
  else
    k1
noncomputable def l9_1 {R : Type} (t0 : (List T32)) (k1 : Option R) (k2 : Option R) : Nat → Int → Option R
  | 0, _ => none
  | n + 1, t3 => s9_1 t0 (l9_1 t0 k1 k2 n) k1 k2 t3
noncomputable def L9_1 : LE := ⟨3, 0, ⟨[(0, (.dat (.sl G32))), (3, (.dat (.int .i64)))], []⟩, fun R n x k => l9_1 x.1.1 (k (.exit 0) ⟨[(0, (.dat (.sl G32) x.1.1))], []⟩) (k .ret ⟨[(2, (.dat .bool false))], []⟩) n x.1.2.1⟩
noncomputable def C9 : Cfg := mkCfg [(3, ⟨[0, 3], [], []⟩)] [(3, (⟨[0], [], []⟩, ⟨[2], [], []⟩))] (([(0, L9_1)] : List (Nat × LE)).map (·.2))
theorem ek9_1 : EOk (E9) (C9) Try.f9.ntmps (bodyL Try.f9 0) (L9_1) := eok_of (e := L9_1) (fun R x Kn k => s9_1 x.1.1 (fun v0 => Kn ((x.1.1, v0, ()), (()))) (k (.exit 0) ⟨[(0, (.dat (.sl G32) x.1.1))], []⟩) (k .ret ⟨[(2, (.dat .bool false))], []⟩) x.1.2.1) (fun _ _ _ => rfl) (fun _ _ _ _ => rfl) (fun R x Kn k => by kernel_rfl)
theorem lm9 : ∀ c, Try.f9.body = some c → LmOk (E9) (C9) Try.f9.ntmps c := lmOk_of (ps := [(0, L9_1)]) (by kernel_rfl) (by kernel_rfl) ⟨ek9_1, trivial⟩
noncomputable def m9 (a0 : (List T32)) : Option (Bool) :=
  l9_1 a0 (
      some (decide ((List.length a0 : Int) ≤ 40))) (
      some false) FUEL 0
noncomputable def e9 : PmE := entry 9 [(.sl G32)] false .bool (fun x => m9 x.1)
theorem q9 (x : tyL [(.sl G32)]) : execF E9 C9 Try.f9 (datL [(.sl G32)] x) [] (retK false .bool) = m9 x.1 := by kernel_rfl
theorem p9 : PmOk Try.prog e9 := pm_ok (E := E9) ok9 ord lm9 Try.func9 ca9 q9

/-! 11: consol/consolref02.New -/
theorem ca11 : callable Try.prog 11 := ⟨Try.f11, Try.func11, by kernel_rfl, by kernel_rfl⟩
abbrev F11i : ShS := ⟨[], []⟩
abbrev F11o : ShS := ⟨[(0, (.box 0 [] 0))], [(.box (.agg (.scons (.own 1) (.scons (.own 2) (.scons (.dat (.int .i64)) (.scons (.dat .bool) (.scons (.dat (.int .i64)) (.scons (.dat (.sl (.int .i64))) .snil)))))))), (.arr G64), (.arr G69)]⟩
noncomputable def E11 : Env := mkEnv2 Try.prog [] []
theorem ok11 : EnvOk (E11) := mkEnv2_ok (by simp) (by simp)
noncomputable def C11 : Cfg := noCfg
theorem lm11 : ∀ c, Try.f11.body = some c → LmOk (E11) (C11) Try.f11.ntmps c := fun _ _ => noCfg_lm
noncomputable def m11  : Option F11o.ty :=
  some (((), ()), (((), (), 0, false, 0, [], ()), [], [], ()))
theorem q11 (x : F11i.ty) : execF E11 C11 Try.f11 ((F11i.enc x).regs.map (·.2)) (F11i.enc x).heap (retS [(0, [5], (.sl (.int .i64)))] [(0, [0], G64), (0, [1], G69)] 0 F11o) = m11  := by kernel_rfl
theorem R11 : CRun Try.prog 11 F11i F11o (fun x => m11 ) := st_run (E := E11) ok11 ord lm11 Try.func11 q11
noncomputable def c11 : CmE := stE 11 [] [] F11i F11o (fun x => m11 )
theorem d11 : CmOk Try.prog c11 := st_ok ca11 R11

/-! 30: (*consol/disk.Disk).Truncate -/
theorem ca30 : callable Try.prog 30 := ⟨Try.f30, Try.func30, by kernel_rfl, by kernel_rfl⟩
abbrev F30i : ShS := ⟨[(0, (.box 0 [] 0)), (1, (.dat (.int .i64))), (2, (.dat (.int .i64)))], [(.box (.agg (.scons (.mp 1) (.scons (.own 2) (.scons (.mp 3) (.scons (.dat (.int .i64)) (.scons (.dat .bool) (.scons (.dat (.int .i64)) (.scons (.dat (.sl (.int .i64))) .snil))))))))), (.map (.int .i64) G62), (.arr G69), (.map G69 .bool)]⟩
abbrev F30o : ShS := ⟨[(0, (.dat (.int .i64)))], [(.box (.agg (.scons (.mp 1) (.scons (.own 4) (.scons (.mp 5) (.scons (.dat (.int .i64)) (.scons (.dat .bool) (.scons (.dat (.int .i64)) (.scons (.dat (.sl (.int .i64))) .snil))))))))), (.map (.int .i64) G62), .dead, .dead, (.arr G69), (.map G69 .bool)]⟩
noncomputable def E30 : Env := mkEnv2 Try.prog [] [c8i16, c25, c29i43, c49i44, c45] [39]
theorem ok30 : EnvOk (E30) := mkEnv2_ok (by simp) (by simp only [List.mem_cons, List.not_mem_nil, or_false, forall_eq_or_imp, forall_eq]; exact ⟨d8i16, d25, d29i43, d49i44, d45⟩)
noncomputable def C30 : Cfg := mkCfg [(4, ⟨[0, 1, 2], [], [(0, [1], (.cons .nil .opq))]⟩)] [] (([] : List (Nat × LE)).map (·.2))
theorem lm30 : ∀ c, Try.f30.body = some c → LmOk (E30) (C30) Try.f30.ntmps c := lmOk_of (ps := []) (by kernel_rfl) (by kernel_rfl) trivial
noncomputable def m30 (a0 : Int) (a1 : Int) (a2 : Int) (a3 : Bool) (a4 : Int) (a5 : (List Int)) (a6 : (List (Int × T62))) (a7 : (List T69)) (a8 : (List (T69 × Bool))) : Option F30o.ty :=
  bif (a3 || (a4 == 0)) then
    bif a3 then
      some ((8, ()), (((), (), (), a2, a3, a4, a5, ()), a6, (), (), a7, a8, ()))
    else
      bif ((decide (a0 < 0)) || (decide (a0 ≥ 16))) then
        some ((1, ()), (((), (), (), a2, a3, a4, a5, ()), a6, (), (), a7, a8, ()))
      else
        bif ((decide (a1 < 0)) == false) then
          bif ((decide (a1 < 0)) || (decide (a1 > (List.length (Option.getD (mapAt (.int .i64) G62 a0 a6) (([] : (List UInt8)), ([] : (List UInt8)), ())).1 : Int)))) then
            some ((1, ()), (((), (), (), a2, a3, a4, a5, ()), a6, (), (), a7, a8, ()))
          else
            asrt true (bounds true (List.length (Option.getD (mapAt (.int .i64) G62 a0 a6) (([] : (List UInt8)), ([] : (List UInt8)), ())).1) 0 a1) (
              (m45 a0 (subl (Option.getD (mapAt (.int .i64) G62 a0 a6) (([] : (List UInt8)), ([] : (List UInt8)), ())).1 0 a1) a2 a3 a4 a5 a6 a7 a8).bind fun r2 =>
              some ((0, ()), (((), (), (), r2.2.1.2.2.2.1, r2.2.1.2.2.2.2.1, r2.2.1.2.2.2.2.2.1, r2.2.1.2.2.2.2.2.2.1, ()), r2.2.2.1, (), (), r2.2.2.2.2.2.1, r2.2.2.2.2.2.2.1, ())))
        else
          bif ((decide (a1 < 0)) || (decide (a1 > 0))) then
            some ((1, ()), (((), (), (), a2, a3, a4, a5, ()), a6, (), (), a7, a8, ()))
          else
            asrt true (bounds true (List.length (Option.getD (mapAt (.int .i64) G62 a0 a6) (([] : (List UInt8)), ([] : (List UInt8)), ())).1) 0 a1) (
              (m45 a0 (subl (Option.getD (mapAt (.int .i64) G62 a0 a6) (([] : (List UInt8)), ([] : (List UInt8)), ())).1 0 a1) a2 a3 a4 a5 a6 a7 a8).bind fun r3 =>
              some ((0, ()), (((), (), (), r3.2.1.2.2.2.1, r3.2.1.2.2.2.2.1, r3.2.1.2.2.2.2.2.1, r3.2.1.2.2.2.2.2.2.1, ()), r3.2.2.1, (), (), r3.2.2.2.2.2.1, r3.2.2.2.2.2.2.1, ())))
  else
    bif ((IntKind.i64.wrap (a4 - 1)) == 0) then
      (m25 a5 a2 a3 (IntKind.i64.wrap (a4 - 1)) a5 a6 a7 a8).bind fun r1 =>
      bif r1.2.1.2.2.2.2.1 then
        some ((8, ()), (((), (), (), r1.2.1.2.2.2.1, r1.2.1.2.2.2.2.1, r1.2.1.2.2.2.2.2.1, r1.2.1.2.2.2.2.2.2.1, ()), r1.2.2.1, (), (), r1.2.2.2.2.2.1, r1.2.2.2.2.2.2.1, ()))
      else
        bif ((decide (a0 < 0)) || (decide (a0 ≥ 16))) then
          some ((1, ()), (((), (), (), r1.2.1.2.2.2.1, r1.2.1.2.2.2.2.1, r1.2.1.2.2.2.2.2.1, r1.2.1.2.2.2.2.2.2.1, ()), r1.2.2.1, (), (), r1.2.2.2.2.2.1, r1.2.2.2.2.2.2.1, ()))
        else
          bif ((decide (a1 < 0)) == false) then
            bif ((decide (a1 < 0)) || (decide (a1 > (List.length (Option.getD (mapAt (.int .i64) G62 a0 r1.2.2.1) (([] : (List UInt8)), ([] : (List UInt8)), ())).1 : Int)))) then
              some ((1, ()), (((), (), (), r1.2.1.2.2.2.1, r1.2.1.2.2.2.2.1, r1.2.1.2.2.2.2.2.1, r1.2.1.2.2.2.2.2.2.1, ()), r1.2.2.1, (), (), r1.2.2.2.2.2.1, r1.2.2.2.2.2.2.1, ()))
            else
              asrt true (bounds true (List.length (Option.getD (mapAt (.int .i64) G62 a0 r1.2.2.1) (([] : (List UInt8)), ([] : (List UInt8)), ())).1) 0 a1) (
                (m45 a0 (subl (Option.getD (mapAt (.int .i64) G62 a0 r1.2.2.1) (([] : (List UInt8)), ([] : (List UInt8)), ())).1 0 a1) r1.2.1.2.2.2.1 r1.2.1.2.2.2.2.1 r1.2.1.2.2.2.2.2.1 r1.2.1.2.2.2.2.2.2.1 r1.2.2.1 r1.2.2.2.2.2.1 r1.2.2.2.2.2.2.1).bind fun r4 =>
                some ((0, ()), (((), (), (), r4.2.1.2.2.2.1, r4.2.1.2.2.2.2.1, r4.2.1.2.2.2.2.2.1, r4.2.1.2.2.2.2.2.2.1, ()), r4.2.2.1, (), (), r4.2.2.2.2.2.1, r4.2.2.2.2.2.2.1, ())))
          else
            bif ((decide (a1 < 0)) || (decide (a1 > 0))) then
              some ((1, ()), (((), (), (), r1.2.1.2.2.2.1, r1.2.1.2.2.2.2.1, r1.2.1.2.2.2.2.2.1, r1.2.1.2.2.2.2.2.2.1, ()), r1.2.2.1, (), (), r1.2.2.2.2.2.1, r1.2.2.2.2.2.2.1, ()))
            else
              asrt true (bounds true (List.length (Option.getD (mapAt (.int .i64) G62 a0 r1.2.2.1) (([] : (List UInt8)), ([] : (List UInt8)), ())).1) 0 a1) (
                (m45 a0 (subl (Option.getD (mapAt (.int .i64) G62 a0 r1.2.2.1) (([] : (List UInt8)), ([] : (List UInt8)), ())).1 0 a1) r1.2.1.2.2.2.1 r1.2.1.2.2.2.2.1 r1.2.1.2.2.2.2.2.1 r1.2.1.2.2.2.2.2.2.1 r1.2.2.1 r1.2.2.2.2.2.1 r1.2.2.2.2.2.2.1).bind fun r5 =>
                some ((0, ()), (((), (), (), r5.2.1.2.2.2.1, r5.2.1.2.2.2.2.1, r5.2.1.2.2.2.2.2.1, r5.2.1.2.2.2.2.2.2.1, ()), r5.2.2.1, (), (), r5.2.2.2.2.2.1, r5.2.2.2.2.2.2.1, ())))
    else
      bif a3 then
        some ((8, ()), (((), (), (), a2, a3, (IntKind.i64.wrap (a4 - 1)), a5, ()), a6, (), (), a7, a8, ()))
      else
        bif ((decide (a0 < 0)) || (decide (a0 ≥ 16))) then
          some ((1, ()), (((), (), (), a2, a3, (IntKind.i64.wrap (a4 - 1)), a5, ()), a6, (), (), a7, a8, ()))
        else
          bif ((decide (a1 < 0)) == false) then
            bif ((decide (a1 < 0)) || (decide (a1 > (List.length (Option.getD (mapAt (.int .i64) G62 a0 a6) (([] : (List UInt8)), ([] : (List UInt8)), ())).1 : Int)))) then
              some ((1, ()), (((), (), (), a2, a3, (IntKind.i64.wrap (a4 - 1)), a5, ()), a6, (), (), a7, a8, ()))
            else
              asrt true (bounds true (List.length (Option.getD (mapAt (.int .i64) G62 a0 a6) (([] : (List UInt8)), ([] : (List UInt8)), ())).1) 0 a1) (
                (m45 a0 (subl (Option.getD (mapAt (.int .i64) G62 a0 a6) (([] : (List UInt8)), ([] : (List UInt8)), ())).1 0 a1) a2 a3 (IntKind.i64.wrap (a4 - 1)) a5 a6 a7 a8).bind fun r6 =>
                some ((0, ()), (((), (), (), r6.2.1.2.2.2.1, r6.2.1.2.2.2.2.1, r6.2.1.2.2.2.2.2.1, r6.2.1.2.2.2.2.2.2.1, ()), r6.2.2.1, (), (), r6.2.2.2.2.2.1, r6.2.2.2.2.2.2.1, ())))
          else
            bif ((decide (a1 < 0)) || (decide (a1 > 0))) then
              some ((1, ()), (((), (), (), a2, a3, (IntKind.i64.wrap (a4 - 1)), a5, ()), a6, (), (), a7, a8, ()))
            else
              asrt true (bounds true (List.length (Option.getD (mapAt (.int .i64) G62 a0 a6) (([] : (List UInt8)), ([] : (List UInt8)), ())).1) 0 a1) (
                (m45 a0 (subl (Option.getD (mapAt (.int .i64) G62 a0 a6) (([] : (List UInt8)), ([] : (List UInt8)), ())).1 0 a1) a2 a3 (IntKind.i64.wrap (a4 - 1)) a5 a6 a7 a8).bind fun r7 =>
                some ((0, ()), (((), (), (), r7.2.1.2.2.2.1, r7.2.1.2.2.2.2.1, r7.2.1.2.2.2.2.2.1, r7.2.1.2.2.2.2.2.2.1, ()), r7.2.2.1, (), (), r7.2.2.2.2.2.1, r7.2.2.2.2.2.2.1, ())))
theorem q30 (x : F30i.ty) : execF E30 C30 Try.f30 ((F30i.enc x).regs.map (·.2)) (F30i.enc x).heap (retB [(1, [6], (.sl (.int .i64))), (1, [1], (.cons .nil .opq)), (1, [2], (.cons .nil .opq)), (1, [2], (.cons .bool .opq)), (1, [3], (.cons .bool .opq))] [(1, [1], G69)] 4 F30o) = m30 x.1.2.1 x.1.2.2.1 x.2.1.2.2.2.1 x.2.1.2.2.2.2.1 x.2.1.2.2.2.2.2.1 x.2.1.2.2.2.2.2.2.1 x.2.2.1 x.2.2.2.1 x.2.2.2.2.1 := by kernel_rfl
theorem R30 : CRun Try.prog 30 F30i F30o (fun x => m30 x.1.2.1 x.1.2.2.1 x.2.1.2.2.2.1 x.2.1.2.2.2.2.1 x.2.1.2.2.2.2.2.1 x.2.1.2.2.2.2.2.2.1 x.2.2.1 x.2.2.2.1 x.2.2.2.2.1) := st_runB (E := E30) ok30 ord lm30 Try.func30 rfl q30
noncomputable def c30 : CmE := stE 30 [(0, [6], (.sl (.int .i64)))] [(0, [1], G69)] F30i F30o (fun x => m30 x.1.2.1 x.1.2.2.1 x.2.1.2.2.2.1 x.2.1.2.2.2.2.1 x.2.1.2.2.2.2.2.1 x.2.1.2.2.2.2.2.2.1 x.2.2.1 x.2.2.2.1 x.2.2.2.2.1)
theorem d30 : CmOk Try.prog c30 := st_ok ca30 R30

theorem ca48 : callable Try.prog 48 := ⟨Try.f48, Try.func48, by kernel_rfl, by kernel_rfl⟩
/-! 48: slices.Clone[[]int,int] -/
noncomputable def c48 : CmE := ownE 48 [(.sl (.int .i64))] (.int .i64) (fun x => cloneM x.1)
theorem d48 : CmOk Try.prog c48 := own_ok ca48 (clone_run (g := (.int .i64)) ord Try.func48 Try.underlying31 rfl (by kernel_rfl) (fun _ => by kernel_rfl) (by kernel_rfl) (fun _ => by kernel_rfl))

/-! 12: consol/consollaw02.do -/
theorem ca12 : callable Try.prog 12 := ⟨Try.f12, Try.func12, by kernel_rfl, by kernel_rfl⟩
abbrev F12i : ShS := ⟨[(0, (.box 0 [] 0)), (1, (.dat G32))], [(.box (.agg (.scons (.mp 1) (.scons (.own 2) (.scons (.mp 3) (.scons (.dat (.int .i64)) (.scons (.dat .bool) (.scons (.dat (.int .i64)) (.scons (.dat (.sl (.int .i64))) .snil))))))))), (.map (.int .i64) G62), (.arr G69), (.map G69 .bool)]⟩
abbrev F12o : ShS := ⟨[(0, (.dat (.int .i64)))], [(.box (.agg (.scons (.mp 1) (.scons (.own 4) (.scons (.mp 5) (.scons (.dat (.int .i64)) (.scons (.dat .bool) (.scons (.dat (.int .i64)) (.scons (.dat (.sl (.int .i64))) .snil))))))))), (.map (.int .i64) G62), .dead, .dead, (.arr G69), (.map G69 .bool)]⟩
theorem ca27 : callable Try.prog 27 := ⟨Try.f27, Try.func27, by kernel_rfl, by kernel_rfl⟩
noncomputable def E12i27 : Env := mkEnv2 Try.prog [] [c48]
theorem ok12i27 : EnvOk (E12i27) := mkEnv2_ok (by simp) (by simp only [List.mem_cons, List.not_mem_nil, or_false, forall_eq]; exact d48)
noncomputable def C12i27 : Cfg := noCfg
theorem lm12i27 : ∀ c, Try.f27.body = some c → LmOk (E12i27) (C12i27) Try.f27.ntmps c := fun _ _ => noCfg_lm
noncomputable def c12i27 : CmE := inl E12i27 C12i27 27 Try.f27
theorem d12i27 : CmOk Try.prog c12i27 := inl_ok (E := E12i27) ok12i27 ord lm12i27 Try.func27 ca27

theorem ca31 : callable Try.prog 31 := ⟨Try.f31, Try.func31, by kernel_rfl, by kernel_rfl⟩
noncomputable def E12i31 : Env := mkEnv2 Try.prog [] []
theorem ok12i31 : EnvOk (E12i31) := mkEnv2_ok (by simp) (by simp)
noncomputable def C12i31 : Cfg := noCfg
theorem lm12i31 : ∀ c, Try.f31.body = some c → LmOk (E12i31) (C12i31) Try.f31.ntmps c := fun _ _ => noCfg_lm
noncomputable def c12i31 : CmE := inl E12i31 C12i31 31 Try.f31
theorem d12i31 : CmOk Try.prog c12i31 := inl_ok (E := E12i31) ok12i31 ord lm12i31 Try.func31 ca31

noncomputable def E12 : Env := mkEnv2 Try.prog [] [c19, c25, c8i26, c12i27, c29, c30, c12i31]
theorem ok12 : EnvOk (E12) := mkEnv2_ok (by simp) (by simp only [List.mem_cons, List.not_mem_nil, or_false, forall_eq_or_imp, forall_eq]; exact ⟨d19, d25, d8i26, d12i27, d29, d30, d12i31⟩)
noncomputable def C12 : Cfg := mkCfg [(16, ⟨[], [], [(0, [1], (.cons .nil .opq))]⟩)] [] (([] : List (Nat × LE)).map (·.2))
theorem lm12 : ∀ c, Try.f12.body = some c → LmOk (E12) (C12) Try.f12.ntmps c := lmOk_of (ps := []) (by kernel_rfl) (by kernel_rfl) trivial
noncomputable def m12 (a0 : T32) (a1 : Int) (a2 : Bool) (a3 : Int) (a4 : (List Int)) (a5 : (List (Int × T62))) (a6 : (List T69)) (a7 : (List (T69 × Bool))) : Option F12o.ty :=
  bif ((IntKind.i64.wrap ((BitVec.ofInt IntKind.i64.bits a0.1 &&& BitVec.ofInt IntKind.i64.bits 7).toNat)) == 2) then
    (m19 a0.2.1 a1 a2 a3 a4 a5 a6 a7).bind fun r1 =>
    some ((r1.1.1, ()), (((), (), (), r1.2.1.2.2.2.1, r1.2.1.2.2.2.2.1, r1.2.1.2.2.2.2.2.1, r1.2.1.2.2.2.2.2.2.1, ()), r1.2.2.1, (), (), r1.2.2.2.2.2.1, r1.2.2.2.2.2.2.1, ()))
  else
    bif ((IntKind.i64.wrap ((BitVec.ofInt IntKind.i64.bits a0.1 &&& BitVec.ofInt IntKind.i64.bits 7).toNat)) == 3) then
      (m30 a0.2.1 a0.2.2.1 a1 a2 a3 a4 a5 a6 a7).bind fun r2 =>
      some ((r2.1.1, ()), (((), (), (), r2.2.1.2.2.2.1, r2.2.1.2.2.2.2.1, r2.2.1.2.2.2.2.2.1, r2.2.1.2.2.2.2.2.2.1, ()), r2.2.2.1, (), (), r2.2.2.2.2.2.1, r2.2.2.2.2.2.2.1, ()))
    else
      bif ((IntKind.i64.wrap ((BitVec.ofInt IntKind.i64.bits a0.1 &&& BitVec.ofInt IntKind.i64.bits 7).toNat)) == 4) then
        some ((0, ()), (((), (), (), (bif decide (0 > (IntKind.i64.wrap ((BitVec.ofInt IntKind.i64.bits a0.2.2.1 &&& BitVec.ofInt IntKind.i64.bits 3).toNat))) then 0 else (IntKind.i64.wrap ((BitVec.ofInt IntKind.i64.bits a0.2.2.1 &&& BitVec.ofInt IntKind.i64.bits 3).toNat))), a2, a3, a4, ()), a5, (), (), a6, a7, ()))
      else
        bif ((IntKind.i64.wrap ((BitVec.ofInt IntKind.i64.bits a0.1 &&& BitVec.ofInt IntKind.i64.bits 7).toNat)) == 5) then
          (cloneM a0.2.2.2.2.1).bind fun r3 =>
          some ((0, ()), (((), (), (), a1, a2, (bif decide (0 > a0.2.2.1) then 0 else a0.2.2.1), r3, ()), a5, (), (), a6, a7, ()))
        else
          bif ((IntKind.i64.wrap ((BitVec.ofInt IntKind.i64.bits a0.1 &&& BitVec.ofInt IntKind.i64.bits 7).toNat)) == 6) then
            (m25 a0.2.2.2.2.1 a1 a2 a3 a4 a5 a6 a7).bind fun r4 =>
            some ((0, ()), (((), (), (), r4.2.1.2.2.2.1, r4.2.1.2.2.2.2.1, r4.2.1.2.2.2.2.2.1, r4.2.1.2.2.2.2.2.2.1, ()), r4.2.2.1, (), (), r4.2.2.2.2.2.1, r4.2.2.2.2.2.2.1, ()))
          else
            bif ((IntKind.i64.wrap ((BitVec.ofInt IntKind.i64.bits a0.1 &&& BitVec.ofInt IntKind.i64.bits 7).toNat)) == 7) then
              some ((0, ()), (((), (), (), a1, false, a3, a4, ()), a5, (), (), a6, a7, ()))
            else
              (m29 a0.2.1 a0.2.2.1 a0.2.2.2.1 a1 a2 a3 a4 a5 a6 a7).bind fun r5 =>
              some ((r5.1.1, ()), (((), (), (), r5.2.1.2.2.2.1, r5.2.1.2.2.2.2.1, r5.2.1.2.2.2.2.2.1, r5.2.1.2.2.2.2.2.2.1, ()), r5.2.2.1, (), (), r5.2.2.2.2.2.1, r5.2.2.2.2.2.2.1, ()))
theorem q12 (x : F12i.ty) : execF E12 C12 Try.f12 ((F12i.enc x).regs.map (·.2)) (F12i.enc x).heap (retB [(1, [6], (.sl (.int .i64))), (1, [1], (.cons .nil .opq)), (1, [2], (.cons .nil .opq)), (1, [2], (.cons .bool .opq)), (1, [3], (.cons .bool .opq))] [(1, [1], G69)] 4 F12o) = m12 x.1.2.1 x.2.1.2.2.2.1 x.2.1.2.2.2.2.1 x.2.1.2.2.2.2.2.1 x.2.1.2.2.2.2.2.2.1 x.2.2.1 x.2.2.2.1 x.2.2.2.2.1 := by kernel_rfl
theorem R12 : CRun Try.prog 12 F12i F12o (fun x => m12 x.1.2.1 x.2.1.2.2.2.1 x.2.1.2.2.2.2.1 x.2.1.2.2.2.2.2.1 x.2.1.2.2.2.2.2.2.1 x.2.2.1 x.2.2.2.1 x.2.2.2.2.1) := st_runB (E := E12) ok12 ord lm12 Try.func12 rfl q12
noncomputable def c12 : CmE := stE 12 [(0, [6], (.sl (.int .i64)))] [(0, [1], G69)] F12i F12o (fun x => m12 x.1.2.1 x.2.1.2.2.2.1 x.2.1.2.2.2.2.1 x.2.1.2.2.2.2.2.1 x.2.1.2.2.2.2.2.2.1 x.2.2.1 x.2.2.2.1 x.2.2.2.2.1)
theorem d12 : CmOk Try.prog c12 := st_ok ca12 R12

/-! 53: consol/consolref02.fits -/
theorem ca53 : callable Try.prog 53 := ⟨Try.f53, Try.func53, by kernel_rfl, by kernel_rfl⟩
noncomputable def E53 : Env := mkEnv2 Try.prog [] []
theorem ok53 : EnvOk (E53) := mkEnv2_ok (by simp) (by simp)
noncomputable def C53 : Cfg := noCfg
theorem lm53 : ∀ c, Try.f53.body = some c → LmOk (E53) (C53) Try.f53.ntmps c := fun _ _ => noCfg_lm
noncomputable def m53 (a0 : Int) (a1 : (List UInt8)) : Option (Bool) :=
  some (((decide (a0 ≥ 0)) && (decide (a0 ≤ 16777216))) && (decide ((IntKind.i64.wrap (a0 + (List.length a1 : Int))) ≤ 16777216)))
noncomputable def e53 : PmE := entry 53 [(.int .i64), .str] false .bool (fun x => m53 x.1 x.2.1)
theorem q53 (x : tyL [(.int .i64), .str]) : execF E53 C53 Try.f53 (datL [(.int .i64), .str] x) [] (retK false .bool) = m53 x.1 x.2.1 := by kernel_rfl
theorem p53 : PmOk Try.prog e53 := pm_ok (E := E53) ok53 ord lm53 Try.func53 ca53 q53

/-! 39: (*consol/consolref02.Disk).get -/
theorem ca39 : callable Try.prog 39 := ⟨Try.f39, Try.func39, by kernel_rfl, by kernel_rfl⟩
abbrev F39i : ShS := ⟨[(0, (.box 0 [] 0)), (1, (.dat (.int .i64)))], [(.box (.agg (.scons (.own 1) (.scons (.own 2) (.scons (.dat (.int .i64)) (.scons (.dat .bool) (.scons (.dat (.int .i64)) (.scons (.dat (.sl (.int .i64))) .snil)))))))), (.arr G64), (.arr G69)]⟩
abbrev F39o : ShS := ⟨[(0, (.dat G64))], [(.box (.agg (.scons (.own 1) (.scons (.own 2) (.scons (.dat (.int .i64)) (.scons (.dat .bool) (.scons (.dat (.int .i64)) (.scons (.dat (.sl (.int .i64))) .snil)))))))), (.arr G64), (.arr G69)]⟩
noncomputable def E39 : Env := mkEnv2 Try.prog [] []
theorem ok39 : EnvOk (E39) := mkEnv2_ok (by simp) (by simp)
/-- a round of a loop of (*consol/consolref02.Disk).get -/
noncomputable def s39_1 {R : Type} (t1 : Int) (o1 : (List T64)) (kn : Int → Option R) (k1 : Option R) (k2 : T64 → Option R) (t5 : Int) : Option R :=
  bif (decide (t5 < (List.length o1 : Int))) then
    asrt true (decide (0 ≤ t5) && decide (t5 < (List.length o1 : Int))) (
      ((o1)[(t5 : Int).toNat]?).bind fun x1 =>
      bif (x1.1 == t1) then
        asrt true (decide (0 ≤ t5) && decide (t5 < (List.length o1 : Int))) (
          ((o1)[(t5 : Int).toNat]?).bind fun x2 =>
          k2 x2)
      else
        kn (IntKind.i64.wrap (t5 + 1)))
  else
    k1
noncomputable def l39_1 {R : Type} (t1 : Int) (o1 : (List T64)) (k1 : Option R) (k2 : T64 → Option R) : Nat → Int → Option R
  | 0, _ => none
  | n + 1, t5 => s39_1 t1 o1 (l39_1 t1 o1 k1 k2 n) k1 k2 t5
noncomputable def L39_1 : LE := ⟨3, 3, ⟨[(0, (.box 0 [] 0)), (1, (.dat (.int .i64))), (4, (.box 3 [] 0)), (5, (.dat (.int .i64)))], [(.box (.agg (.scons (.own 1) (.scons (.own 2) (.scons (.dat (.int .i64)) (.scons (.dat .bool) (.scons (.dat (.int .i64)) (.scons (.dat (.sl (.int .i64))) .snil)))))))), (.arr G64), (.arr G69), (.box (.dat G64))]⟩, fun R n x k => l39_1 x.1.2.1 x.2.2.1 (k (.exit 0) ⟨[(1, (.dat (.int .i64) x.1.2.1)), (4, (.box 3 [] 0))], [(.box (.agg (.scons (.own 1) (.scons (.own 2) (.scons (.dat (.int .i64) x.2.1.2.2.1) (.scons (.dat .bool x.2.1.2.2.2.1) (.scons (.dat (.int .i64) x.2.1.2.2.2.2.1) (.scons (.dat (.sl (.int .i64)) x.2.1.2.2.2.2.2.1) .snil)))))))), (.arr G64 x.2.2.1), (.arr G69 x.2.2.2.1), (.box (.dat G64 x.2.2.2.2.1))]⟩) (fun y0 => k .ret ⟨[(4, (.box 3 [] 0))], [(.box (.agg (.scons (.own 1) (.scons (.own 2) (.scons (.dat (.int .i64) x.2.1.2.2.1) (.scons (.dat .bool x.2.1.2.2.2.1) (.scons (.dat (.int .i64) x.2.1.2.2.2.2.1) (.scons (.dat (.sl (.int .i64)) x.2.1.2.2.2.2.2.1) .snil)))))))), (.arr G64 x.2.2.1), (.arr G69 x.2.2.2.1), (.box (.dat G64 y0))]⟩) n x.1.2.2.2.1⟩
noncomputable def C39 : Cfg := mkCfg [(3, ⟨[0, 1, 4, 5], [], []⟩)] [(3, (⟨[1, 4], [], []⟩, ⟨[4], [], []⟩))] (([(0, L39_1)] : List (Nat × LE)).map (·.2))
theorem ek39_1 : EOk (E39) (C39) Try.f39.ntmps (bodyL Try.f39 0) (L39_1) := eok_of (e := L39_1) (fun R x Kn k => s39_1 x.1.2.1 x.2.2.1 (fun v0 => Kn (((), x.1.2.1, (), v0, ()), (((), (), x.2.1.2.2.1, x.2.1.2.2.2.1, x.2.1.2.2.2.2.1, x.2.1.2.2.2.2.2.1, ()), x.2.2.1, x.2.2.2.1, x.2.2.2.2.1, ()))) (k (.exit 0) ⟨[(1, (.dat (.int .i64) x.1.2.1)), (4, (.box 3 [] 0))], [(.box (.agg (.scons (.own 1) (.scons (.own 2) (.scons (.dat (.int .i64) x.2.1.2.2.1) (.scons (.dat .bool x.2.1.2.2.2.1) (.scons (.dat (.int .i64) x.2.1.2.2.2.2.1) (.scons (.dat (.sl (.int .i64)) x.2.1.2.2.2.2.2.1) .snil)))))))), (.arr G64 x.2.2.1), (.arr G69 x.2.2.2.1), (.box (.dat G64 x.2.2.2.2.1))]⟩) (fun y0 => k .ret ⟨[(4, (.box 3 [] 0))], [(.box (.agg (.scons (.own 1) (.scons (.own 2) (.scons (.dat (.int .i64) x.2.1.2.2.1) (.scons (.dat .bool x.2.1.2.2.2.1) (.scons (.dat (.int .i64) x.2.1.2.2.2.2.1) (.scons (.dat (.sl (.int .i64)) x.2.1.2.2.2.2.2.1) .snil)))))))), (.arr G64 x.2.2.1), (.arr G69 x.2.2.2.1), (.box (.dat G64 y0))]⟩) x.1.2.2.2.1) (fun _ _ _ => rfl) (fun _ _ _ _ => rfl) (fun R x Kn k => by kernel_rfl)
theorem lm39 : ∀ c, Try.f39.body = some c → LmOk (E39) (C39) Try.f39.ntmps c := lmOk_of (ps := [(0, L39_1)]) (by kernel_rfl) (by kernel_rfl) ⟨ek39_1, trivial⟩
noncomputable def m39 (a0 : Int) (a1 : Int) (a2 : Bool) (a3 : Int) (a4 : (List Int)) (a5 : (List T64)) (a6 : (List T69)) : Option F39o.ty :=
  l39_1 a0 a5 (
      some (((a0, ([] : List UInt8), ([] : List UInt8), ()), ()), (((), (), a1, a2, a3, a4, ()), a5, a6, ()))) (fun y3 =>
      some ((y3, ()), (((), (), a1, a2, a3, a4, ()), a5, a6, ()))) FUEL 0
theorem q39 (x : F39i.ty) : execF E39 C39 Try.f39 ((F39i.enc x).regs.map (·.2)) (F39i.enc x).heap (retS [] [] 3 F39o) = m39 x.1.2.1 x.2.1.2.2.1 x.2.1.2.2.2.1 x.2.1.2.2.2.2.1 x.2.1.2.2.2.2.2.1 x.2.2.1 x.2.2.2.1 := by kernel_rfl
theorem R39 : CRun Try.prog 39 F39i F39o (fun x => m39 x.1.2.1 x.2.1.2.2.1 x.2.1.2.2.2.1 x.2.1.2.2.2.2.1 x.2.1.2.2.2.2.2.1 x.2.2.1 x.2.2.2.1) := st_run (E := E39) ok39 ord lm39 Try.func39 q39
noncomputable def c39 : CmE := stE 39 [(0, [5], (.sl (.int .i64)))] [(0, [0], G64), (0, [1], G69)] F39i F39o (fun x => m39 x.1.2.1 x.2.1.2.2.1 x.2.1.2.2.2.1 x.2.1.2.2.2.2.1 x.2.1.2.2.2.2.2.1 x.2.2.1 x.2.2.2.1)
theorem d39 : CmOk Try.prog c39 := st_ok ca39 R39

/-! 61: consol/consolref02.Put -/
theorem ca61 : callable Try.prog 61 := ⟨Try.f61, Try.func61, by kernel_rfl, by kernel_rfl⟩
noncomputable def E61 : Env := mkEnv2 Try.prog [] []
theorem ok61 : EnvOk (E61) := mkEnv2_ok (by simp) (by simp)
/-- a round of a loop of consol/consolref02.Put -/
noncomputable def s61_1 {R : Type} (t1 : Int) (t2 : (List UInt8)) (kn : (List Int) → Option R) (k1 : (List Int) → Option R) (o0 : (List Int)) : Option R :=
  bif (decide ((List.length o0 : Int) < (IntKind.i64.wrap (t1 + (List.length t2 : Int))))) then
    asrt true (decide (List.length (α := Int) o0 + List.length (α := Int) [0] ≤ LIM)) (
      kn (o0 ++ [0]))
  else
    k1 o0
noncomputable def l61_1 {R : Type} (t1 : Int) (t2 : (List UInt8)) (k1 : (List Int) → Option R) : Nat → (List Int) → Option R
  | 0, _ => none
  | n + 1, o0 => s61_1 t1 t2 (l61_1 t1 t2 k1 n) k1 o0
noncomputable def L61_1 : LE := ⟨5, 0, ⟨[(1, (.dat (.int .i64))), (2, (.dat .str)), (7, (.own 0))], [(.arr (.int .u8))]⟩, fun R n x k => l61_1 x.1.1 x.1.2.1 (fun y0 => k (.exit 0) ⟨[(1, (.dat (.int .i64) x.1.1)), (2, (.dat .str x.1.2.1)), (7, (.own 0))], [(.arr (.int .u8) y0)]⟩) n x.2.1⟩
/-- a round of a loop of consol/consolref02.Put -/
noncomputable def s61_2 {R : Type} (t1 : Int) (t2 : (List UInt8)) (kn : Int → (List Int) → Option R) (k1 : (List Int) → Option R) (t8 : Int) (o0 : (List Int)) : Option R :=
  bif (decide (t8 < (List.length t2 : Int))) then
    (idx t2 t8).bind fun c2 =>
    asrt true (decide (0 ≤ (IntKind.i64.wrap (t1 + t8))) && decide ((IntKind.i64.wrap (t1 + t8)) < (List.length o0 : Int))) (
      ((o0)[((IntKind.i64.wrap (t1 + t8)) : Int).toNat]?).bind fun x3 =>
      kn (IntKind.i64.wrap (t8 + 1)) (List.set o0 ((IntKind.i64.wrap (t1 + t8)) : Int).toNat (c2.toNat : Int)))
  else
    k1 o0
noncomputable def l61_2 {R : Type} (t1 : Int) (t2 : (List UInt8)) (k1 : (List Int) → Option R) : Nat → Int → (List Int) → Option R
  | 0, _, _ => none
  | n + 1, t8, o0 => s61_2 t1 t2 (l61_2 t1 t2 k1 n) k1 t8 o0
noncomputable def L61_2 : LE := ⟨8, 0, ⟨[(1, (.dat (.int .i64))), (2, (.dat .str)), (7, (.own 0)), (8, (.dat (.int .i64)))], [(.arr (.int .u8))]⟩, fun R n x k => l61_2 x.1.1 x.1.2.1 (fun y0 => k (.exit 2) ⟨[(7, (.own 0))], [(.arr (.int .u8) y0)]⟩) n x.1.2.2.2.1 x.2.1⟩
noncomputable def C61 : Cfg := mkCfg [(5, ⟨[1, 2, 7], [], []⟩), (8, ⟨[1, 2, 7, 8], [], []⟩)] [(5, (⟨[1, 2, 7], [], []⟩, ⟨[6], [], []⟩)), (8, (⟨[7], [], []⟩, ⟨[6], [], []⟩))] (([(0, L61_1), (1, L61_2)] : List (Nat × LE)).map (·.2))
theorem ek61_1 : EOk (E61) (C61) Try.f61.ntmps (bodyL Try.f61 0) (L61_1) := eok_of (e := L61_1) (fun R x Kn k => s61_1 x.1.1 x.1.2.1 (fun v0 => Kn ((x.1.1, x.1.2.1, (), ()), (v0, ()))) (fun y0 => k (.exit 0) ⟨[(1, (.dat (.int .i64) x.1.1)), (2, (.dat .str x.1.2.1)), (7, (.own 0))], [(.arr (.int .u8) y0)]⟩) x.2.1) (fun _ _ _ => rfl) (fun _ _ _ _ => rfl) (fun R x Kn k => by kernel_rfl)
theorem ek61_2 : EOk (E61) (C61) Try.f61.ntmps (bodyL Try.f61 1) (L61_2) := eok_of (e := L61_2) (fun R x Kn k => s61_2 x.1.1 x.1.2.1 (fun v0 v1 => Kn ((x.1.1, x.1.2.1, (), v0, ()), (v1, ()))) (fun y0 => k (.exit 2) ⟨[(7, (.own 0))], [(.arr (.int .u8) y0)]⟩) x.1.2.2.2.1 x.2.1) (fun _ _ _ => rfl) (fun _ _ _ _ => rfl) (fun R x Kn k => by kernel_rfl)
theorem lm61 : ∀ c, Try.f61.body = some c → LmOk (E61) (C61) Try.f61.ntmps c := lmOk_of (ps := [(0, L61_1), (1, L61_2)]) (by kernel_rfl) (by kernel_rfl) ⟨ek61_1, ek61_2, trivial⟩
noncomputable def m61 (a0 : (List UInt8)) (a1 : Int) (a2 : (List UInt8)) : Option ((List UInt8)) :=
  bif (a2 == ([] : List UInt8)) then
    some a0
  else
    l61_1 a1 a2 (fun y1 =>
        l61_2 a1 a2 (fun y4 =>
            some (List.map (fun n => UInt8.ofNat (Int.toNat n)) y4)) FUEL 0 y1) FUEL (List.map (fun c => (UInt8.toNat c : Int)) a0)
noncomputable def e61 : PmE := entry 61 [.str, (.int .i64), .str] false .str (fun x => m61 x.1 x.2.1 x.2.2.1)
theorem q61 (x : tyL [.str, (.int .i64), .str]) : execF E61 C61 Try.f61 (datL [.str, (.int .i64), .str] x) [] (retK false .str) = m61 x.1 x.2.1 x.2.2.1 := by kernel_rfl
theorem p61 : PmOk Try.prog e61 := pm_ok (E := E61) ok61 ord lm61 Try.func61 ca61 q61

/-! 60: (*consol/consolref02.Disk).set -/
theorem ca60 : callable Try.prog 60 := ⟨Try.f60, Try.func60, by kernel_rfl, by kernel_rfl⟩
abbrev F60i : ShS := ⟨[(0, (.box 0 [] 0)), (1, (.dat G64))], [(.box (.agg (.scons (.own 1) (.scons (.own 2) (.scons (.dat (.int .i64)) (.scons (.dat .bool) (.scons (.dat (.int .i64)) (.scons (.dat (.sl (.int .i64))) .snil)))))))), (.arr G64), (.arr G69)]⟩
abbrev F60o : ShS := ⟨[(0, (.tup .snil))], [(.box (.agg (.scons (.own 3) (.scons (.own 4) (.scons (.dat (.int .i64)) (.scons (.dat .bool) (.scons (.dat (.int .i64)) (.scons (.dat (.sl (.int .i64))) .snil)))))))), .dead, .dead, (.arr G64), (.arr G69)]⟩
noncomputable def E60 : Env := mkEnv2 Try.prog [] []
theorem ok60 : EnvOk (E60) := mkEnv2_ok (by simp) (by simp)
/-- a round of a loop of (*consol/consolref02.Disk).set -/
noncomputable def s60_1 {R : Type} (o3 : T64) (o5 : (List T64)) (kn : Int → (List T64) → Option R) (k1 : (List T64) → Option R) (t5 : Int) (o4 : (List T64)) : Option R :=
  bif (decide (t5 < (List.length o5 : Int))) then
    cont (fun (k3 : (List T64) → _) =>
      asrt true (decide (0 ≤ t5) && decide (t5 < (List.length o5 : Int))) (
        ((o5)[(t5 : Int).toNat]?).bind fun x1 =>
        bif (x1.1 != o3.1) then
          asrt true (decide (0 ≤ t5) && decide (t5 < (List.length o5 : Int))) (
            ((o5)[(t5 : Int).toNat]?).bind fun x2 =>
            asrt true (decide (List.length (α := T64) o4 + List.length (α := T64) [x2] ≤ LIM)) (
              k3 (o4 ++ [x2])))
        else
          k3 o4)) fun y3 =>
    kn (IntKind.i64.wrap (t5 + 1)) y3
  else
    k1 o4
noncomputable def l60_1 {R : Type} (o3 : T64) (o5 : (List T64)) (k1 : (List T64) → Option R) : Nat → Int → (List T64) → Option R
  | 0, _, _ => none
  | n + 1, t5, o4 => s60_1 o3 o5 (l60_1 o3 o5 k1 n) k1 t5 o4
noncomputable def L60_1 : LE := ⟨4, 3, ⟨[(0, (.box 0 [] 0)), (3, (.box 3 [] 0)), (4, (.own 4)), (5, (.dat (.int .i64)))], [(.box (.agg (.scons (.own 5) (.scons (.own 6) (.scons (.dat (.int .i64)) (.scons (.dat .bool) (.scons (.dat (.int .i64)) (.scons (.dat (.sl (.int .i64))) .snil)))))))), .dead, .dead, (.box (.dat G64)), (.arr G64), (.arr G64), (.arr G69)]⟩, fun R n x k => l60_1 x.2.2.2.2.1 x.2.2.2.2.2.2.1 (fun y0 => k (.exit 0) ⟨[(0, (.box 0 [] 0)), (3, (.box 3 [] 0)), (4, (.own 4))], [(.box (.agg (.scons (.own 5) (.scons (.own 6) (.scons (.dat (.int .i64) x.2.1.2.2.1) (.scons (.dat .bool x.2.1.2.2.2.1) (.scons (.dat (.int .i64) x.2.1.2.2.2.2.1) (.scons (.dat (.sl (.int .i64)) x.2.1.2.2.2.2.2.1) .snil)))))))), .dead, .dead, (.box (.dat G64 x.2.2.2.2.1)), (.arr G64 y0), (.arr G64 x.2.2.2.2.2.2.1), (.arr G69 x.2.2.2.2.2.2.2.1)]⟩) n x.1.2.2.2.1 x.2.2.2.2.2.1⟩
noncomputable def C60 : Cfg := mkCfg [(4, ⟨[0, 3, 4, 5], [(4, [], G64)], [(0, [0], (.cons .nil .opq)), (0, [1], (.cons .nil .opq))]⟩), (5, ⟨[0, 3, 4, 5], [(4, [], G64)], [(0, [0], (.cons .nil .opq)), (0, [1], (.cons .nil .opq))]⟩)] [(4, (⟨[0, 3, 4], [], []⟩, ⟨[], [], []⟩))] (([(0, L60_1)] : List (Nat × LE)).map (·.2))
theorem ek60_1 : EOk (E60) (C60) Try.f60.ntmps (bodyL Try.f60 0) (L60_1) := eok_of (e := L60_1) (fun R x Kn k => s60_1 x.2.2.2.2.1 x.2.2.2.2.2.2.1 (fun v0 v1 => Kn (((), (), (), v0, ()), (((), (), x.2.1.2.2.1, x.2.1.2.2.2.1, x.2.1.2.2.2.2.1, x.2.1.2.2.2.2.2.1, ()), (), (), x.2.2.2.2.1, v1, x.2.2.2.2.2.2.1, x.2.2.2.2.2.2.2.1, ()))) (fun y0 => k (.exit 0) ⟨[(0, (.box 0 [] 0)), (3, (.box 3 [] 0)), (4, (.own 4))], [(.box (.agg (.scons (.own 5) (.scons (.own 6) (.scons (.dat (.int .i64) x.2.1.2.2.1) (.scons (.dat .bool x.2.1.2.2.2.1) (.scons (.dat (.int .i64) x.2.1.2.2.2.2.1) (.scons (.dat (.sl (.int .i64)) x.2.1.2.2.2.2.2.1) .snil)))))))), .dead, .dead, (.box (.dat G64 x.2.2.2.2.1)), (.arr G64 y0), (.arr G64 x.2.2.2.2.2.2.1), (.arr G69 x.2.2.2.2.2.2.2.1)]⟩) x.1.2.2.2.1 x.2.2.2.2.2.1) (fun _ _ _ => rfl) (fun _ _ _ _ => rfl) (fun R x Kn k => by kernel_rfl)
theorem lm60 : ∀ c, Try.f60.body = some c → LmOk (E60) (C60) Try.f60.ntmps c := lmOk_of (ps := [(0, L60_1)]) (by kernel_rfl) (by kernel_rfl) ⟨ek60_1, trivial⟩
noncomputable def m60 (a0 : T64) (a1 : Int) (a2 : Bool) (a3 : Int) (a4 : (List Int)) (a5 : (List T64)) (a6 : (List T69)) : Option F60o.ty :=
  l60_1 a0 a5 (fun y4 =>
      asrt true (decide (List.length (α := T64) y4 + List.length (α := T64) [a0] ≤ LIM)) (
        some (((()), ()), (((), (), a1, a2, a3, a4, ()), (), (), (y4 ++ [a0]), a6, ())))) FUEL 0 []
theorem q60 (x : F60i.ty) : execF E60 C60 Try.f60 ((F60i.enc x).regs.map (·.2)) (F60i.enc x).heap (retB [(1, [5], (.sl (.int .i64))), (1, [0], (.cons .nil .opq)), (1, [1], (.cons .nil .opq)), (1, [1], (.cons .bool .opq)), (1, [2], (.cons .bool .opq))] [(1, [0], G64), (1, [1], G69)] 3 F60o) = m60 x.1.2.1 x.2.1.2.2.1 x.2.1.2.2.2.1 x.2.1.2.2.2.2.1 x.2.1.2.2.2.2.2.1 x.2.2.1 x.2.2.2.1 := by kernel_rfl
theorem R60 : CRun Try.prog 60 F60i F60o (fun x => m60 x.1.2.1 x.2.1.2.2.1 x.2.1.2.2.2.1 x.2.1.2.2.2.2.1 x.2.1.2.2.2.2.2.1 x.2.2.1 x.2.2.2.1) := st_runB (E := E60) ok60 ord lm60 Try.func60 rfl q60
noncomputable def c60 : CmE := stE 60 [(0, [5], (.sl (.int .i64)))] [(0, [0], G64), (0, [1], G69)] F60i F60o (fun x => m60 x.1.2.1 x.2.1.2.2.1 x.2.1.2.2.2.1 x.2.1.2.2.2.2.1 x.2.1.2.2.2.2.2.1 x.2.2.1 x.2.2.2.1)
theorem d60 : CmOk Try.prog c60 := st_ok ca60 R60

/-! 62: (*consol/consolref02.Disk).pending -/
theorem ca62 : callable Try.prog 62 := ⟨Try.f62, Try.func62, by kernel_rfl, by kernel_rfl⟩
abbrev F62i : ShS := ⟨[(0, (.box 0 [] 0)), (1, (.dat (.int .i64))), (2, (.dat (.int .i64)))], [(.box (.agg (.scons (.own 1) (.scons (.own 2) (.scons (.dat (.int .i64)) (.scons (.dat .bool) (.scons (.dat (.int .i64)) (.scons (.dat (.sl (.int .i64))) .snil)))))))), (.arr G64), (.arr G69)]⟩
abbrev F62o : ShS := ⟨[(0, (.dat .bool))], [(.box (.agg (.scons (.own 1) (.scons (.own 2) (.scons (.dat (.int .i64)) (.scons (.dat .bool) (.scons (.dat (.int .i64)) (.scons (.dat (.sl (.int .i64))) .snil)))))))), (.arr G64), (.arr G69)]⟩
noncomputable def E62 : Env := mkEnv2 Try.prog [] []
theorem ok62 : EnvOk (E62) := mkEnv2_ok (by simp) (by simp)
/-- a round of a loop of (*consol/consolref02.Disk).pending -/
noncomputable def s62_1 {R : Type} (t1 : Int) (t2 : Int) (o2 : (List T69)) (kn : Int → Option R) (k1 : Option R) (k2 : Option R) (t7 : Int) : Option R :=
  bif (decide (t7 < (List.length o2 : Int))) then
    asrt true (decide (0 ≤ t7) && decide (t7 < (List.length o2 : Int))) (
      ((o2)[(t7 : Int).toNat]?).bind fun x1 =>
      asrt ((x1.1 == t1) == true) (decide (0 ≤ t7) && decide (t7 < (List.length o2 : Int))) (
        ((bif ((x1.1 == t1) == true) then (o2)[(t7 : Int).toNat]? else some (0, 0, ()))).bind fun x2 =>
        bif ((x1.1 == t1) && (x2.2.1 == t2)) then
          k2
        else
          kn (IntKind.i64.wrap (t7 + 1))))
  else
    k1
noncomputable def l62_1 {R : Type} (t1 : Int) (t2 : Int) (o2 : (List T69)) (k1 : Option R) (k2 : Option R) : Nat → Int → Option R
  | 0, _ => none
  | n + 1, t7 => s62_1 t1 t2 o2 (l62_1 t1 t2 o2 k1 k2 n) k1 k2 t7
noncomputable def L62_1 : LE := ⟨3, 3, ⟨[(0, (.box 0 [] 0)), (1, (.dat (.int .i64))), (2, (.dat (.int .i64))), (7, (.dat (.int .i64)))], [(.box (.agg (.scons (.own 1) (.scons (.own 2) (.scons (.dat (.int .i64)) (.scons (.dat .bool) (.scons (.dat (.int .i64)) (.scons (.dat (.sl (.int .i64))) .snil)))))))), (.arr G64), (.arr G69)]⟩, fun R n x k => l62_1 x.1.2.1 x.1.2.2.1 x.2.2.2.1 (k (.exit 0) ⟨[], [(.box (.agg (.scons (.own 1) (.scons (.own 2) (.scons (.dat (.int .i64) x.2.1.2.2.1) (.scons (.dat .bool x.2.1.2.2.2.1) (.scons (.dat (.int .i64) x.2.1.2.2.2.2.1) (.scons (.dat (.sl (.int .i64)) x.2.1.2.2.2.2.2.1) .snil)))))))), (.arr G64 x.2.2.1), (.arr G69 x.2.2.2.1)]⟩) (k .ret ⟨[(6, (.dat .bool true))], [(.box (.agg (.scons (.own 1) (.scons (.own 2) (.scons (.dat (.int .i64) x.2.1.2.2.1) (.scons (.dat .bool x.2.1.2.2.2.1) (.scons (.dat (.int .i64) x.2.1.2.2.2.2.1) (.scons (.dat (.sl (.int .i64)) x.2.1.2.2.2.2.2.1) .snil)))))))), (.arr G64 x.2.2.1), (.arr G69 x.2.2.2.1)]⟩) n x.1.2.2.2.1⟩
noncomputable def C62 : Cfg := mkCfg [(3, ⟨[0, 1, 2, 7], [], []⟩)] [(3, (⟨[], [], []⟩, ⟨[6], [], []⟩))] (([(0, L62_1)] : List (Nat × LE)).map (·.2))
theorem ek62_1 : EOk (E62) (C62) Try.f62.ntmps (bodyL Try.f62 0) (L62_1) := eok_of (e := L62_1) (fun R x Kn k => s62_1 x.1.2.1 x.1.2.2.1 x.2.2.2.1 (fun v0 => Kn (((), x.1.2.1, x.1.2.2.1, v0, ()), (((), (), x.2.1.2.2.1, x.2.1.2.2.2.1, x.2.1.2.2.2.2.1, x.2.1.2.2.2.2.2.1, ()), x.2.2.1, x.2.2.2.1, ()))) (k (.exit 0) ⟨[], [(.box (.agg (.scons (.own 1) (.scons (.own 2) (.scons (.dat (.int .i64) x.2.1.2.2.1) (.scons (.dat .bool x.2.1.2.2.2.1) (.scons (.dat (.int .i64) x.2.1.2.2.2.2.1) (.scons (.dat (.sl (.int .i64)) x.2.1.2.2.2.2.2.1) .snil)))))))), (.arr G64 x.2.2.1), (.arr G69 x.2.2.2.1)]⟩) (k .ret ⟨[(6, (.dat .bool true))], [(.box (.agg (.scons (.own 1) (.scons (.own 2) (.scons (.dat (.int .i64) x.2.1.2.2.1) (.scons (.dat .bool x.2.1.2.2.2.1) (.scons (.dat (.int .i64) x.2.1.2.2.2.2.1) (.scons (.dat (.sl (.int .i64)) x.2.1.2.2.2.2.2.1) .snil)))))))), (.arr G64 x.2.2.1), (.arr G69 x.2.2.2.1)]⟩) x.1.2.2.2.1) (fun _ _ _ => rfl) (fun _ _ _ _ => rfl) (fun R x Kn k => by kernel_rfl)
theorem lm62 : ∀ c, Try.f62.body = some c → LmOk (E62) (C62) Try.f62.ntmps c := lmOk_of (ps := [(0, L62_1)]) (by kernel_rfl) (by kernel_rfl) ⟨ek62_1, trivial⟩
noncomputable def m62 (a0 : Int) (a1 : Int) (a2 : Int) (a3 : Bool) (a4 : Int) (a5 : (List Int)) (a6 : (List T64)) (a7 : (List T69)) : Option F62o.ty :=
  l62_1 a0 a1 a7 (
      some ((false, ()), (((), (), a2, a3, a4, a5, ()), a6, a7, ()))) (
      some ((true, ()), (((), (), a2, a3, a4, a5, ()), a6, a7, ()))) FUEL 0
theorem q62 (x : F62i.ty) : execF E62 C62 Try.f62 ((F62i.enc x).regs.map (·.2)) (F62i.enc x).heap (retS [] [] 3 F62o) = m62 x.1.2.1 x.1.2.2.1 x.2.1.2.2.1 x.2.1.2.2.2.1 x.2.1.2.2.2.2.1 x.2.1.2.2.2.2.2.1 x.2.2.1 x.2.2.2.1 := by kernel_rfl
theorem R62 : CRun Try.prog 62 F62i F62o (fun x => m62 x.1.2.1 x.1.2.2.1 x.2.1.2.2.1 x.2.1.2.2.2.1 x.2.1.2.2.2.2.1 x.2.1.2.2.2.2.2.1 x.2.2.1 x.2.2.2.1) := st_run (E := E62) ok62 ord lm62 Try.func62 q62
noncomputable def c62 : CmE := stE 62 [(0, [5], (.sl (.int .i64)))] [(0, [0], G64), (0, [1], G69)] F62i F62o (fun x => m62 x.1.2.1 x.1.2.2.1 x.2.1.2.2.1 x.2.1.2.2.2.1 x.2.1.2.2.2.2.1 x.2.1.2.2.2.2.2.1 x.2.2.1 x.2.2.2.1)
theorem d62 : CmOk Try.prog c62 := st_ok ca62 R62

/-! 54: (*consol/consolref02.Disk).add -/
theorem ca54 : callable Try.prog 54 := ⟨Try.f54, Try.func54, by kernel_rfl, by kernel_rfl⟩
abbrev F54i : ShS := ⟨[(0, (.box 0 [] 0)), (1, (.dat (.int .i64))), (2, (.dat (.int .i64))), (3, (.dat .str))], [(.box (.agg (.scons (.own 1) (.scons (.own 2) (.scons (.dat (.int .i64)) (.scons (.dat .bool) (.scons (.dat (.int .i64)) (.scons (.dat (.sl (.int .i64))) .snil)))))))), (.arr G64), (.arr G69)]⟩
abbrev F54o : ShS := ⟨[(0, (.tup .snil))], [(.box (.agg (.scons (.own 3) (.scons (.own 4) (.scons (.dat (.int .i64)) (.scons (.dat .bool) (.scons (.dat (.int .i64)) (.scons (.dat (.sl (.int .i64))) .snil)))))))), .dead, .dead, (.arr G64), (.arr G69)]⟩
noncomputable def E54 : Env := mkEnv2 Try.prog [e61] [c39, c60, c62]
theorem ok54 : EnvOk (E54) := mkEnv2_ok (by simp only [List.mem_cons, List.not_mem_nil, or_false, forall_eq]; exact p61) (by simp only [List.mem_cons, List.not_mem_nil, or_false, forall_eq_or_imp, forall_eq]; exact ⟨d39, d60, d62⟩)
/-- a round of a loop of (*consol/consolref02.Disk).add -/
noncomputable def s54_1 {R : Type} (t1 : Int) (t2 : Int) (t3 : (List UInt8)) (kn : Int → Int → Bool → Int → (List Int) → (List T64) → (List T69) → Option R) (k1 : Int → Bool → Int → (List Int) → (List T64) → (List T69) → Option R) (t9 : Int) (o0 : Int) (o0_2 : Bool) (o0_3 : Int) (o0_4 : (List Int)) (o3 : (List T64)) (o4 : (List T69)) : Option R :=
  bif (decide (t9 ≤ (IntKind.i64.wrap (Int.tdiv (IntKind.i64.wrap ((IntKind.i64.wrap (t2 + (List.length t3 : Int))) - 1)) 64)))) then
    cont (fun (k5 : (Int × Bool × Int × (List Int) × (List T64) × (List T69)) → _) =>
      (m62 t1 t9 o0 o0_2 o0_3 o0_4 o3 o4).bind fun r4 =>
      bif (!r4.1.1) then
        asrt true (decide (List.length (α := T69) r4.2.2.2.1 + List.length (α := T69) [(t1, t9, ())] ≤ LIM)) (
          k5 (r4.2.1.2.2.1, r4.2.1.2.2.2.1, r4.2.1.2.2.2.2.1, r4.2.1.2.2.2.2.2.1, r4.2.2.1, (r4.2.2.2.1 ++ [(t1, t9, ())])))
      else
        k5 (r4.2.1.2.2.1, r4.2.1.2.2.2.1, r4.2.1.2.2.2.2.1, r4.2.1.2.2.2.2.2.1, r4.2.2.1, r4.2.2.2.1)) fun y5 =>
    kn (IntKind.i64.wrap (t9 + 1)) y5.1 y5.2.1 y5.2.2.1 y5.2.2.2.1 y5.2.2.2.2.1 y5.2.2.2.2.2
  else
    k1 o0 o0_2 o0_3 o0_4 o3 o4
noncomputable def l54_1 {R : Type} (t1 : Int) (t2 : Int) (t3 : (List UInt8)) (k1 : Int → Bool → Int → (List Int) → (List T64) → (List T69) → Option R) : Nat → Int → Int → Bool → Int → (List Int) → (List T64) → (List T69) → Option R
  | 0, _, _, _, _, _, _, _ => none
  | n + 1, t9, o0, o0_2, o0_3, o0_4, o3, o4 => s54_1 t1 t2 t3 (l54_1 t1 t2 t3 k1 n) k1 t9 o0 o0_2 o0_3 o0_4 o3 o4
noncomputable def L54_1 : LE := ⟨6, 3, ⟨[(0, (.box 0 [] 0)), (1, (.dat (.int .i64))), (2, (.dat (.int .i64))), (3, (.dat .str)), (9, (.dat (.int .i64)))], [(.box (.agg (.scons (.own 3) (.scons (.own 4) (.scons (.dat (.int .i64)) (.scons (.dat .bool) (.scons (.dat (.int .i64)) (.scons (.dat (.sl (.int .i64))) .snil)))))))), .dead, .dead, (.arr G64), (.arr G69)]⟩, fun R n x k => l54_1 x.1.2.1 x.1.2.2.1 x.1.2.2.2.1 (fun y0 y1 y2 y3 y4 y5 => k (.exit 0) ⟨[], [(.box (.agg (.scons (.own 3) (.scons (.own 4) (.scons (.dat (.int .i64) y0) (.scons (.dat .bool y1) (.scons (.dat (.int .i64) y2) (.scons (.dat (.sl (.int .i64)) y3) .snil)))))))), .dead, .dead, (.arr G64 y4), (.arr G69 y5)]⟩) n x.1.2.2.2.2.1 x.2.1.2.2.1 x.2.1.2.2.2.1 x.2.1.2.2.2.2.1 x.2.1.2.2.2.2.2.1 x.2.2.2.2.1 x.2.2.2.2.2.1⟩
noncomputable def C54 : Cfg := mkCfg [(6, ⟨[0, 1, 2, 3, 9], [], [(0, [0], (.cons .nil .opq)), (0, [1], (.cons .nil .opq))]⟩), (7, ⟨[0, 1, 2, 3, 9], [], [(0, [0], (.cons .nil .opq)), (0, [1], (.cons .nil .opq))]⟩)] [(6, (⟨[], [], []⟩, ⟨[], [], []⟩))] (([(0, L54_1)] : List (Nat × LE)).map (·.2))
theorem ek54_1 : EOk (E54) (C54) Try.f54.ntmps (bodyL Try.f54 0) (L54_1) := eok_of (e := L54_1) (fun R x Kn k => s54_1 x.1.2.1 x.1.2.2.1 x.1.2.2.2.1 (fun v0 v1 v2 v3 v4 v5 v6 => Kn (((), x.1.2.1, x.1.2.2.1, x.1.2.2.2.1, v0, ()), (((), (), v1, v2, v3, v4, ()), (), (), v5, v6, ()))) (fun y0 y1 y2 y3 y4 y5 => k (.exit 0) ⟨[], [(.box (.agg (.scons (.own 3) (.scons (.own 4) (.scons (.dat (.int .i64) y0) (.scons (.dat .bool y1) (.scons (.dat (.int .i64) y2) (.scons (.dat (.sl (.int .i64)) y3) .snil)))))))), .dead, .dead, (.arr G64 y4), (.arr G69 y5)]⟩) x.1.2.2.2.2.1 x.2.1.2.2.1 x.2.1.2.2.2.1 x.2.1.2.2.2.2.1 x.2.1.2.2.2.2.2.1 x.2.2.2.2.1 x.2.2.2.2.2.1) (fun _ _ _ => rfl) (fun _ _ _ _ => rfl) (fun R x Kn k => by kernel_rfl)
theorem lm54 : ∀ c, Try.f54.body = some c → LmOk (E54) (C54) Try.f54.ntmps c := lmOk_of (ps := [(0, L54_1)]) (by kernel_rfl) (by kernel_rfl) ⟨ek54_1, trivial⟩
noncomputable def m54 (a0 : Int) (a1 : Int) (a2 : (List UInt8)) (a3 : Int) (a4 : Bool) (a5 : Int) (a6 : (List Int)) (a7 : (List T64)) (a8 : (List T69)) : Option F54o.ty :=
  bif (a2 == ([] : List UInt8)) then
    some (((()), ()), (((), (), a3, a4, a5, a6, ()), (), (), a7, a8, ()))
  else
    (m39 a0 a3 a4 a5 a6 a7 a8).bind fun r1 =>
    (m61 r1.1.1.2.1 a1 a2).bind fun r2 =>
    (m60 (r1.1.1.1, r2, r1.1.1.2.2.1, ()) r1.2.1.2.2.1 r1.2.1.2.2.2.1 r1.2.1.2.2.2.2.1 r1.2.1.2.2.2.2.2.1 r1.2.2.1 r1.2.2.2.1).bind fun r3 =>
    l54_1 a0 a1 a2 (fun y6 y7 y8 y9 y10 y11 =>
        some (((()), ()), (((), (), y6, y7, y8, y9, ()), (), (), y10, y11, ()))) FUEL (IntKind.i64.wrap (Int.tdiv a1 64)) r3.2.1.2.2.1 r3.2.1.2.2.2.1 r3.2.1.2.2.2.2.1 r3.2.1.2.2.2.2.2.1 r3.2.2.2.2.1 r3.2.2.2.2.2.1
theorem q54 (x : F54i.ty) : execF E54 C54 Try.f54 ((F54i.enc x).regs.map (·.2)) (F54i.enc x).heap (retB [(1, [5], (.sl (.int .i64))), (1, [0], (.cons .nil .opq)), (1, [1], (.cons .nil .opq)), (1, [1], (.cons .bool .opq)), (1, [2], (.cons .bool .opq))] [(1, [0], G64), (1, [1], G69)] 3 F54o) = m54 x.1.2.1 x.1.2.2.1 x.1.2.2.2.1 x.2.1.2.2.1 x.2.1.2.2.2.1 x.2.1.2.2.2.2.1 x.2.1.2.2.2.2.2.1 x.2.2.1 x.2.2.2.1 := by kernel_rfl
theorem R54 : CRun Try.prog 54 F54i F54o (fun x => m54 x.1.2.1 x.1.2.2.1 x.1.2.2.2.1 x.2.1.2.2.1 x.2.1.2.2.2.1 x.2.1.2.2.2.2.1 x.2.1.2.2.2.2.2.1 x.2.2.1 x.2.2.2.1) := st_runB (E := E54) ok54 ord lm54 Try.func54 rfl q54
noncomputable def c54 : CmE := stE 54 [(0, [5], (.sl (.int .i64)))] [(0, [0], G64), (0, [1], G69)] F54i F54o (fun x => m54 x.1.2.1 x.1.2.2.1 x.1.2.2.2.1 x.2.1.2.2.1 x.2.1.2.2.2.1 x.2.1.2.2.2.2.1 x.2.1.2.2.2.2.2.1 x.2.2.1 x.2.2.2.1)
theorem d54 : CmOk Try.prog c54 := st_ok ca54 R54

/-! 52: (*consol/consolref02.Disk).survive -/
theorem ca52 : callable Try.prog 52 := ⟨Try.f52, Try.func52, by kernel_rfl, by kernel_rfl⟩
abbrev F52i : ShS := ⟨[(0, (.box 0 [] 0)), (1, (.dat G69))], [(.box (.agg (.scons (.own 1) (.scons (.own 2) (.scons (.dat (.int .i64)) (.scons (.dat .bool) (.scons (.dat (.int .i64)) (.scons (.dat (.sl (.int .i64))) .snil)))))))), (.arr G64), (.arr G69)]⟩
abbrev F52o : ShS := ⟨[(0, (.tup .snil))], [(.box (.agg (.scons (.own 3) (.scons (.own 4) (.scons (.dat (.int .i64)) (.scons (.dat .bool) (.scons (.dat (.int .i64)) (.scons (.dat (.sl (.int .i64))) .snil)))))))), .dead, .dead, (.arr G64), (.arr G69)]⟩
noncomputable def E52 : Env := mkEnv2 Try.prog [e61] [c39, c60] [22]
theorem ok52 : EnvOk (E52) := mkEnv2_ok (by simp only [List.mem_cons, List.not_mem_nil, or_false, forall_eq]; exact p61) (by simp only [List.mem_cons, List.not_mem_nil, or_false, forall_eq_or_imp, forall_eq]; exact ⟨d39, d60⟩)
noncomputable def C52 : Cfg := mkCfg [(5, ⟨[0, 4], [], [(0, [0], (.cons .nil .opq)), (0, [1], (.cons .nil .opq))]⟩)] [] (([] : List (Nat × LE)).map (·.2))
theorem lm52 : ∀ c, Try.f52.body = some c → LmOk (E52) (C52) Try.f52.ntmps c := lmOk_of (ps := []) (by kernel_rfl) (by kernel_rfl) trivial
noncomputable def m52 (a0 : T69) (a1 : Int) (a2 : Bool) (a3 : Int) (a4 : (List Int)) (a5 : (List T64)) (a6 : (List T69)) : Option F52o.ty :=
  (m39 a0.1 a1 a2 a3 a4 a5 a6).bind fun r1 =>
  cont (fun (k3 : T64 → _) =>
    bif (decide ((IntKind.i64.wrap (64 * a0.2.1)) < (List.length r1.1.1.2.1 : Int))) then
      asrt true (bounds true (List.length r1.1.1.2.1) (IntKind.i64.wrap (64 * a0.2.1)) (bif decide ((List.length r1.1.1.2.1 : Int) < (IntKind.i64.wrap ((IntKind.i64.wrap (64 * a0.2.1)) + 64))) then (List.length r1.1.1.2.1 : Int) else (IntKind.i64.wrap ((IntKind.i64.wrap (64 * a0.2.1)) + 64)))) (
        (m61 r1.1.1.2.2.1 (IntKind.i64.wrap (64 * a0.2.1)) (subl r1.1.1.2.1 (IntKind.i64.wrap (64 * a0.2.1)) (bif decide ((List.length r1.1.1.2.1 : Int) < (IntKind.i64.wrap ((IntKind.i64.wrap (64 * a0.2.1)) + 64))) then (List.length r1.1.1.2.1 : Int) else (IntKind.i64.wrap ((IntKind.i64.wrap (64 * a0.2.1)) + 64))))).bind fun r2 =>
        k3 (r1.1.1.1, r1.1.1.2.1, r2, ()))
    else
      k3 r1.1.1) fun y3 =>
  (m60 y3 r1.2.1.2.2.1 r1.2.1.2.2.2.1 r1.2.1.2.2.2.2.1 r1.2.1.2.2.2.2.2.1 r1.2.2.1 r1.2.2.2.1).bind fun r4 =>
  some (((()), ()), (((), (), r4.2.1.2.2.1, r4.2.1.2.2.2.1, r4.2.1.2.2.2.2.1, r4.2.1.2.2.2.2.2.1, ()), (), (), r4.2.2.2.2.1, r4.2.2.2.2.2.1, ()))
theorem q52 (x : F52i.ty) : execF E52 C52 Try.f52 ((F52i.enc x).regs.map (·.2)) (F52i.enc x).heap (retB [(1, [5], (.sl (.int .i64))), (1, [0], (.cons .nil .opq)), (1, [1], (.cons .nil .opq)), (1, [1], (.cons .bool .opq)), (1, [2], (.cons .bool .opq))] [(1, [0], G64), (1, [1], G69)] 3 F52o) = m52 x.1.2.1 x.2.1.2.2.1 x.2.1.2.2.2.1 x.2.1.2.2.2.2.1 x.2.1.2.2.2.2.2.1 x.2.2.1 x.2.2.2.1 := by kernel_rfl
theorem R52 : CRun Try.prog 52 F52i F52o (fun x => m52 x.1.2.1 x.2.1.2.2.1 x.2.1.2.2.2.1 x.2.1.2.2.2.2.1 x.2.1.2.2.2.2.2.1 x.2.2.1 x.2.2.2.1) := st_runB (E := E52) ok52 ord lm52 Try.func52 rfl q52
noncomputable def c52 : CmE := stE 52 [(0, [5], (.sl (.int .i64)))] [(0, [0], G64), (0, [1], G69)] F52i F52o (fun x => m52 x.1.2.1 x.2.1.2.2.1 x.2.1.2.2.2.1 x.2.1.2.2.2.2.1 x.2.1.2.2.2.2.2.1 x.2.2.1 x.2.2.2.1)
theorem d52 : CmOk Try.prog c52 := st_ok ca52 R52

/-! 36: (*consol/consolref02.Disk).Crash -/
theorem ca36 : callable Try.prog 36 := ⟨Try.f36, Try.func36, by kernel_rfl, by kernel_rfl⟩
abbrev F36i : ShS := ⟨[(0, (.box 0 [] 0)), (1, (.dat (.sl (.int .i64))))], [(.box (.agg (.scons (.own 1) (.scons (.own 2) (.scons (.dat (.int .i64)) (.scons (.dat .bool) (.scons (.dat (.int .i64)) (.scons (.dat (.sl (.int .i64))) .snil)))))))), (.arr G64), (.arr G69)]⟩
abbrev F36o : ShS := ⟨[(0, (.tup .snil))], [(.box (.agg (.scons (.own 3) (.scons (.own 4) (.scons (.dat (.int .i64)) (.scons (.dat .bool) (.scons (.dat (.int .i64)) (.scons (.dat (.sl (.int .i64))) .snil)))))))), .dead, .dead, (.arr G64), (.arr G69)]⟩
noncomputable def E36 : Env := mkEnv2 Try.prog [] [c52]
theorem ok36 : EnvOk (E36) := mkEnv2_ok (by simp) (by simp only [List.mem_cons, List.not_mem_nil, or_false, forall_eq]; exact d52)
/-- a round of a loop of (*consol/consolref02.Disk).Crash -/
noncomputable def s36_1 {R : Type} (t1 : (List Int)) (kn : Int → Int → Bool → Int → (List Int) → (List T64) → (List T69) → Option R) (k1 : Int → Bool → Int → (List Int) → (List T64) → (List T69) → Option R) (t4 : Int) (o0 : Int) (o0_2 : Bool) (o0_3 : Int) (o0_4 : (List Int)) (o3 : (List T64)) (o4 : (List T69)) : Option R :=
  bif ((decide (t4 < (List.length o4 : Int))) && (decide ((List.length t1 : Int) > 0))) then
    cont (fun (k4 : (Int × Bool × Int × (List Int) × (List T64) × (List T69)) → _) =>
      asrt true ((List.length t1 : Int) != 0) (
        (idx t1 (Int.tmod t4 (List.length t1 : Int))).bind fun x1 =>
        bif ((IntKind.i64.wrap ((BitVec.ofInt IntKind.i64.bits x1 &&& BitVec.ofInt IntKind.i64.bits 1).toNat)) == 1) then
          asrt true (decide (0 ≤ t4) && decide (t4 < (List.length o4 : Int))) (
            ((o4)[(t4 : Int).toNat]?).bind fun x2 =>
            (m52 x2 o0 o0_2 o0_3 o0_4 o3 o4).bind fun r3 =>
            k4 (r3.2.1.2.2.1, r3.2.1.2.2.2.1, r3.2.1.2.2.2.2.1, r3.2.1.2.2.2.2.2.1, r3.2.2.2.2.1, r3.2.2.2.2.2.1))
        else
          k4 (o0, o0_2, o0_3, o0_4, o3, o4))) fun y4 =>
    kn (IntKind.i64.wrap (t4 + 1)) y4.1 y4.2.1 y4.2.2.1 y4.2.2.2.1 y4.2.2.2.2.1 y4.2.2.2.2.2
  else
    k1 o0 o0_2 o0_3 o0_4 o3 o4
noncomputable def l36_1 {R : Type} (t1 : (List Int)) (k1 : Int → Bool → Int → (List Int) → (List T64) → (List T69) → Option R) : Nat → Int → Int → Bool → Int → (List Int) → (List T64) → (List T69) → Option R
  | 0, _, _, _, _, _, _, _ => none
  | n + 1, t4, o0, o0_2, o0_3, o0_4, o3, o4 => s36_1 t1 (l36_1 t1 k1 n) k1 t4 o0 o0_2 o0_3 o0_4 o3 o4
noncomputable def L36_1 : LE := ⟨5, 3, ⟨[(0, (.box 0 [] 0)), (1, (.dat (.sl (.int .i64)))), (4, (.dat (.int .i64)))], [(.box (.agg (.scons (.own 3) (.scons (.own 4) (.scons (.dat (.int .i64)) (.scons (.dat .bool) (.scons (.dat (.int .i64)) (.scons (.dat (.sl (.int .i64))) .snil)))))))), .dead, .dead, (.arr G64), (.arr G69)]⟩, fun R n x k => l36_1 x.1.2.1 (fun y0 y1 y2 y3 y4 y5 => k (.exit 0) ⟨[(0, (.box 0 [] 0))], [(.box (.agg (.scons (.own 3) (.scons (.own 4) (.scons (.dat (.int .i64) y0) (.scons (.dat .bool y1) (.scons (.dat (.int .i64) y2) (.scons (.dat (.sl (.int .i64)) y3) .snil)))))))), .dead, .dead, (.arr G64 y4), (.arr G69 y5)]⟩) n x.1.2.2.1 x.2.1.2.2.1 x.2.1.2.2.2.1 x.2.1.2.2.2.2.1 x.2.1.2.2.2.2.2.1 x.2.2.2.2.1 x.2.2.2.2.2.1⟩
/-- a round of a loop of (*consol/consolref02.Disk).Crash -/
noncomputable def s36_2 {R : Type} (o4 : (List T64)) (kn : Int → (List T64) → Option R) (k1 : (List T64) → Option R) (t6 : Int) (o3 : (List T64)) : Option R :=
  bif (decide (t6 < (List.length o4 : Int))) then
    asrt true (decide (0 ≤ t6) && decide (t6 < (List.length o4 : Int))) (
      ((o4)[(t6 : Int).toNat]?).bind fun x11 =>
      asrt true (decide (0 ≤ t6) && decide (t6 < (List.length o4 : Int))) (
        ((o4)[(t6 : Int).toNat]?).bind fun x12 =>
        asrt true (decide (0 ≤ t6) && decide (t6 < (List.length o4 : Int))) (
          ((o4)[(t6 : Int).toNat]?).bind fun x13 =>
          asrt true (decide (List.length (α := T64) o3 + List.length (α := T64) [(x11.1, x12.2.2.1, x13.2.2.1, ())] ≤ LIM)) (
            kn (IntKind.i64.wrap (t6 + 1)) (o3 ++ [(x11.1, x12.2.2.1, x13.2.2.1, ())])))))
  else
    k1 o3
noncomputable def l36_2 {R : Type} (o4 : (List T64)) (k1 : (List T64) → Option R) : Nat → Int → (List T64) → Option R
  | 0, _, _ => none
  | n + 1, t6, o3 => s36_2 o4 (l36_2 o4 k1 n) k1 t6 o3
noncomputable def L36_2 : LE := ⟨11, 3, ⟨[(0, (.box 0 [] 0)), (5, (.own 3)), (6, (.dat (.int .i64)))], [(.box (.agg (.scons (.own 4) (.scons (.own 5) (.scons (.dat (.int .i64)) (.scons (.dat .bool) (.scons (.dat (.int .i64)) (.scons (.dat (.sl (.int .i64))) .snil)))))))), .dead, .dead, (.arr G64), (.arr G64), (.arr G69)]⟩, fun R n x k => l36_2 x.2.2.2.2.2.1 (fun y0 => k (.exit 2) ⟨[(0, (.box 0 [] 0)), (5, (.own 3))], [(.box (.agg (.scons (.own 4) (.scons (.own 5) (.scons (.dat (.int .i64) x.2.1.2.2.1) (.scons (.dat .bool x.2.1.2.2.2.1) (.scons (.dat (.int .i64) x.2.1.2.2.2.2.1) (.scons (.dat (.sl (.int .i64)) x.2.1.2.2.2.2.2.1) .snil)))))))), .dead, .dead, (.arr G64 y0), (.arr G64 x.2.2.2.2.2.1), (.arr G69 x.2.2.2.2.2.2.1)]⟩) n x.1.2.2.1 x.2.2.2.2.1⟩
noncomputable def C36 : Cfg := mkCfg [(5, ⟨[0, 1, 4], [], [(0, [0], (.cons .nil .opq)), (0, [1], (.cons .nil .opq))]⟩), (6, ⟨[0, 1, 4], [], [(0, [0], (.cons .nil .opq)), (0, [1], (.cons .nil .opq))]⟩), (11, ⟨[0, 5, 6], [(5, [], G64)], [(0, [0], (.cons .nil .opq)), (0, [1], (.cons .nil .opq))]⟩)] [(5, (⟨[0], [], []⟩, ⟨[], [], []⟩)), (11, (⟨[0, 5], [], []⟩, ⟨[], [], []⟩))] (([(0, L36_1), (1, L36_2)] : List (Nat × LE)).map (·.2))
theorem ek36_1 : EOk (E36) (C36) Try.f36.ntmps (bodyL Try.f36 0) (L36_1) := eok_of (e := L36_1) (fun R x Kn k => s36_1 x.1.2.1 (fun v0 v1 v2 v3 v4 v5 v6 => Kn (((), x.1.2.1, v0, ()), (((), (), v1, v2, v3, v4, ()), (), (), v5, v6, ()))) (fun y0 y1 y2 y3 y4 y5 => k (.exit 0) ⟨[(0, (.box 0 [] 0))], [(.box (.agg (.scons (.own 3) (.scons (.own 4) (.scons (.dat (.int .i64) y0) (.scons (.dat .bool y1) (.scons (.dat (.int .i64) y2) (.scons (.dat (.sl (.int .i64)) y3) .snil)))))))), .dead, .dead, (.arr G64 y4), (.arr G69 y5)]⟩) x.1.2.2.1 x.2.1.2.2.1 x.2.1.2.2.2.1 x.2.1.2.2.2.2.1 x.2.1.2.2.2.2.2.1 x.2.2.2.2.1 x.2.2.2.2.2.1) (fun _ _ _ => rfl) (fun _ _ _ _ => rfl) (fun R x Kn k => by kernel_rfl)
theorem ek36_2 : EOk (E36) (C36) Try.f36.ntmps (bodyL Try.f36 1) (L36_2) := eok_of (e := L36_2) (fun R x Kn k => s36_2 x.2.2.2.2.2.1 (fun v0 v1 => Kn (((), (), v0, ()), (((), (), x.2.1.2.2.1, x.2.1.2.2.2.1, x.2.1.2.2.2.2.1, x.2.1.2.2.2.2.2.1, ()), (), (), v1, x.2.2.2.2.2.1, x.2.2.2.2.2.2.1, ()))) (fun y0 => k (.exit 2) ⟨[(0, (.box 0 [] 0)), (5, (.own 3))], [(.box (.agg (.scons (.own 4) (.scons (.own 5) (.scons (.dat (.int .i64) x.2.1.2.2.1) (.scons (.dat .bool x.2.1.2.2.2.1) (.scons (.dat (.int .i64) x.2.1.2.2.2.2.1) (.scons (.dat (.sl (.int .i64)) x.2.1.2.2.2.2.2.1) .snil)))))))), .dead, .dead, (.arr G64 y0), (.arr G64 x.2.2.2.2.2.1), (.arr G69 x.2.2.2.2.2.2.1)]⟩) x.1.2.2.1 x.2.2.2.2.1) (fun _ _ _ => rfl) (fun _ _ _ _ => rfl) (fun R x Kn k => by kernel_rfl)
theorem lm36 : ∀ c, Try.f36.body = some c → LmOk (E36) (C36) Try.f36.ntmps c := lmOk_of (ps := [(0, L36_1), (1, L36_2)]) (by kernel_rfl) (by kernel_rfl) ⟨ek36_1, ek36_2, trivial⟩
noncomputable def m36 (a0 : (List Int)) (a1 : Int) (a2 : Bool) (a3 : Int) (a4 : (List Int)) (a5 : (List T64)) (a6 : (List T69)) : Option F36o.ty :=
  bif a2 then
    some (((()), ()), (((), (), a1, a2, a3, a4, ()), (), (), a5, a6, ()))
  else
    l36_1 a0 (fun y5 y6 y7 y8 y9 y10 =>
        l36_2 y9 (fun y14 =>
            some (((()), ()), (((), (), y5, y6, y7, y8, ()), (), (), y14, [], ()))) FUEL 0 []) FUEL 0 a1 true 0 a4 a5 a6
theorem q36 (x : F36i.ty) : execF E36 C36 Try.f36 ((F36i.enc x).regs.map (·.2)) (F36i.enc x).heap (retB [(1, [5], (.sl (.int .i64))), (1, [0], (.cons .nil .opq)), (1, [1], (.cons .nil .opq)), (1, [1], (.cons .bool .opq)), (1, [2], (.cons .bool .opq))] [(1, [0], G64), (1, [1], G69)] 3 F36o) = m36 x.1.2.1 x.2.1.2.2.1 x.2.1.2.2.2.1 x.2.1.2.2.2.2.1 x.2.1.2.2.2.2.2.1 x.2.2.1 x.2.2.2.1 := by kernel_rfl
theorem R36 : CRun Try.prog 36 F36i F36o (fun x => m36 x.1.2.1 x.2.1.2.2.1 x.2.1.2.2.2.1 x.2.1.2.2.2.2.1 x.2.1.2.2.2.2.2.1 x.2.2.1 x.2.2.2.1) := st_runB (E := E36) ok36 ord lm36 Try.func36 rfl q36
noncomputable def c36 : CmE := stE 36 [(0, [5], (.sl (.int .i64))), (1, [], (.sl (.int .i64)))] [(0, [0], G64), (0, [1], G69)] F36i F36o (fun x => m36 x.1.2.1 x.2.1.2.2.1 x.2.1.2.2.2.1 x.2.1.2.2.2.2.1 x.2.1.2.2.2.2.2.1 x.2.2.1 x.2.2.2.1)
theorem d36 : CmOk Try.prog c36 := st_ok ca36 R36

/-! 50: (*consol/consolref02.Disk).comes -/
theorem ca50 : callable Try.prog 50 := ⟨Try.f50, Try.func50, by kernel_rfl, by kernel_rfl⟩
abbrev F50i : ShS := ⟨[(0, (.box 0 [] 0)), (1, (.dat (.int .i64))), (2, (.dat (.int .i64))), (3, (.dat .str))], [(.box (.agg (.scons (.own 1) (.scons (.own 2) (.scons (.dat (.int .i64)) (.scons (.dat .bool) (.scons (.dat (.int .i64)) (.scons (.dat (.sl (.int .i64))) .snil)))))))), (.arr G64), (.arr G69)]⟩
abbrev F50o : ShS := ⟨[(0, (.tup .snil))], [(.box (.agg (.scons (.own 3) (.scons (.own 4) (.scons (.dat (.int .i64)) (.scons (.dat .bool) (.scons (.dat (.int .i64)) (.scons (.dat (.sl (.int .i64))) .snil)))))))), .dead, .dead, (.arr G64), (.arr G69)]⟩
noncomputable def E50 : Env := mkEnv2 Try.prog [e53] [c36, c54]
theorem ok50 : EnvOk (E50) := mkEnv2_ok (by simp only [List.mem_cons, List.not_mem_nil, or_false, forall_eq]; exact p53) (by simp only [List.mem_cons, List.not_mem_nil, or_false, forall_eq_or_imp, forall_eq]; exact ⟨d36, d54⟩)
noncomputable def C50 : Cfg := mkCfg [(6, ⟨[0], [], [(0, [0], (.cons .nil .opq)), (0, [1], (.cons .nil .opq))]⟩)] [] (([] : List (Nat × LE)).map (·.2))
theorem lm50 : ∀ c, Try.f50.body = some c → LmOk (E50) (C50) Try.f50.ntmps c := lmOk_of (ps := []) (by kernel_rfl) (by kernel_rfl) trivial
noncomputable def m50 (a0 : Int) (a1 : Int) (a2 : (List UInt8)) (a3 : Int) (a4 : Bool) (a5 : Int) (a6 : (List Int)) (a7 : (List T64)) (a8 : (List T69)) : Option F50o.ty :=
  bif (a4 || (a5 == 0)) then
    some (((()), ()), (((), (), a3, a4, a5, a6, ()), (), (), a7, a8, ()))
  else
    bif (decide ((IntKind.i64.wrap (a5 - 1)) > 0)) then
      some (((()), ()), (((), (), a3, a4, (IntKind.i64.wrap (a5 - 1)), a6, ()), (), (), a7, a8, ()))
    else
      cont (fun (k3 : (Int × Bool × Int × (List Int) × (List T64) × (List T69)) → _) =>
        (bif (((decide (a0 ≥ 0)) && (decide (a0 ≤ 15))) == true) then (m53 a1 a2) else some false).bind fun r1 =>
        bif (((decide (a0 ≥ 0)) && (decide (a0 ≤ 15))) && r1) then
          (m54 a0 a1 a2 a3 a4 (IntKind.i64.wrap (a5 - 1)) a6 a7 a8).bind fun r2 =>
          k3 (r2.2.1.2.2.1, r2.2.1.2.2.2.1, r2.2.1.2.2.2.2.1, r2.2.1.2.2.2.2.2.1, r2.2.2.2.2.1, r2.2.2.2.2.2.1)
        else
          k3 (a3, a4, (IntKind.i64.wrap (a5 - 1)), a6, a7, a8)) fun y3 =>
      (m36 y3.2.2.2.1 y3.1 y3.2.1 y3.2.2.1 y3.2.2.2.1 y3.2.2.2.2.1 y3.2.2.2.2.2).bind fun r4 =>
      some (((()), ()), (((), (), r4.2.1.2.2.1, r4.2.1.2.2.2.1, r4.2.1.2.2.2.2.1, r4.2.1.2.2.2.2.2.1, ()), (), (), r4.2.2.2.2.1, r4.2.2.2.2.2.1, ()))
theorem q50 (x : F50i.ty) : execF E50 C50 Try.f50 ((F50i.enc x).regs.map (·.2)) (F50i.enc x).heap (retB [(1, [5], (.sl (.int .i64))), (1, [0], (.cons .nil .opq)), (1, [1], (.cons .nil .opq)), (1, [1], (.cons .bool .opq)), (1, [2], (.cons .bool .opq))] [(1, [0], G64), (1, [1], G69)] 3 F50o) = m50 x.1.2.1 x.1.2.2.1 x.1.2.2.2.1 x.2.1.2.2.1 x.2.1.2.2.2.1 x.2.1.2.2.2.2.1 x.2.1.2.2.2.2.2.1 x.2.2.1 x.2.2.2.1 := by kernel_rfl
theorem R50 : CRun Try.prog 50 F50i F50o (fun x => m50 x.1.2.1 x.1.2.2.1 x.1.2.2.2.1 x.2.1.2.2.1 x.2.1.2.2.2.1 x.2.1.2.2.2.2.1 x.2.1.2.2.2.2.2.1 x.2.2.1 x.2.2.2.1) := st_runB (E := E50) ok50 ord lm50 Try.func50 rfl q50
noncomputable def c50 : CmE := stE 50 [(0, [5], (.sl (.int .i64)))] [(0, [0], G64), (0, [1], G69)] F50i F50o (fun x => m50 x.1.2.1 x.1.2.2.1 x.1.2.2.2.1 x.2.1.2.2.1 x.2.1.2.2.2.1 x.2.1.2.2.2.2.1 x.2.1.2.2.2.2.2.1 x.2.2.1 x.2.2.2.1)
theorem d50 : CmOk Try.prog c50 := st_ok ca50 R50

/-! 46: (*consol/consolref02.Disk).may -/
theorem ca46 : callable Try.prog 46 := ⟨Try.f46, Try.func46, by kernel_rfl, by kernel_rfl⟩
noncomputable def E46 : Env := mkEnv2 Try.prog [] []
theorem ok46 : EnvOk (E46) := mkEnv2_ok (by simp) (by simp)
noncomputable def C46 : Cfg := noCfg
theorem lm46 : ∀ c, Try.f46.body = some c → LmOk (E46) (C46) Try.f46.ntmps c := fun _ _ => noCfg_lm
noncomputable def m46 (a0 : T59) (a1 : Int) : Option (Int) :=
  bif a0.2.2.2.1 then
    some 8
  else
    bif ((decide (a1 < 0)) || (decide (a1 > 15))) then
      some 1
    else
      some 0
noncomputable def e46 : PmE := entryP 46 [true, false] [G59, (.int .i64)] false (.int .i64) (fun x => m46 x.1 x.2.1)
theorem q46 (x : tyL [G59, (.int .i64)]) : execF E46 C46 Try.f46 (datP [true, false] [G59, (.int .i64)] x) [] (retK false (.int .i64)) = m46 x.1 x.2.1 := by kernel_rfl
theorem p46 : PmOk Try.prog e46 := pmP_ok (E := E46) ok46 ord lm46 Try.func46 ca46 q46

/-! 51: (*consol/consolref02.Disk).settle -/
theorem ca51 : callable Try.prog 51 := ⟨Try.f51, Try.func51, by kernel_rfl, by kernel_rfl⟩
abbrev F51i : ShS := ⟨[(0, (.box 0 [] 0)), (1, (.dat (.int .i64))), (2, (.dat .str))], [(.box (.agg (.scons (.own 1) (.scons (.own 2) (.scons (.dat (.int .i64)) (.scons (.dat .bool) (.scons (.dat (.int .i64)) (.scons (.dat (.sl (.int .i64))) .snil)))))))), (.arr G64), (.arr G69)]⟩
abbrev F51o : ShS := ⟨[(0, (.tup .snil))], [(.box (.agg (.scons (.own 3) (.scons (.own 4) (.scons (.dat (.int .i64)) (.scons (.dat .bool) (.scons (.dat (.int .i64)) (.scons (.dat (.sl (.int .i64))) .snil)))))))), .dead, .dead, (.arr G64), (.arr G69)]⟩
noncomputable def E51 : Env := mkEnv2 Try.prog [] [c60]
theorem ok51 : EnvOk (E51) := mkEnv2_ok (by simp) (by simp only [List.mem_cons, List.not_mem_nil, or_false, forall_eq]; exact d60)
/-- a round of a loop of (*consol/consolref02.Disk).settle -/
noncomputable def s51_1 {R : Type} (t1 : Int) (o5 : (List T69)) (kn : Int → (List T69) → Option R) (k1 : (List T69) → Option R) (t7 : Int) (o3 : (List T69)) : Option R :=
  bif (decide (t7 < (List.length o5 : Int))) then
    cont (fun (k4 : (List T69) → _) =>
      asrt true (decide (0 ≤ t7) && decide (t7 < (List.length o5 : Int))) (
        ((o5)[(t7 : Int).toNat]?).bind fun x2 =>
        bif (x2.1 != t1) then
          asrt true (decide (0 ≤ t7) && decide (t7 < (List.length o5 : Int))) (
            ((o5)[(t7 : Int).toNat]?).bind fun x3 =>
            asrt true (decide (List.length (α := T69) o3 + List.length (α := T69) [x3] ≤ LIM)) (
              k4 (o3 ++ [x3])))
        else
          k4 o3)) fun y4 =>
    kn (IntKind.i64.wrap (t7 + 1)) y4
  else
    k1 o3
noncomputable def l51_1 {R : Type} (t1 : Int) (o5 : (List T69)) (k1 : (List T69) → Option R) : Nat → Int → (List T69) → Option R
  | 0, _, _ => none
  | n + 1, t7, o3 => s51_1 t1 o5 (l51_1 t1 o5 k1 n) k1 t7 o3
noncomputable def L51_1 : LE := ⟨4, 3, ⟨[(0, (.box 0 [] 0)), (1, (.dat (.int .i64))), (6, (.own 3)), (7, (.dat (.int .i64)))], [(.box (.agg (.scons (.own 4) (.scons (.own 5) (.scons (.dat (.int .i64)) (.scons (.dat .bool) (.scons (.dat (.int .i64)) (.scons (.dat (.sl (.int .i64))) .snil)))))))), .dead, .dead, (.arr G69), (.arr G64), (.arr G69)]⟩, fun R n x k => l51_1 x.1.2.1 x.2.2.2.2.2.2.1 (fun y0 => k (.exit 0) ⟨[(0, (.box 0 [] 0)), (6, (.own 3))], [(.box (.agg (.scons (.own 4) (.scons (.own 5) (.scons (.dat (.int .i64) x.2.1.2.2.1) (.scons (.dat .bool x.2.1.2.2.2.1) (.scons (.dat (.int .i64) x.2.1.2.2.2.2.1) (.scons (.dat (.sl (.int .i64)) x.2.1.2.2.2.2.2.1) .snil)))))))), .dead, .dead, (.arr G69 y0), (.arr G64 x.2.2.2.2.2.1), (.arr G69 x.2.2.2.2.2.2.1)]⟩) n x.1.2.2.2.1 x.2.2.2.2.1⟩
noncomputable def C51 : Cfg := mkCfg [(4, ⟨[0, 1, 6, 7], [(6, [], G69)], [(0, [0], (.cons .nil .opq)), (0, [1], (.cons .nil .opq))]⟩), (5, ⟨[0, 1, 6, 7], [(6, [], G69)], [(0, [0], (.cons .nil .opq)), (0, [1], (.cons .nil .opq))]⟩)] [(4, (⟨[0, 6], [], []⟩, ⟨[], [], []⟩))] (([(0, L51_1)] : List (Nat × LE)).map (·.2))
theorem ek51_1 : EOk (E51) (C51) Try.f51.ntmps (bodyL Try.f51 0) (L51_1) := eok_of (e := L51_1) (fun R x Kn k => s51_1 x.1.2.1 x.2.2.2.2.2.2.1 (fun v0 v1 => Kn (((), x.1.2.1, (), v0, ()), (((), (), x.2.1.2.2.1, x.2.1.2.2.2.1, x.2.1.2.2.2.2.1, x.2.1.2.2.2.2.2.1, ()), (), (), v1, x.2.2.2.2.2.1, x.2.2.2.2.2.2.1, ()))) (fun y0 => k (.exit 0) ⟨[(0, (.box 0 [] 0)), (6, (.own 3))], [(.box (.agg (.scons (.own 4) (.scons (.own 5) (.scons (.dat (.int .i64) x.2.1.2.2.1) (.scons (.dat .bool x.2.1.2.2.2.1) (.scons (.dat (.int .i64) x.2.1.2.2.2.2.1) (.scons (.dat (.sl (.int .i64)) x.2.1.2.2.2.2.2.1) .snil)))))))), .dead, .dead, (.arr G69 y0), (.arr G64 x.2.2.2.2.2.1), (.arr G69 x.2.2.2.2.2.2.1)]⟩) x.1.2.2.2.1 x.2.2.2.2.1) (fun _ _ _ => rfl) (fun _ _ _ _ => rfl) (fun R x Kn k => by kernel_rfl)
theorem lm51 : ∀ c, Try.f51.body = some c → LmOk (E51) (C51) Try.f51.ntmps c := lmOk_of (ps := [(0, L51_1)]) (by kernel_rfl) (by kernel_rfl) ⟨ek51_1, trivial⟩
noncomputable def m51 (a0 : Int) (a1 : (List UInt8)) (a2 : Int) (a3 : Bool) (a4 : Int) (a5 : (List Int)) (a6 : (List T64)) (a7 : (List T69)) : Option F51o.ty :=
  (m60 (a0, a1, a1, ()) a2 a3 a4 a5 a6 a7).bind fun r1 =>
  l51_1 a0 r1.2.2.2.2.2.1 (fun y5 =>
      some (((()), ()), (((), (), r1.2.1.2.2.1, r1.2.1.2.2.2.1, r1.2.1.2.2.2.2.1, r1.2.1.2.2.2.2.2.1, ()), (), (), r1.2.2.2.2.1, y5, ()))) FUEL 0 []
theorem q51 (x : F51i.ty) : execF E51 C51 Try.f51 ((F51i.enc x).regs.map (·.2)) (F51i.enc x).heap (retB [(1, [5], (.sl (.int .i64))), (1, [0], (.cons .nil .opq)), (1, [1], (.cons .nil .opq)), (1, [1], (.cons .bool .opq)), (1, [2], (.cons .bool .opq))] [(1, [0], G64), (1, [1], G69)] 3 F51o) = m51 x.1.2.1 x.1.2.2.1 x.2.1.2.2.1 x.2.1.2.2.2.1 x.2.1.2.2.2.2.1 x.2.1.2.2.2.2.2.1 x.2.2.1 x.2.2.2.1 := by kernel_rfl
theorem R51 : CRun Try.prog 51 F51i F51o (fun x => m51 x.1.2.1 x.1.2.2.1 x.2.1.2.2.1 x.2.1.2.2.2.1 x.2.1.2.2.2.2.1 x.2.1.2.2.2.2.2.1 x.2.2.1 x.2.2.2.1) := st_runB (E := E51) ok51 ord lm51 Try.func51 rfl q51
noncomputable def c51 : CmE := stE 51 [(0, [5], (.sl (.int .i64)))] [(0, [0], G64), (0, [1], G69)] F51i F51o (fun x => m51 x.1.2.1 x.1.2.2.1 x.2.1.2.2.1 x.2.1.2.2.2.1 x.2.1.2.2.2.2.1 x.2.1.2.2.2.2.2.1 x.2.2.1 x.2.2.2.1)
theorem d51 : CmOk Try.prog c51 := st_ok ca51 R51

/-! 32: (*consol/consolref02.Disk).Sync -/
theorem ca32 : callable Try.prog 32 := ⟨Try.f32, Try.func32, by kernel_rfl, by kernel_rfl⟩
abbrev F32i : ShS := ⟨[(0, (.box 0 [] 0)), (1, (.dat (.int .i64)))], [(.box (.agg (.scons (.own 1) (.scons (.own 2) (.scons (.dat (.int .i64)) (.scons (.dat .bool) (.scons (.dat (.int .i64)) (.scons (.dat (.sl (.int .i64))) .snil)))))))), (.arr G64), (.arr G69)]⟩
abbrev F32o : ShS := ⟨[(0, (.dat (.int .i64)))], [(.box (.agg (.scons (.own 3) (.scons (.own 4) (.scons (.dat (.int .i64)) (.scons (.dat .bool) (.scons (.dat (.int .i64)) (.scons (.dat (.sl (.int .i64))) .snil)))))))), .dead, .dead, (.arr G64), (.arr G69)]⟩
noncomputable def E32 : Env := mkEnv2 Try.prog [e46] [c39, c50, c51]
theorem ok32 : EnvOk (E32) := mkEnv2_ok (by simp only [List.mem_cons, List.not_mem_nil, or_false, forall_eq]; exact p46) (by simp only [List.mem_cons, List.not_mem_nil, or_false, forall_eq_or_imp, forall_eq]; exact ⟨d39, d50, d51⟩)
noncomputable def C32 : Cfg := noCfg
theorem lm32 : ∀ c, Try.f32.body = some c → LmOk (E32) (C32) Try.f32.ntmps c := fun _ _ => noCfg_lm
noncomputable def m32 (a0 : Int) (a1 : Int) (a2 : Bool) (a3 : Int) (a4 : (List Int)) (a5 : (List T64)) (a6 : (List T69)) : Option F32o.ty :=
  (m50 0 0 [] a1 a2 a3 a4 a5 a6).bind fun r1 =>
  (m46 (r1.2.2.2.2.1, r1.2.2.2.2.2.1, r1.2.1.2.2.1, r1.2.1.2.2.2.1, r1.2.1.2.2.2.2.1, r1.2.1.2.2.2.2.2.1, ()) a0).bind fun r2 =>
  bif (r2 != 0) then
    some ((r2, ()), (((), (), r1.2.1.2.2.1, r1.2.1.2.2.2.1, r1.2.1.2.2.2.2.1, r1.2.1.2.2.2.2.2.1, ()), (), (), r1.2.2.2.2.1, r1.2.2.2.2.2.1, ()))
  else
    bif (decide (r1.2.1.2.2.1 > 0)) then
      some ((9, ()), (((), (), (IntKind.i64.wrap (r1.2.1.2.2.1 - 1)), r1.2.1.2.2.2.1, r1.2.1.2.2.2.2.1, r1.2.1.2.2.2.2.2.1, ()), (), (), r1.2.2.2.2.1, r1.2.2.2.2.2.1, ()))
    else
      (m39 a0 r1.2.1.2.2.1 r1.2.1.2.2.2.1 r1.2.1.2.2.2.2.1 r1.2.1.2.2.2.2.2.1 r1.2.2.2.2.1 r1.2.2.2.2.2.1).bind fun r3 =>
      (m51 a0 r3.1.1.2.1 r3.2.1.2.2.1 r3.2.1.2.2.2.1 r3.2.1.2.2.2.2.1 r3.2.1.2.2.2.2.2.1 r3.2.2.1 r3.2.2.2.1).bind fun r4 =>
      some ((0, ()), (((), (), r4.2.1.2.2.1, r4.2.1.2.2.2.1, r4.2.1.2.2.2.2.1, r4.2.1.2.2.2.2.2.1, ()), (), (), r4.2.2.2.2.1, r4.2.2.2.2.2.1, ()))
theorem q32 (x : F32i.ty) : execF E32 C32 Try.f32 ((F32i.enc x).regs.map (·.2)) (F32i.enc x).heap (retB [(1, [5], (.sl (.int .i64))), (1, [0], (.cons .nil .opq)), (1, [1], (.cons .nil .opq)), (1, [1], (.cons .bool .opq)), (1, [2], (.cons .bool .opq))] [(1, [0], G64), (1, [1], G69)] 3 F32o) = m32 x.1.2.1 x.2.1.2.2.1 x.2.1.2.2.2.1 x.2.1.2.2.2.2.1 x.2.1.2.2.2.2.2.1 x.2.2.1 x.2.2.2.1 := by kernel_rfl
theorem R32 : CRun Try.prog 32 F32i F32o (fun x => m32 x.1.2.1 x.2.1.2.2.1 x.2.1.2.2.2.1 x.2.1.2.2.2.2.1 x.2.1.2.2.2.2.2.1 x.2.2.1 x.2.2.2.1) := st_runB (E := E32) ok32 ord lm32 Try.func32 rfl q32
noncomputable def c32 : CmE := stE 32 [(0, [5], (.sl (.int .i64)))] [(0, [0], G64), (0, [1], G69)] F32i F32o (fun x => m32 x.1.2.1 x.2.1.2.2.1 x.2.1.2.2.2.1 x.2.1.2.2.2.2.1 x.2.1.2.2.2.2.2.1 x.2.2.1 x.2.2.2.1)
theorem d32 : CmOk Try.prog c32 := st_ok ca32 R32

/-! 33: (*consol/consolref02.Disk).Truncate -/
theorem ca33 : callable Try.prog 33 := ⟨Try.f33, Try.func33, by kernel_rfl, by kernel_rfl⟩
abbrev F33i : ShS := ⟨[(0, (.box 0 [] 0)), (1, (.dat (.int .i64))), (2, (.dat (.int .i64)))], [(.box (.agg (.scons (.own 1) (.scons (.own 2) (.scons (.dat (.int .i64)) (.scons (.dat .bool) (.scons (.dat (.int .i64)) (.scons (.dat (.sl (.int .i64))) .snil)))))))), (.arr G64), (.arr G69)]⟩
abbrev F33o : ShS := ⟨[(0, (.dat (.int .i64)))], [(.box (.agg (.scons (.own 3) (.scons (.own 4) (.scons (.dat (.int .i64)) (.scons (.dat .bool) (.scons (.dat (.int .i64)) (.scons (.dat (.sl (.int .i64))) .snil)))))))), .dead, .dead, (.arr G64), (.arr G69)]⟩
noncomputable def E33 : Env := mkEnv2 Try.prog [e46] [c39, c50, c51] [31]
theorem ok33 : EnvOk (E33) := mkEnv2_ok (by simp only [List.mem_cons, List.not_mem_nil, or_false, forall_eq]; exact p46) (by simp only [List.mem_cons, List.not_mem_nil, or_false, forall_eq_or_imp, forall_eq]; exact ⟨d39, d50, d51⟩)
noncomputable def C33 : Cfg := noCfg
theorem lm33 : ∀ c, Try.f33.body = some c → LmOk (E33) (C33) Try.f33.ntmps c := fun _ _ => noCfg_lm
noncomputable def m33 (a0 : Int) (a1 : Int) (a2 : Int) (a3 : Bool) (a4 : Int) (a5 : (List Int)) (a6 : (List T64)) (a7 : (List T69)) : Option F33o.ty :=
  (m50 0 0 [] a2 a3 a4 a5 a6 a7).bind fun r1 =>
  (m46 (r1.2.2.2.2.1, r1.2.2.2.2.2.1, r1.2.1.2.2.1, r1.2.1.2.2.2.1, r1.2.1.2.2.2.2.1, r1.2.1.2.2.2.2.2.1, ()) a0).bind fun r2 =>
  bif (r2 != 0) then
    some ((r2, ()), (((), (), r1.2.1.2.2.1, r1.2.1.2.2.2.1, r1.2.1.2.2.2.2.1, r1.2.1.2.2.2.2.2.1, ()), (), (), r1.2.2.2.2.1, r1.2.2.2.2.2.1, ()))
  else
    (m39 a0 r1.2.1.2.2.1 r1.2.1.2.2.2.1 r1.2.1.2.2.2.2.1 r1.2.1.2.2.2.2.2.1 r1.2.2.2.2.1 r1.2.2.2.2.2.1).bind fun r3 =>
    bif ((decide (a1 < 0)) || (decide (a1 > (List.length r3.1.1.2.1 : Int)))) then
      some ((1, ()), (((), (), r3.2.1.2.2.1, r3.2.1.2.2.2.1, r3.2.1.2.2.2.2.1, r3.2.1.2.2.2.2.2.1, ()), (), (), r3.2.2.1, r3.2.2.2.1, ()))
    else
      asrt true (bounds true (List.length r3.1.1.2.1) 0 a1) (
        (m51 a0 (subl r3.1.1.2.1 0 a1) r3.2.1.2.2.1 r3.2.1.2.2.2.1 r3.2.1.2.2.2.2.1 r3.2.1.2.2.2.2.2.1 r3.2.2.1 r3.2.2.2.1).bind fun r4 =>
        some ((0, ()), (((), (), r4.2.1.2.2.1, r4.2.1.2.2.2.1, r4.2.1.2.2.2.2.1, r4.2.1.2.2.2.2.2.1, ()), (), (), r4.2.2.2.2.1, r4.2.2.2.2.2.1, ())))
theorem q33 (x : F33i.ty) : execF E33 C33 Try.f33 ((F33i.enc x).regs.map (·.2)) (F33i.enc x).heap (retB [(1, [5], (.sl (.int .i64))), (1, [0], (.cons .nil .opq)), (1, [1], (.cons .nil .opq)), (1, [1], (.cons .bool .opq)), (1, [2], (.cons .bool .opq))] [(1, [0], G64), (1, [1], G69)] 3 F33o) = m33 x.1.2.1 x.1.2.2.1 x.2.1.2.2.1 x.2.1.2.2.2.1 x.2.1.2.2.2.2.1 x.2.1.2.2.2.2.2.1 x.2.2.1 x.2.2.2.1 := by kernel_rfl
theorem R33 : CRun Try.prog 33 F33i F33o (fun x => m33 x.1.2.1 x.1.2.2.1 x.2.1.2.2.1 x.2.1.2.2.2.1 x.2.1.2.2.2.2.1 x.2.1.2.2.2.2.2.1 x.2.2.1 x.2.2.2.1) := st_runB (E := E33) ok33 ord lm33 Try.func33 rfl q33
noncomputable def c33 : CmE := stE 33 [(0, [5], (.sl (.int .i64)))] [(0, [0], G64), (0, [1], G69)] F33i F33o (fun x => m33 x.1.2.1 x.1.2.2.1 x.2.1.2.2.1 x.2.1.2.2.2.1 x.2.1.2.2.2.2.1 x.2.1.2.2.2.2.2.1 x.2.2.1 x.2.2.2.1)
theorem d33 : CmOk Try.prog c33 := st_ok ca33 R33

/-! 38: (*consol/consolref02.Disk).Write -/
theorem ca38 : callable Try.prog 38 := ⟨Try.f38, Try.func38, by kernel_rfl, by kernel_rfl⟩
abbrev F38i : ShS := ⟨[(0, (.box 0 [] 0)), (1, (.dat (.int .i64))), (2, (.dat (.int .i64))), (3, (.dat .str))], [(.box (.agg (.scons (.own 1) (.scons (.own 2) (.scons (.dat (.int .i64)) (.scons (.dat .bool) (.scons (.dat (.int .i64)) (.scons (.dat (.sl (.int .i64))) .snil)))))))), (.arr G64), (.arr G69)]⟩
abbrev F38o : ShS := ⟨[(0, (.dat (.int .i64)))], [(.box (.agg (.scons (.own 3) (.scons (.own 4) (.scons (.dat (.int .i64)) (.scons (.dat .bool) (.scons (.dat (.int .i64)) (.scons (.dat (.sl (.int .i64))) .snil)))))))), .dead, .dead, (.arr G64), (.arr G69)]⟩
noncomputable def E38 : Env := mkEnv2 Try.prog [e46, e53] [c50, c54]
theorem ok38 : EnvOk (E38) := mkEnv2_ok (by simp only [List.mem_cons, List.not_mem_nil, or_false, forall_eq_or_imp, forall_eq]; exact ⟨p46, p53⟩) (by simp only [List.mem_cons, List.not_mem_nil, or_false, forall_eq_or_imp, forall_eq]; exact ⟨d50, d54⟩)
noncomputable def C38 : Cfg := noCfg
theorem lm38 : ∀ c, Try.f38.body = some c → LmOk (E38) (C38) Try.f38.ntmps c := fun _ _ => noCfg_lm
noncomputable def m38 (a0 : Int) (a1 : Int) (a2 : (List UInt8)) (a3 : Int) (a4 : Bool) (a5 : Int) (a6 : (List Int)) (a7 : (List T64)) (a8 : (List T69)) : Option F38o.ty :=
  (m50 a0 a1 a2 a3 a4 a5 a6 a7 a8).bind fun r1 =>
  (m46 (r1.2.2.2.2.1, r1.2.2.2.2.2.1, r1.2.1.2.2.1, r1.2.1.2.2.2.1, r1.2.1.2.2.2.2.1, r1.2.1.2.2.2.2.2.1, ()) a0).bind fun r2 =>
  bif (r2 != 0) then
    some ((r2, ()), (((), (), r1.2.1.2.2.1, r1.2.1.2.2.2.1, r1.2.1.2.2.2.2.1, r1.2.1.2.2.2.2.2.1, ()), (), (), r1.2.2.2.2.1, r1.2.2.2.2.2.1, ()))
  else
    bif (decide (a1 < 0)) then
      some ((1, ()), (((), (), r1.2.1.2.2.1, r1.2.1.2.2.2.1, r1.2.1.2.2.2.2.1, r1.2.1.2.2.2.2.2.1, ()), (), (), r1.2.2.2.2.1, r1.2.2.2.2.2.1, ()))
    else
      (m53 a1 a2).bind fun r3 =>
      bif (!r3) then
        some ((6, ()), (((), (), r1.2.1.2.2.1, r1.2.1.2.2.2.1, r1.2.1.2.2.2.2.1, r1.2.1.2.2.2.2.2.1, ()), (), (), r1.2.2.2.2.1, r1.2.2.2.2.2.1, ()))
      else
        (m54 a0 a1 a2 r1.2.1.2.2.1 r1.2.1.2.2.2.1 r1.2.1.2.2.2.2.1 r1.2.1.2.2.2.2.2.1 r1.2.2.2.2.1 r1.2.2.2.2.2.1).bind fun r4 =>
        some ((0, ()), (((), (), r4.2.1.2.2.1, r4.2.1.2.2.2.1, r4.2.1.2.2.2.2.1, r4.2.1.2.2.2.2.2.1, ()), (), (), r4.2.2.2.2.1, r4.2.2.2.2.2.1, ()))
theorem q38 (x : F38i.ty) : execF E38 C38 Try.f38 ((F38i.enc x).regs.map (·.2)) (F38i.enc x).heap (retB [(1, [5], (.sl (.int .i64))), (1, [0], (.cons .nil .opq)), (1, [1], (.cons .nil .opq)), (1, [1], (.cons .bool .opq)), (1, [2], (.cons .bool .opq))] [(1, [0], G64), (1, [1], G69)] 3 F38o) = m38 x.1.2.1 x.1.2.2.1 x.1.2.2.2.1 x.2.1.2.2.1 x.2.1.2.2.2.1 x.2.1.2.2.2.2.1 x.2.1.2.2.2.2.2.1 x.2.2.1 x.2.2.2.1 := by kernel_rfl
theorem R38 : CRun Try.prog 38 F38i F38o (fun x => m38 x.1.2.1 x.1.2.2.1 x.1.2.2.2.1 x.2.1.2.2.1 x.2.1.2.2.2.1 x.2.1.2.2.2.2.1 x.2.1.2.2.2.2.2.1 x.2.2.1 x.2.2.2.1) := st_runB (E := E38) ok38 ord lm38 Try.func38 rfl q38
noncomputable def c38 : CmE := stE 38 [(0, [5], (.sl (.int .i64)))] [(0, [0], G64), (0, [1], G69)] F38i F38o (fun x => m38 x.1.2.1 x.1.2.2.1 x.1.2.2.2.1 x.2.1.2.2.1 x.2.1.2.2.2.1 x.2.1.2.2.2.2.1 x.2.1.2.2.2.2.2.1 x.2.2.1 x.2.2.2.1)
theorem d38 : CmOk Try.prog c38 := st_ok ca38 R38

/-! 13: consol/consollaw02.tell -/
theorem ca13 : callable Try.prog 13 := ⟨Try.f13, Try.func13, by kernel_rfl, by kernel_rfl⟩
abbrev F13i : ShS := ⟨[(0, (.box 0 [] 0)), (1, (.dat G32))], [(.box (.agg (.scons (.own 1) (.scons (.own 2) (.scons (.dat (.int .i64)) (.scons (.dat .bool) (.scons (.dat (.int .i64)) (.scons (.dat (.sl (.int .i64))) .snil)))))))), (.arr G64), (.arr G69)]⟩
abbrev F13o : ShS := ⟨[(0, (.dat (.int .i64)))], [(.box (.agg (.scons (.own 3) (.scons (.own 4) (.scons (.dat (.int .i64)) (.scons (.dat .bool) (.scons (.dat (.int .i64)) (.scons (.dat (.sl (.int .i64))) .snil)))))))), .dead, .dead, (.arr G64), (.arr G69)]⟩
theorem ca34 : callable Try.prog 34 := ⟨Try.f34, Try.func34, by kernel_rfl, by kernel_rfl⟩
noncomputable def E13i34 : Env := mkEnv2 Try.prog [] []
theorem ok13i34 : EnvOk (E13i34) := mkEnv2_ok (by simp) (by simp)
noncomputable def C13i34 : Cfg := noCfg
theorem lm13i34 : ∀ c, Try.f34.body = some c → LmOk (E13i34) (C13i34) Try.f34.ntmps c := fun _ _ => noCfg_lm
noncomputable def c13i34 : CmE := inl E13i34 C13i34 34 Try.f34
theorem d13i34 : CmOk Try.prog c13i34 := inl_ok (E := E13i34) ok13i34 ord lm13i34 Try.func34 ca34

theorem ca35 : callable Try.prog 35 := ⟨Try.f35, Try.func35, by kernel_rfl, by kernel_rfl⟩
noncomputable def E13i35 : Env := mkEnv2 Try.prog [] []
theorem ok13i35 : EnvOk (E13i35) := mkEnv2_ok (by simp) (by simp)
noncomputable def C13i35 : Cfg := noCfg
theorem lm13i35 : ∀ c, Try.f35.body = some c → LmOk (E13i35) (C13i35) Try.f35.ntmps c := fun _ _ => noCfg_lm
noncomputable def c13i35 : CmE := inl E13i35 C13i35 35 Try.f35
theorem d13i35 : CmOk Try.prog c13i35 := inl_ok (E := E13i35) ok13i35 ord lm13i35 Try.func35 ca35

theorem ca37 : callable Try.prog 37 := ⟨Try.f37, Try.func37, by kernel_rfl, by kernel_rfl⟩
noncomputable def E13i37 : Env := mkEnv2 Try.prog [] []
theorem ok13i37 : EnvOk (E13i37) := mkEnv2_ok (by simp) (by simp)
noncomputable def C13i37 : Cfg := noCfg
theorem lm13i37 : ∀ c, Try.f37.body = some c → LmOk (E13i37) (C13i37) Try.f37.ntmps c := fun _ _ => noCfg_lm
noncomputable def c13i37 : CmE := inl E13i37 C13i37 37 Try.f37
theorem d13i37 : CmOk Try.prog c13i37 := inl_ok (E := E13i37) ok13i37 ord lm13i37 Try.func37 ca37

noncomputable def E13 : Env := mkEnv2 Try.prog [] [c32, c33, c13i34, c13i35, c36, c13i37, c38]
theorem ok13 : EnvOk (E13) := mkEnv2_ok (by simp) (by simp only [List.mem_cons, List.not_mem_nil, or_false, forall_eq_or_imp, forall_eq]; exact ⟨d32, d33, d13i34, d13i35, d36, d13i37, d38⟩)
noncomputable def C13 : Cfg := mkCfg [(16, ⟨[], [], [(0, [0], (.cons .nil .opq)), (0, [1], (.cons .nil .opq))]⟩)] [] (([] : List (Nat × LE)).map (·.2))
theorem lm13 : ∀ c, Try.f13.body = some c → LmOk (E13) (C13) Try.f13.ntmps c := lmOk_of (ps := []) (by kernel_rfl) (by kernel_rfl) trivial
noncomputable def m13 (a0 : T32) (a1 : Int) (a2 : Bool) (a3 : Int) (a4 : (List Int)) (a5 : (List T64)) (a6 : (List T69)) : Option F13o.ty :=
  bif ((IntKind.i64.wrap ((BitVec.ofInt IntKind.i64.bits a0.1 &&& BitVec.ofInt IntKind.i64.bits 7).toNat)) == 2) then
    (m32 a0.2.1 a1 a2 a3 a4 a5 a6).bind fun r1 =>
    some ((r1.1.1, ()), (((), (), r1.2.1.2.2.1, r1.2.1.2.2.2.1, r1.2.1.2.2.2.2.1, r1.2.1.2.2.2.2.2.1, ()), (), (), r1.2.2.2.2.1, r1.2.2.2.2.2.1, ()))
  else
    bif ((IntKind.i64.wrap ((BitVec.ofInt IntKind.i64.bits a0.1 &&& BitVec.ofInt IntKind.i64.bits 7).toNat)) == 3) then
      (m33 a0.2.1 a0.2.2.1 a1 a2 a3 a4 a5 a6).bind fun r2 =>
      some ((r2.1.1, ()), (((), (), r2.2.1.2.2.1, r2.2.1.2.2.2.1, r2.2.1.2.2.2.2.1, r2.2.1.2.2.2.2.2.1, ()), (), (), r2.2.2.2.2.1, r2.2.2.2.2.2.1, ()))
    else
      bif ((IntKind.i64.wrap ((BitVec.ofInt IntKind.i64.bits a0.1 &&& BitVec.ofInt IntKind.i64.bits 7).toNat)) == 4) then
        some ((0, ()), (((), (), (bif decide (0 > (IntKind.i64.wrap ((BitVec.ofInt IntKind.i64.bits a0.2.2.1 &&& BitVec.ofInt IntKind.i64.bits 3).toNat))) then 0 else (IntKind.i64.wrap ((BitVec.ofInt IntKind.i64.bits a0.2.2.1 &&& BitVec.ofInt IntKind.i64.bits 3).toNat))), a2, a3, a4, ()), (), (), a5, a6, ()))
      else
        bif ((IntKind.i64.wrap ((BitVec.ofInt IntKind.i64.bits a0.1 &&& BitVec.ofInt IntKind.i64.bits 7).toNat)) == 5) then
          asrt true (decide (List.length (α := Int) a0.2.2.2.2.1 ≤ LIM)) (
            some ((0, ()), (((), (), a1, a2, (bif decide (0 > a0.2.2.1) then 0 else a0.2.2.1), a0.2.2.2.2.1, ()), (), (), a5, a6, ())))
        else
          bif ((IntKind.i64.wrap ((BitVec.ofInt IntKind.i64.bits a0.1 &&& BitVec.ofInt IntKind.i64.bits 7).toNat)) == 6) then
            (m36 a0.2.2.2.2.1 a1 a2 a3 a4 a5 a6).bind fun r3 =>
            some ((0, ()), (((), (), r3.2.1.2.2.1, r3.2.1.2.2.2.1, r3.2.1.2.2.2.2.1, r3.2.1.2.2.2.2.2.1, ()), (), (), r3.2.2.2.2.1, r3.2.2.2.2.2.1, ()))
          else
            bif ((IntKind.i64.wrap ((BitVec.ofInt IntKind.i64.bits a0.1 &&& BitVec.ofInt IntKind.i64.bits 7).toNat)) == 7) then
              some ((0, ()), (((), (), a1, false, a3, a4, ()), (), (), a5, a6, ()))
            else
              (m38 a0.2.1 a0.2.2.1 a0.2.2.2.1 a1 a2 a3 a4 a5 a6).bind fun r4 =>
              some ((r4.1.1, ()), (((), (), r4.2.1.2.2.1, r4.2.1.2.2.2.1, r4.2.1.2.2.2.2.1, r4.2.1.2.2.2.2.2.1, ()), (), (), r4.2.2.2.2.1, r4.2.2.2.2.2.1, ()))
theorem q13 (x : F13i.ty) : execF E13 C13 Try.f13 ((F13i.enc x).regs.map (·.2)) (F13i.enc x).heap (retB [(1, [5], (.sl (.int .i64))), (1, [0], (.cons .nil .opq)), (1, [1], (.cons .nil .opq)), (1, [1], (.cons .bool .opq)), (1, [2], (.cons .bool .opq))] [(1, [0], G64), (1, [1], G69)] 3 F13o) = m13 x.1.2.1 x.2.1.2.2.1 x.2.1.2.2.2.1 x.2.1.2.2.2.2.1 x.2.1.2.2.2.2.2.1 x.2.2.1 x.2.2.2.1 := by kernel_rfl
theorem R13 : CRun Try.prog 13 F13i F13o (fun x => m13 x.1.2.1 x.2.1.2.2.1 x.2.1.2.2.2.1 x.2.1.2.2.2.2.1 x.2.1.2.2.2.2.2.1 x.2.2.1 x.2.2.2.1) := st_runB (E := E13) ok13 ord lm13 Try.func13 rfl q13
noncomputable def c13 : CmE := stE 13 [(0, [5], (.sl (.int .i64)))] [(0, [0], G64), (0, [1], G69)] F13i F13o (fun x => m13 x.1.2.1 x.2.1.2.2.1 x.2.1.2.2.2.1 x.2.1.2.2.2.2.1 x.2.1.2.2.2.2.2.1 x.2.2.1 x.2.2.2.1)
theorem d13 : CmOk Try.prog c13 := st_ok ca13 R13

/-! 15: (*consol/consolref02.Disk).Down -/
theorem ca15 : callable Try.prog 15 := ⟨Try.f15, Try.func15, by kernel_rfl, by kernel_rfl⟩
noncomputable def E15 : Env := mkEnv2 Try.prog [] []
theorem ok15 : EnvOk (E15) := mkEnv2_ok (by simp) (by simp)
noncomputable def C15 : Cfg := noCfg
theorem lm15 : ∀ c, Try.f15.body = some c → LmOk (E15) (C15) Try.f15.ntmps c := fun _ _ => noCfg_lm
noncomputable def m15 (a0 : T59) : Option (Bool) :=
  some a0.2.2.2.1
noncomputable def e15 : PmE := entryP 15 [true] [G59] false .bool (fun x => m15 x.1)
theorem q15 (x : tyL [G59]) : execF E15 C15 Try.f15 (datP [true] [G59] x) [] (retK false .bool) = m15 x.1 := by kernel_rfl
theorem p15 : PmOk Try.prog e15 := pmP_ok (E := E15) ok15 ord lm15 Try.func15 ca15 q15

/-! 21: (*consol/consolref02.Disk).Read -/
theorem ca21 : callable Try.prog 21 := ⟨Try.f21, Try.func21, by kernel_rfl, by kernel_rfl⟩
abbrev F21i : ShS := ⟨[(0, (.box 0 [] 0)), (1, (.dat (.int .i64))), (2, (.dat (.int .i64))), (3, (.dat (.int .i64)))], [(.box (.agg (.scons (.own 1) (.scons (.own 2) (.scons (.dat (.int .i64)) (.scons (.dat .bool) (.scons (.dat (.int .i64)) (.scons (.dat (.sl (.int .i64))) .snil)))))))), (.arr G64), (.arr G69)]⟩
abbrev F21o : ShS := ⟨[(0, (.tup (.scons (.dat .str) (.scons (.dat (.int .i64)) .snil))))], [(.box (.agg (.scons (.own 1) (.scons (.own 2) (.scons (.dat (.int .i64)) (.scons (.dat .bool) (.scons (.dat (.int .i64)) (.scons (.dat (.sl (.int .i64))) .snil)))))))), (.arr G64), (.arr G69)]⟩
noncomputable def E21 : Env := mkEnv2 Try.prog [e46] [c39]
theorem ok21 : EnvOk (E21) := mkEnv2_ok (by simp only [List.mem_cons, List.not_mem_nil, or_false, forall_eq]; exact p46) (by simp only [List.mem_cons, List.not_mem_nil, or_false, forall_eq]; exact d39)
noncomputable def C21 : Cfg := noCfg
theorem lm21 : ∀ c, Try.f21.body = some c → LmOk (E21) (C21) Try.f21.ntmps c := fun _ _ => noCfg_lm
noncomputable def m21 (a0 : Int) (a1 : Int) (a2 : Int) (a3 : Int) (a4 : Bool) (a5 : Int) (a6 : (List Int)) (a7 : (List T64)) (a8 : (List T69)) : Option F21o.ty :=
  (m46 (a7, a8, a3, a4, a5, a6, ()) a0).bind fun r1 =>
  bif (r1 != 0) then
    some ((([], r1, ()), ()), (((), (), a3, a4, a5, a6, ()), a7, a8, ()))
  else
    bif ((decide (a1 < 0)) || (decide (a2 < 0))) then
      some ((([], 1, ()), ()), (((), (), a3, a4, a5, a6, ()), a7, a8, ()))
    else
      (m39 a0 a3 a4 a5 a6 a7 a8).bind fun r2 =>
      bif (decide (a1 ≥ (List.length r2.1.1.2.1 : Int))) then
        some ((([], 0, ()), ()), (((), (), r2.2.1.2.2.1, r2.2.1.2.2.2.1, r2.2.1.2.2.2.2.1, r2.2.1.2.2.2.2.2.1, ()), r2.2.2.1, r2.2.2.2.1, ()))
      else
        asrt true (bounds true (List.length r2.1.1.2.1) a1 (IntKind.i64.wrap (a1 + (bif decide ((IntKind.i64.wrap ((List.length r2.1.1.2.1 : Int) - a1)) < a2) then (IntKind.i64.wrap ((List.length r2.1.1.2.1 : Int) - a1)) else a2)))) (
          some ((((subl r2.1.1.2.1 a1 (IntKind.i64.wrap (a1 + (bif decide ((IntKind.i64.wrap ((List.length r2.1.1.2.1 : Int) - a1)) < a2) then (IntKind.i64.wrap ((List.length r2.1.1.2.1 : Int) - a1)) else a2)))), 0, ()), ()), (((), (), r2.2.1.2.2.1, r2.2.1.2.2.2.1, r2.2.1.2.2.2.2.1, r2.2.1.2.2.2.2.2.1, ()), r2.2.2.1, r2.2.2.2.1, ())))
theorem q21 (x : F21i.ty) : execF E21 C21 Try.f21 ((F21i.enc x).regs.map (·.2)) (F21i.enc x).heap (retS [] [] 3 F21o) = m21 x.1.2.1 x.1.2.2.1 x.1.2.2.2.1 x.2.1.2.2.1 x.2.1.2.2.2.1 x.2.1.2.2.2.2.1 x.2.1.2.2.2.2.2.1 x.2.2.1 x.2.2.2.1 := by kernel_rfl
theorem R21 : CRun Try.prog 21 F21i F21o (fun x => m21 x.1.2.1 x.1.2.2.1 x.1.2.2.2.1 x.2.1.2.2.1 x.2.1.2.2.2.1 x.2.1.2.2.2.2.1 x.2.1.2.2.2.2.2.1 x.2.2.1 x.2.2.2.1) := st_run (E := E21) ok21 ord lm21 Try.func21 q21
noncomputable def c21 : CmE := stE 21 [(0, [5], (.sl (.int .i64)))] [(0, [0], G64), (0, [1], G69)] F21i F21o (fun x => m21 x.1.2.1 x.1.2.2.1 x.1.2.2.2.1 x.2.1.2.2.1 x.2.1.2.2.2.1 x.2.1.2.2.2.2.1 x.2.1.2.2.2.2.2.1 x.2.2.1 x.2.2.2.1)
theorem d21 : CmOk Try.prog c21 := st_ok ca21 R21

/-! 3: consol/consollaw02.DiskTells -/
theorem ca17 : callable Try.prog 17 := ⟨Try.f17, Try.func17, by kernel_rfl, by kernel_rfl⟩
noncomputable def E3i17 : Env := mkEnv2 Try.prog [] [c39]
theorem ok3i17 : EnvOk (E3i17) := mkEnv2_ok (by simp) (by simp only [List.mem_cons, List.not_mem_nil, or_false, forall_eq]; exact d39)
noncomputable def C3i17 : Cfg := noCfg
theorem lm3i17 : ∀ c, Try.f17.body = some c → LmOk (E3i17) (C3i17) Try.f17.ntmps c := fun _ _ => noCfg_lm
noncomputable def c3i17 : CmE := inl E3i17 C3i17 17 Try.f17
theorem d3i17 : CmOk Try.prog c3i17 := inl_ok (E := E3i17) ok3i17 ord lm3i17 Try.func17 ca17

theorem ca3 : callable Try.prog 3 := ⟨Try.f3, Try.func3, by kernel_rfl, by kernel_rfl⟩
noncomputable def E3 : Env := mkEnv2 Try.prog [e8, e9, e15] [c10, c11, c12, c13, c8i14, c8i16, c3i17, c18, c19, c20, c21]
theorem ok3 : EnvOk (E3) := mkEnv2_ok (by simp only [List.mem_cons, List.not_mem_nil, or_false, forall_eq_or_imp, forall_eq]; exact ⟨p8, p9, p15⟩) (by simp only [List.mem_cons, List.not_mem_nil, or_false, forall_eq_or_imp, forall_eq]; exact ⟨d10, d11, d12, d13, d8i14, d8i16, d3i17, d18, d19, d20, d21⟩)
/-- a round of a loop of consol/consollaw02.DiskTells -/
noncomputable def s3_1 {R : Type} (t0 : (List T32)) (t1 : Int) (kn : Int → Int → Bool → Int → (List Int) → Int → Bool → Int → (List Int) → (List (Int × T62)) → (List T69) → (List (T69 × Bool)) → (List T64) → (List T69) → Option R) (k1 : Int → Bool → Int → (List Int) → Int → Bool → Int → (List Int) → (List (Int × T62)) → (List T69) → (List (T69 × Bool)) → (List T64) → (List T69) → Option R) (k2 : Option R) (t12 : Int) (o0 : Int) (o0_2 : Bool) (o0_3 : Int) (o0_4 : (List Int)) (o1 : Int) (o1_2 : Bool) (o1_3 : Int) (o1_4 : (List Int)) (o2 : (List (Int × T62))) (o3 : (List T69)) (o4 : (List (T69 × Bool))) (o5 : (List T64)) (o6 : (List T69)) : Option R :=
  bif (decide (t12 < (List.length t0 : Int))) then
    cont (fun (k47 : (Int × Bool × Int × (List Int) × Int × Bool × Int × (List Int) × (List (Int × T62)) × (List T69) × (List (T69 × Bool)) × (List T64) × (List T69)) → _) =>
      (idx t0 t12).bind fun x5 =>
      (m12 x5 o0 o0_2 o0_3 o0_4 o2 o3 o4).bind fun r6 =>
      (idx t0 t12).bind fun x7 =>
      (m13 x7 o1 o1_2 o1_3 o1_4 o5 o6).bind fun r8 =>
      bif ((r6.1.1 != r8.1.1) == false) then
        (bif ((r6.1.1 != r8.1.1) == false) then (m15 (r8.2.2.2.2.1, r8.2.2.2.2.2.1, r8.2.1.2.2.1, r8.2.1.2.2.2.1, r8.2.1.2.2.2.2.1, r8.2.1.2.2.2.2.2.1, ())) else some false).bind fun r9 =>
        bif (((r6.1.1 != r8.1.1) || (!(r6.2.1.2.2.2.2.1 == r9))) == false) then
          bif (((r6.1.1 != r8.1.1) || (!(r6.2.1.2.2.2.2.1 == r9))) == false) then
            (m39 t1 r8.2.1.2.2.1 r8.2.1.2.2.2.1 r8.2.1.2.2.2.2.1 r8.2.1.2.2.2.2.2.1 r8.2.2.2.2.1 r8.2.2.2.2.2.1).bind fun r10 =>
            bif (((r6.1.1 != r8.1.1) || (!(r6.2.1.2.2.2.2.1 == r9))) || ((List.length (Option.getD (mapAt (.int .i64) G62 t1 r6.2.2.1) (([] : (List UInt8)), ([] : (List UInt8)), ())).1 : Int) != (List.length r10.1.1.2.1 : Int))) then
              k2
            else
              bif (t12 == (IntKind.i64.wrap (Int.tdiv (List.length t0 : Int) 2))) then
                (m18 r6.2.1.2.2.2.1 r6.2.1.2.2.2.2.1 r6.2.1.2.2.2.2.2.1 r6.2.1.2.2.2.2.2.2.1 r6.2.2.1 r6.2.2.2.2.2.1 r6.2.2.2.2.2.2.1).bind fun r15 =>
                (idx t0 0).bind fun x16 =>
                (m12 x16 r15.2.1.2.2.2.1 r15.2.1.2.2.2.2.1 r15.2.1.2.2.2.2.2.1 r15.2.1.2.2.2.2.2.2.1 r15.2.2.1 r15.2.2.2.1 r15.2.2.2.2.1).bind fun r17 =>
                (m19 t1 r17.2.1.2.2.2.1 r17.2.1.2.2.2.2.1 r17.2.1.2.2.2.2.2.1 r17.2.1.2.2.2.2.2.2.1 r17.2.2.1 r17.2.2.2.2.2.1 r17.2.2.2.2.2.2.1).bind fun r18 =>
                k47 (r15.2.2.2.2.2.1.2.2.2.1, r15.2.2.2.2.2.1.2.2.2.2.1, r15.2.2.2.2.2.1.2.2.2.2.2.1, r15.2.2.2.2.2.1.2.2.2.2.2.2.1, r10.2.1.2.2.1, r10.2.1.2.2.2.1, r10.2.1.2.2.2.2.1, r10.2.1.2.2.2.2.2.1, r15.2.2.2.2.2.2.1, r15.2.2.2.2.2.2.2.1, r15.2.2.2.2.2.2.2.2.1, r10.2.2.1, r10.2.2.2.1)
              else
                k47 (r6.2.1.2.2.2.1, r6.2.1.2.2.2.2.1, r6.2.1.2.2.2.2.2.1, r6.2.1.2.2.2.2.2.2.1, r10.2.1.2.2.1, r10.2.1.2.2.2.1, r10.2.1.2.2.2.2.1, r10.2.1.2.2.2.2.2.1, r6.2.2.1, r6.2.2.2.2.2.1, r6.2.2.2.2.2.2.1, r10.2.2.1, r10.2.2.2.1)
          else
            bif (((r6.1.1 != r8.1.1) || (!(r6.2.1.2.2.2.2.1 == r9))) || ((List.length (Option.getD (mapAt (.int .i64) G62 t1 r6.2.2.1) (([] : (List UInt8)), ([] : (List UInt8)), ())).1 : Int) != 0)) then
              k2
            else
              bif (t12 == (IntKind.i64.wrap (Int.tdiv (List.length t0 : Int) 2))) then
                (m18 r6.2.1.2.2.2.1 r6.2.1.2.2.2.2.1 r6.2.1.2.2.2.2.2.1 r6.2.1.2.2.2.2.2.2.1 r6.2.2.1 r6.2.2.2.2.2.1 r6.2.2.2.2.2.2.1).bind fun r19 =>
                (idx t0 0).bind fun x20 =>
                (m12 x20 r19.2.1.2.2.2.1 r19.2.1.2.2.2.2.1 r19.2.1.2.2.2.2.2.1 r19.2.1.2.2.2.2.2.2.1 r19.2.2.1 r19.2.2.2.1 r19.2.2.2.2.1).bind fun r21 =>
                (m19 t1 r21.2.1.2.2.2.1 r21.2.1.2.2.2.2.1 r21.2.1.2.2.2.2.2.1 r21.2.1.2.2.2.2.2.2.1 r21.2.2.1 r21.2.2.2.2.2.1 r21.2.2.2.2.2.2.1).bind fun r22 =>
                k47 (r19.2.2.2.2.2.1.2.2.2.1, r19.2.2.2.2.2.1.2.2.2.2.1, r19.2.2.2.2.2.1.2.2.2.2.2.1, r19.2.2.2.2.2.1.2.2.2.2.2.2.1, r8.2.1.2.2.1, r8.2.1.2.2.2.1, r8.2.1.2.2.2.2.1, r8.2.1.2.2.2.2.2.1, r19.2.2.2.2.2.2.1, r19.2.2.2.2.2.2.2.1, r19.2.2.2.2.2.2.2.2.1, r8.2.2.2.2.1, r8.2.2.2.2.2.1)
              else
                k47 (r6.2.1.2.2.2.1, r6.2.1.2.2.2.2.1, r6.2.1.2.2.2.2.2.1, r6.2.1.2.2.2.2.2.2.1, r8.2.1.2.2.1, r8.2.1.2.2.2.1, r8.2.1.2.2.2.2.1, r8.2.1.2.2.2.2.2.1, r6.2.2.1, r6.2.2.2.2.2.1, r6.2.2.2.2.2.2.1, r8.2.2.2.2.1, r8.2.2.2.2.2.1)
        else
          bif (((r6.1.1 != r8.1.1) || (!(r6.2.1.2.2.2.2.1 == r9))) == false) then
            (m39 t1 r8.2.1.2.2.1 r8.2.1.2.2.2.1 r8.2.1.2.2.2.2.1 r8.2.1.2.2.2.2.2.1 r8.2.2.2.2.1 r8.2.2.2.2.2.1).bind fun r11 =>
            bif (((r6.1.1 != r8.1.1) || (!(r6.2.1.2.2.2.2.1 == r9))) || (0 != (List.length r11.1.1.2.1 : Int))) then
              k2
            else
              bif (t12 == (IntKind.i64.wrap (Int.tdiv (List.length t0 : Int) 2))) then
                (m18 r6.2.1.2.2.2.1 r6.2.1.2.2.2.2.1 r6.2.1.2.2.2.2.2.1 r6.2.1.2.2.2.2.2.2.1 r6.2.2.1 r6.2.2.2.2.2.1 r6.2.2.2.2.2.2.1).bind fun r23 =>
                (idx t0 0).bind fun x24 =>
                (m12 x24 r23.2.1.2.2.2.1 r23.2.1.2.2.2.2.1 r23.2.1.2.2.2.2.2.1 r23.2.1.2.2.2.2.2.2.1 r23.2.2.1 r23.2.2.2.1 r23.2.2.2.2.1).bind fun r25 =>
                (m19 t1 r25.2.1.2.2.2.1 r25.2.1.2.2.2.2.1 r25.2.1.2.2.2.2.2.1 r25.2.1.2.2.2.2.2.2.1 r25.2.2.1 r25.2.2.2.2.2.1 r25.2.2.2.2.2.2.1).bind fun r26 =>
                k47 (r23.2.2.2.2.2.1.2.2.2.1, r23.2.2.2.2.2.1.2.2.2.2.1, r23.2.2.2.2.2.1.2.2.2.2.2.1, r23.2.2.2.2.2.1.2.2.2.2.2.2.1, r11.2.1.2.2.1, r11.2.1.2.2.2.1, r11.2.1.2.2.2.2.1, r11.2.1.2.2.2.2.2.1, r23.2.2.2.2.2.2.1, r23.2.2.2.2.2.2.2.1, r23.2.2.2.2.2.2.2.2.1, r11.2.2.1, r11.2.2.2.1)
              else
                k47 (r6.2.1.2.2.2.1, r6.2.1.2.2.2.2.1, r6.2.1.2.2.2.2.2.1, r6.2.1.2.2.2.2.2.2.1, r11.2.1.2.2.1, r11.2.1.2.2.2.1, r11.2.1.2.2.2.2.1, r11.2.1.2.2.2.2.2.1, r6.2.2.1, r6.2.2.2.2.2.1, r6.2.2.2.2.2.2.1, r11.2.2.1, r11.2.2.2.1)
          else
            bif (bif ((r6.1.1 != r8.1.1) || (!(r6.2.1.2.2.2.2.1 == r9))) then true else false) then
              k2
            else
              bif (t12 == (IntKind.i64.wrap (Int.tdiv (List.length t0 : Int) 2))) then
                (m18 r6.2.1.2.2.2.1 r6.2.1.2.2.2.2.1 r6.2.1.2.2.2.2.2.1 r6.2.1.2.2.2.2.2.2.1 r6.2.2.1 r6.2.2.2.2.2.1 r6.2.2.2.2.2.2.1).bind fun r27 =>
                (idx t0 0).bind fun x28 =>
                (m12 x28 r27.2.1.2.2.2.1 r27.2.1.2.2.2.2.1 r27.2.1.2.2.2.2.2.1 r27.2.1.2.2.2.2.2.2.1 r27.2.2.1 r27.2.2.2.1 r27.2.2.2.2.1).bind fun r29 =>
                (m19 t1 r29.2.1.2.2.2.1 r29.2.1.2.2.2.2.1 r29.2.1.2.2.2.2.2.1 r29.2.1.2.2.2.2.2.2.1 r29.2.2.1 r29.2.2.2.2.2.1 r29.2.2.2.2.2.2.1).bind fun r30 =>
                k47 (r27.2.2.2.2.2.1.2.2.2.1, r27.2.2.2.2.2.1.2.2.2.2.1, r27.2.2.2.2.2.1.2.2.2.2.2.1, r27.2.2.2.2.2.1.2.2.2.2.2.2.1, r8.2.1.2.2.1, r8.2.1.2.2.2.1, r8.2.1.2.2.2.2.1, r8.2.1.2.2.2.2.2.1, r27.2.2.2.2.2.2.1, r27.2.2.2.2.2.2.2.1, r27.2.2.2.2.2.2.2.2.1, r8.2.2.2.2.1, r8.2.2.2.2.2.1)
              else
                k47 (r6.2.1.2.2.2.1, r6.2.1.2.2.2.2.1, r6.2.1.2.2.2.2.2.1, r6.2.1.2.2.2.2.2.2.1, r8.2.1.2.2.1, r8.2.1.2.2.2.1, r8.2.1.2.2.2.2.1, r8.2.1.2.2.2.2.2.1, r6.2.2.1, r6.2.2.2.2.2.1, r6.2.2.2.2.2.2.1, r8.2.2.2.2.1, r8.2.2.2.2.2.1)
      else
        (bif ((r6.1.1 != r8.1.1) == false) then (m15 (r8.2.2.2.2.1, r8.2.2.2.2.2.1, r8.2.1.2.2.1, r8.2.1.2.2.2.1, r8.2.1.2.2.2.2.1, r8.2.1.2.2.2.2.2.1, ())) else some false).bind fun r12 =>
        bif (((r6.1.1 != r8.1.1) || (!(false == r12))) == false) then
          bif (((r6.1.1 != r8.1.1) || (!(false == r12))) == false) then
            (m39 t1 r8.2.1.2.2.1 r8.2.1.2.2.2.1 r8.2.1.2.2.2.2.1 r8.2.1.2.2.2.2.2.1 r8.2.2.2.2.1 r8.2.2.2.2.2.1).bind fun r13 =>
            bif (((r6.1.1 != r8.1.1) || (!(false == r12))) || ((List.length (Option.getD (mapAt (.int .i64) G62 t1 r6.2.2.1) (([] : (List UInt8)), ([] : (List UInt8)), ())).1 : Int) != (List.length r13.1.1.2.1 : Int))) then
              k2
            else
              bif (t12 == (IntKind.i64.wrap (Int.tdiv (List.length t0 : Int) 2))) then
                (m18 r6.2.1.2.2.2.1 r6.2.1.2.2.2.2.1 r6.2.1.2.2.2.2.2.1 r6.2.1.2.2.2.2.2.2.1 r6.2.2.1 r6.2.2.2.2.2.1 r6.2.2.2.2.2.2.1).bind fun r31 =>
                (idx t0 0).bind fun x32 =>
                (m12 x32 r31.2.1.2.2.2.1 r31.2.1.2.2.2.2.1 r31.2.1.2.2.2.2.2.1 r31.2.1.2.2.2.2.2.2.1 r31.2.2.1 r31.2.2.2.1 r31.2.2.2.2.1).bind fun r33 =>
                (m19 t1 r33.2.1.2.2.2.1 r33.2.1.2.2.2.2.1 r33.2.1.2.2.2.2.2.1 r33.2.1.2.2.2.2.2.2.1 r33.2.2.1 r33.2.2.2.2.2.1 r33.2.2.2.2.2.2.1).bind fun r34 =>
                k47 (r31.2.2.2.2.2.1.2.2.2.1, r31.2.2.2.2.2.1.2.2.2.2.1, r31.2.2.2.2.2.1.2.2.2.2.2.1, r31.2.2.2.2.2.1.2.2.2.2.2.2.1, r13.2.1.2.2.1, r13.2.1.2.2.2.1, r13.2.1.2.2.2.2.1, r13.2.1.2.2.2.2.2.1, r31.2.2.2.2.2.2.1, r31.2.2.2.2.2.2.2.1, r31.2.2.2.2.2.2.2.2.1, r13.2.2.1, r13.2.2.2.1)
              else
                k47 (r6.2.1.2.2.2.1, r6.2.1.2.2.2.2.1, r6.2.1.2.2.2.2.2.1, r6.2.1.2.2.2.2.2.2.1, r13.2.1.2.2.1, r13.2.1.2.2.2.1, r13.2.1.2.2.2.2.1, r13.2.1.2.2.2.2.2.1, r6.2.2.1, r6.2.2.2.2.2.1, r6.2.2.2.2.2.2.1, r13.2.2.1, r13.2.2.2.1)
          else
            bif (((r6.1.1 != r8.1.1) || (!(false == r12))) || ((List.length (Option.getD (mapAt (.int .i64) G62 t1 r6.2.2.1) (([] : (List UInt8)), ([] : (List UInt8)), ())).1 : Int) != 0)) then
              k2
            else
              bif (t12 == (IntKind.i64.wrap (Int.tdiv (List.length t0 : Int) 2))) then
                (m18 r6.2.1.2.2.2.1 r6.2.1.2.2.2.2.1 r6.2.1.2.2.2.2.2.1 r6.2.1.2.2.2.2.2.2.1 r6.2.2.1 r6.2.2.2.2.2.1 r6.2.2.2.2.2.2.1).bind fun r35 =>
                (idx t0 0).bind fun x36 =>
                (m12 x36 r35.2.1.2.2.2.1 r35.2.1.2.2.2.2.1 r35.2.1.2.2.2.2.2.1 r35.2.1.2.2.2.2.2.2.1 r35.2.2.1 r35.2.2.2.1 r35.2.2.2.2.1).bind fun r37 =>
                (m19 t1 r37.2.1.2.2.2.1 r37.2.1.2.2.2.2.1 r37.2.1.2.2.2.2.2.1 r37.2.1.2.2.2.2.2.2.1 r37.2.2.1 r37.2.2.2.2.2.1 r37.2.2.2.2.2.2.1).bind fun r38 =>
                k47 (r35.2.2.2.2.2.1.2.2.2.1, r35.2.2.2.2.2.1.2.2.2.2.1, r35.2.2.2.2.2.1.2.2.2.2.2.1, r35.2.2.2.2.2.1.2.2.2.2.2.2.1, r8.2.1.2.2.1, r8.2.1.2.2.2.1, r8.2.1.2.2.2.2.1, r8.2.1.2.2.2.2.2.1, r35.2.2.2.2.2.2.1, r35.2.2.2.2.2.2.2.1, r35.2.2.2.2.2.2.2.2.1, r8.2.2.2.2.1, r8.2.2.2.2.2.1)
              else
                k47 (r6.2.1.2.2.2.1, r6.2.1.2.2.2.2.1, r6.2.1.2.2.2.2.2.1, r6.2.1.2.2.2.2.2.2.1, r8.2.1.2.2.1, r8.2.1.2.2.2.1, r8.2.1.2.2.2.2.1, r8.2.1.2.2.2.2.2.1, r6.2.2.1, r6.2.2.2.2.2.1, r6.2.2.2.2.2.2.1, r8.2.2.2.2.1, r8.2.2.2.2.2.1)
        else
          bif (((r6.1.1 != r8.1.1) || (!(false == r12))) == false) then
            (m39 t1 r8.2.1.2.2.1 r8.2.1.2.2.2.1 r8.2.1.2.2.2.2.1 r8.2.1.2.2.2.2.2.1 r8.2.2.2.2.1 r8.2.2.2.2.2.1).bind fun r14 =>
            bif (((r6.1.1 != r8.1.1) || (!(false == r12))) || (0 != (List.length r14.1.1.2.1 : Int))) then
              k2
            else
              bif (t12 == (IntKind.i64.wrap (Int.tdiv (List.length t0 : Int) 2))) then
                (m18 r6.2.1.2.2.2.1 r6.2.1.2.2.2.2.1 r6.2.1.2.2.2.2.2.1 r6.2.1.2.2.2.2.2.2.1 r6.2.2.1 r6.2.2.2.2.2.1 r6.2.2.2.2.2.2.1).bind fun r39 =>
                (idx t0 0).bind fun x40 =>
                (m12 x40 r39.2.1.2.2.2.1 r39.2.1.2.2.2.2.1 r39.2.1.2.2.2.2.2.1 r39.2.1.2.2.2.2.2.2.1 r39.2.2.1 r39.2.2.2.1 r39.2.2.2.2.1).bind fun r41 =>
                (m19 t1 r41.2.1.2.2.2.1 r41.2.1.2.2.2.2.1 r41.2.1.2.2.2.2.2.1 r41.2.1.2.2.2.2.2.2.1 r41.2.2.1 r41.2.2.2.2.2.1 r41.2.2.2.2.2.2.1).bind fun r42 =>
                k47 (r39.2.2.2.2.2.1.2.2.2.1, r39.2.2.2.2.2.1.2.2.2.2.1, r39.2.2.2.2.2.1.2.2.2.2.2.1, r39.2.2.2.2.2.1.2.2.2.2.2.2.1, r14.2.1.2.2.1, r14.2.1.2.2.2.1, r14.2.1.2.2.2.2.1, r14.2.1.2.2.2.2.2.1, r39.2.2.2.2.2.2.1, r39.2.2.2.2.2.2.2.1, r39.2.2.2.2.2.2.2.2.1, r14.2.2.1, r14.2.2.2.1)
              else
                k47 (r6.2.1.2.2.2.1, r6.2.1.2.2.2.2.1, r6.2.1.2.2.2.2.2.1, r6.2.1.2.2.2.2.2.2.1, r14.2.1.2.2.1, r14.2.1.2.2.2.1, r14.2.1.2.2.2.2.1, r14.2.1.2.2.2.2.2.1, r6.2.2.1, r6.2.2.2.2.2.1, r6.2.2.2.2.2.2.1, r14.2.2.1, r14.2.2.2.1)
          else
            bif (bif ((r6.1.1 != r8.1.1) || (!(false == r12))) then true else false) then
              k2
            else
              bif (t12 == (IntKind.i64.wrap (Int.tdiv (List.length t0 : Int) 2))) then
                (m18 r6.2.1.2.2.2.1 r6.2.1.2.2.2.2.1 r6.2.1.2.2.2.2.2.1 r6.2.1.2.2.2.2.2.2.1 r6.2.2.1 r6.2.2.2.2.2.1 r6.2.2.2.2.2.2.1).bind fun r43 =>
                (idx t0 0).bind fun x44 =>
                (m12 x44 r43.2.1.2.2.2.1 r43.2.1.2.2.2.2.1 r43.2.1.2.2.2.2.2.1 r43.2.1.2.2.2.2.2.2.1 r43.2.2.1 r43.2.2.2.1 r43.2.2.2.2.1).bind fun r45 =>
                (m19 t1 r45.2.1.2.2.2.1 r45.2.1.2.2.2.2.1 r45.2.1.2.2.2.2.2.1 r45.2.1.2.2.2.2.2.2.1 r45.2.2.1 r45.2.2.2.2.2.1 r45.2.2.2.2.2.2.1).bind fun r46 =>
                k47 (r43.2.2.2.2.2.1.2.2.2.1, r43.2.2.2.2.2.1.2.2.2.2.1, r43.2.2.2.2.2.1.2.2.2.2.2.1, r43.2.2.2.2.2.1.2.2.2.2.2.2.1, r8.2.1.2.2.1, r8.2.1.2.2.2.1, r8.2.1.2.2.2.2.1, r8.2.1.2.2.2.2.2.1, r43.2.2.2.2.2.2.1, r43.2.2.2.2.2.2.2.1, r43.2.2.2.2.2.2.2.2.1, r8.2.2.2.2.1, r8.2.2.2.2.2.1)
              else
                k47 (r6.2.1.2.2.2.1, r6.2.1.2.2.2.2.1, r6.2.1.2.2.2.2.2.1, r6.2.1.2.2.2.2.2.2.1, r8.2.1.2.2.1, r8.2.1.2.2.2.1, r8.2.1.2.2.2.2.1, r8.2.1.2.2.2.2.2.1, r6.2.2.1, r6.2.2.2.2.2.1, r6.2.2.2.2.2.2.1, r8.2.2.2.2.1, r8.2.2.2.2.2.1)) fun y47 =>
    kn (IntKind.i64.wrap (t12 + 1)) y47.1 y47.2.1 y47.2.2.1 y47.2.2.2.1 y47.2.2.2.2.1 y47.2.2.2.2.2.1 y47.2.2.2.2.2.2.1 y47.2.2.2.2.2.2.2.1 y47.2.2.2.2.2.2.2.2.1 y47.2.2.2.2.2.2.2.2.2.1 y47.2.2.2.2.2.2.2.2.2.2.1 y47.2.2.2.2.2.2.2.2.2.2.2.1 y47.2.2.2.2.2.2.2.2.2.2.2.2
  else
    k1 o0 o0_2 o0_3 o0_4 o1 o1_2 o1_3 o1_4 o2 o3 o4 o5 o6
noncomputable def l3_1 {R : Type} (t0 : (List T32)) (t1 : Int) (k1 : Int → Bool → Int → (List Int) → Int → Bool → Int → (List Int) → (List (Int × T62)) → (List T69) → (List (T69 × Bool)) → (List T64) → (List T69) → Option R) (k2 : Option R) : Nat → Int → Int → Bool → Int → (List Int) → Int → Bool → Int → (List Int) → (List (Int × T62)) → (List T69) → (List (T69 × Bool)) → (List T64) → (List T69) → Option R
  | 0, _, _, _, _, _, _, _, _, _, _, _, _, _, _ => none
  | n + 1, t12, o0, o0_2, o0_3, o0_4, o1, o1_2, o1_3, o1_4, o2, o3, o4, o5, o6 => s3_1 t0 t1 (l3_1 t0 t1 k1 k2 n) k1 k2 t12 o0 o0_2 o0_3 o0_4 o1 o1_2 o1_3 o1_4 o2 o3 o4 o5 o6
noncomputable def L3_1 : LE := ⟨10, 0, ⟨[(0, (.dat (.sl G32))), (1, (.dat (.int .i64))), (2, (.dat (.int .i64))), (3, (.dat (.int .i64))), (9, (.dat .bool)), (10, (.box 0 [] 0)), (11, (.box 1 [] 0)), (12, (.dat (.int .i64)))], [(.box (.agg (.scons (.mp 2) (.scons (.own 3) (.scons (.mp 4) (.scons (.dat (.int .i64)) (.scons (.dat .bool) (.scons (.dat (.int .i64)) (.scons (.dat (.sl (.int .i64))) .snil))))))))), (.box (.agg (.scons (.own 5) (.scons (.own 6) (.scons (.dat (.int .i64)) (.scons (.dat .bool) (.scons (.dat (.int .i64)) (.scons (.dat (.sl (.int .i64))) .snil)))))))), (.map (.int .i64) G62), (.arr G69), (.map G69 .bool), (.arr G64), (.arr G69)]⟩, fun R n x k => l3_1 x.1.1 x.1.2.1 (fun y0 y1 y2 y3 y4 y5 y6 y7 y8 y9 y10 y11 y12 => k (.exit 0) ⟨[(1, (.dat (.int .i64) x.1.2.1)), (2, (.dat (.int .i64) x.1.2.2.1)), (3, (.dat (.int .i64) x.1.2.2.2.1)), (9, (.dat .bool x.1.2.2.2.2.1)), (10, (.box 0 [] 0)), (11, (.box 1 [] 0))], [(.box (.agg (.scons (.mp 2) (.scons (.own 3) (.scons (.mp 4) (.scons (.dat (.int .i64) y0) (.scons (.dat .bool y1) (.scons (.dat (.int .i64) y2) (.scons (.dat (.sl (.int .i64)) y3) .snil))))))))), (.box (.agg (.scons (.own 5) (.scons (.own 6) (.scons (.dat (.int .i64) y4) (.scons (.dat .bool y5) (.scons (.dat (.int .i64) y6) (.scons (.dat (.sl (.int .i64)) y7) .snil)))))))), (.map (.int .i64) G62 y8), (.arr G69 y9), (.map G69 .bool y10), (.arr G64 y11), (.arr G69 y12)]⟩) (k .ret ⟨[(8, (.dat .bool false))], []⟩) n x.1.2.2.2.2.2.2.2.1 x.2.1.2.2.2.1 x.2.1.2.2.2.2.1 x.2.1.2.2.2.2.2.1 x.2.1.2.2.2.2.2.2.1 x.2.2.1.2.2.1 x.2.2.1.2.2.2.1 x.2.2.1.2.2.2.2.1 x.2.2.1.2.2.2.2.2.1 x.2.2.2.1 x.2.2.2.2.1 x.2.2.2.2.2.1 x.2.2.2.2.2.2.1 x.2.2.2.2.2.2.2.1⟩
noncomputable def C3 : Cfg := mkCfg [(10, ⟨[0, 1, 2, 3, 9, 10, 11, 12], [], []⟩), (11, ⟨[0, 1, 2, 3, 9, 10, 11, 12], [], []⟩)] [(10, (⟨[1, 2, 3, 9, 10, 11], [], []⟩, ⟨[8], [], []⟩))] (([(0, L3_1)] : List (Nat × LE)).map (·.2))
theorem ek3_1 : EOk (E3) (C3) Try.f3.ntmps (bodyL Try.f3 0) (L3_1) := eok_of (e := L3_1) (fun R x Kn k => s3_1 x.1.1 x.1.2.1 (fun v0 v1 v2 v3 v4 v5 v6 v7 v8 v9 v10 v11 v12 v13 => Kn ((x.1.1, x.1.2.1, x.1.2.2.1, x.1.2.2.2.1, x.1.2.2.2.2.1, (), (), v0, ()), (((), (), (), v1, v2, v3, v4, ()), ((), (), v5, v6, v7, v8, ()), v9, v10, v11, v12, v13, ()))) (fun y0 y1 y2 y3 y4 y5 y6 y7 y8 y9 y10 y11 y12 => k (.exit 0) ⟨[(1, (.dat (.int .i64) x.1.2.1)), (2, (.dat (.int .i64) x.1.2.2.1)), (3, (.dat (.int .i64) x.1.2.2.2.1)), (9, (.dat .bool x.1.2.2.2.2.1)), (10, (.box 0 [] 0)), (11, (.box 1 [] 0))], [(.box (.agg (.scons (.mp 2) (.scons (.own 3) (.scons (.mp 4) (.scons (.dat (.int .i64) y0) (.scons (.dat .bool y1) (.scons (.dat (.int .i64) y2) (.scons (.dat (.sl (.int .i64)) y3) .snil))))))))), (.box (.agg (.scons (.own 5) (.scons (.own 6) (.scons (.dat (.int .i64) y4) (.scons (.dat .bool y5) (.scons (.dat (.int .i64) y6) (.scons (.dat (.sl (.int .i64)) y7) .snil)))))))), (.map (.int .i64) G62 y8), (.arr G69 y9), (.map G69 .bool y10), (.arr G64 y11), (.arr G69 y12)]⟩) (k .ret ⟨[(8, (.dat .bool false))], []⟩) x.1.2.2.2.2.2.2.2.1 x.2.1.2.2.2.1 x.2.1.2.2.2.2.1 x.2.1.2.2.2.2.2.1 x.2.1.2.2.2.2.2.2.1 x.2.2.1.2.2.1 x.2.2.1.2.2.2.1 x.2.2.1.2.2.2.2.1 x.2.2.1.2.2.2.2.2.1 x.2.2.2.1 x.2.2.2.2.1 x.2.2.2.2.2.1 x.2.2.2.2.2.2.1 x.2.2.2.2.2.2.2.1) (fun _ _ _ => rfl) (fun _ _ _ _ => rfl) (fun R x Kn k => by kernel_rfl)
theorem lm3 : ∀ c, Try.f3.body = some c → LmOk (E3) (C3) Try.f3.ntmps c := lmOk_of (ps := [(0, L3_1)]) (by kernel_rfl) (by kernel_rfl) ⟨ek3_1, trivial⟩
noncomputable def m3 (a0 : (List T32)) (a1 : Int) (a2 : Int) (a3 : Int) : Option (Bool) :=
  (m8).bind fun r1 =>
  (m9 a0).bind fun r2 =>
  bif (!r2) then
    some r1
  else
    (m10).bind fun r3 =>
    (m11).bind fun r4 =>
    l3_1 a0 a1 (fun y48 y49 y50 y51 y52 y53 y54 y55 y56 y57 y58 y59 y60 =>
        (m20 a1 a2 a3 y48 y49 y50 y51 y56 y57 y58).bind fun r61 =>
        (m21 a1 a2 a3 y52 y53 y54 y55 y59 y60).bind fun r62 =>
        some ((r1 && (r61.1.1.1 == r62.1.1.1)) && (r61.1.1.2.1 == r62.1.1.2.1))) (
        some false) FUEL 0 r3.2.1.2.2.2.1 r3.2.1.2.2.2.2.1 r3.2.1.2.2.2.2.2.1 r3.2.1.2.2.2.2.2.2.1 r4.2.1.2.2.1 r4.2.1.2.2.2.1 r4.2.1.2.2.2.2.1 r4.2.1.2.2.2.2.2.1 r3.2.2.1 r3.2.2.2.1 r3.2.2.2.2.1 r4.2.2.1 r4.2.2.2.1
noncomputable def e3 : PmE := entry 3 [(.sl G32), (.int .i64), (.int .i64), (.int .i64)] false .bool (fun x => m3 x.1 x.2.1 x.2.2.1 x.2.2.2.1)
noncomputable def V3 (mo8 : Option (Bool)) : Env := mkEnv2 Try.prog [(entry 8 [] false .bool (fun _ => mo8)), e9, e15] [c10, c11, c12, c13, c8i14, c8i16, c3i17, c18, c19, c20, c21]
theorem qv3 (mo8 : Option (Bool)) (x : tyL [(.sl G32), (.int .i64), (.int .i64), (.int .i64)]) : execF (V3 mo8) C3 Try.f3 (datL [(.sl G32), (.int .i64), (.int .i64), (.int .i64)] x) [] (retK false .bool) = (fun (a0 : (List T32)) (a1 : Int) (a2 : Int) (a3 : Int) =>
  (mo8).bind fun r1 =>
  (m9 a0).bind fun r2 =>
  bif (!r2) then
    some r1
  else
    (m10).bind fun r3 =>
    (m11).bind fun r4 =>
    l3_1 a0 a1 (fun y48 y49 y50 y51 y52 y53 y54 y55 y56 y57 y58 y59 y60 =>
        (m20 a1 a2 a3 y48 y49 y50 y51 y56 y57 y58).bind fun r61 =>
        (m21 a1 a2 a3 y52 y53 y54 y55 y59 y60).bind fun r62 =>
        some ((r1 && (r61.1.1.1 == r62.1.1.1)) && (r61.1.1.2.1 == r62.1.1.2.1))) (
        some false) FUEL 0 r3.2.1.2.2.2.1 r3.2.1.2.2.2.2.1 r3.2.1.2.2.2.2.2.1 r3.2.1.2.2.2.2.2.2.1 r4.2.1.2.2.1 r4.2.1.2.2.2.1 r4.2.1.2.2.2.2.1 r4.2.1.2.2.2.2.2.1 r3.2.2.1 r3.2.2.2.1 r3.2.2.2.2.1 r4.2.2.1 r4.2.2.2.1) x.1 x.2.1 x.2.2.1 x.2.2.2.1 := by kernel_rfl
theorem q3 (x : tyL [(.sl G32), (.int .i64), (.int .i64), (.int .i64)]) : execF E3 C3 Try.f3 (datL [(.sl G32), (.int .i64), (.int .i64), (.int .i64)] x) [] (retK false .bool) = m3 x.1 x.2.1 x.2.2.1 x.2.2.2.1 := qv3 m8 x
theorem p3 : PmOk Try.prog e3 := pm_ok (E := E3) ok3 ord lm3 Try.func3 ca3 q3

/-! 22: consol/consollaw02.played -/
theorem ca22 : callable Try.prog 22 := ⟨Try.f22, Try.func22, by kernel_rfl, by kernel_rfl⟩
abbrev F22i : ShS := ⟨[(0, (.dat (.sl G32)))], []⟩
abbrev F22o : ShS := ⟨[(0, (.box 0 [] 0))], [(.box (.agg (.scons (.mp 1) (.scons (.own 2) (.scons (.mp 3) (.scons (.dat (.int .i64)) (.scons (.dat .bool) (.scons (.dat (.int .i64)) (.scons (.dat (.sl (.int .i64))) .snil))))))))), (.map (.int .i64) G62), (.arr G69), (.map G69 .bool)]⟩
noncomputable def E22 : Env := mkEnv2 Try.prog [] [c10, c12]
theorem ok22 : EnvOk (E22) := mkEnv2_ok (by simp) (by simp only [List.mem_cons, List.not_mem_nil, or_false, forall_eq_or_imp, forall_eq]; exact ⟨d10, d12⟩)
/-- a round of a loop of consol/consollaw02.played -/
noncomputable def s22_1 {R : Type} (t0 : (List T32)) (kn : Int → Int → Bool → Int → (List Int) → (List (Int × T62)) → (List T69) → (List (T69 × Bool)) → Option R) (k1 : Int → Bool → Int → (List Int) → (List (Int × T62)) → (List T69) → (List (T69 × Bool)) → Option R) (t4 : Int) (o0 : Int) (o0_2 : Bool) (o0_3 : Int) (o0_4 : (List Int)) (o1 : (List (Int × T62))) (o2 : (List T69)) (o3 : (List (T69 × Bool))) : Option R :=
  bif (bif (decide (t4 < (List.length t0 : Int))) then true else false) then
    (idx t0 t4).bind fun x2 =>
    (m12 x2 o0 o0_2 o0_3 o0_4 o1 o2 o3).bind fun r3 =>
    kn (IntKind.i64.wrap (t4 + 1)) r3.2.1.2.2.2.1 r3.2.1.2.2.2.2.1 r3.2.1.2.2.2.2.2.1 r3.2.1.2.2.2.2.2.2.1 r3.2.2.1 r3.2.2.2.2.2.1 r3.2.2.2.2.2.2.1
  else
    k1 o0 o0_2 o0_3 o0_4 o1 o2 o3
noncomputable def l22_1 {R : Type} (t0 : (List T32)) (k1 : Int → Bool → Int → (List Int) → (List (Int × T62)) → (List T69) → (List (T69 × Bool)) → Option R) : Nat → Int → Int → Bool → Int → (List Int) → (List (Int × T62)) → (List T69) → (List (T69 × Bool)) → Option R
  | 0, _, _, _, _, _, _, _, _ => none
  | n + 1, t4, o0, o0_2, o0_3, o0_4, o1, o2, o3 => s22_1 t0 (l22_1 t0 k1 n) k1 t4 o0 o0_2 o0_3 o0_4 o1 o2 o3
noncomputable def L22_1 : LE := ⟨4, 0, ⟨[(0, (.dat (.sl G32))), (3, (.box 0 [] 0)), (4, (.dat (.int .i64)))], [(.box (.agg (.scons (.mp 1) (.scons (.own 2) (.scons (.mp 3) (.scons (.dat (.int .i64)) (.scons (.dat .bool) (.scons (.dat (.int .i64)) (.scons (.dat (.sl (.int .i64))) .snil))))))))), (.map (.int .i64) G62), (.arr G69), (.map G69 .bool)]⟩, fun R n x k => l22_1 x.1.1 (fun y0 y1 y2 y3 y4 y5 y6 => k (.exit 0) ⟨[(3, (.box 0 [] 0))], [(.box (.agg (.scons (.mp 1) (.scons (.own 2) (.scons (.mp 3) (.scons (.dat (.int .i64) y0) (.scons (.dat .bool y1) (.scons (.dat (.int .i64) y2) (.scons (.dat (.sl (.int .i64)) y3) .snil))))))))), (.map (.int .i64) G62 y4), (.arr G69 y5), (.map G69 .bool y6)]⟩) n x.1.2.2.1 x.2.1.2.2.2.1 x.2.1.2.2.2.2.1 x.2.1.2.2.2.2.2.1 x.2.1.2.2.2.2.2.2.1 x.2.2.1 x.2.2.2.1 x.2.2.2.2.1⟩
noncomputable def C22 : Cfg := mkCfg [(4, ⟨[0, 3, 4], [], []⟩)] [(4, (⟨[3], [], []⟩, ⟨[2], [], []⟩))] (([(0, L22_1)] : List (Nat × LE)).map (·.2))
theorem ek22_1 : EOk (E22) (C22) Try.f22.ntmps (bodyL Try.f22 0) (L22_1) := eok_of (e := L22_1) (fun R x Kn k => s22_1 x.1.1 (fun v0 v1 v2 v3 v4 v5 v6 v7 => Kn ((x.1.1, (), v0, ()), (((), (), (), v1, v2, v3, v4, ()), v5, v6, v7, ()))) (fun y0 y1 y2 y3 y4 y5 y6 => k (.exit 0) ⟨[(3, (.box 0 [] 0))], [(.box (.agg (.scons (.mp 1) (.scons (.own 2) (.scons (.mp 3) (.scons (.dat (.int .i64) y0) (.scons (.dat .bool y1) (.scons (.dat (.int .i64) y2) (.scons (.dat (.sl (.int .i64)) y3) .snil))))))))), (.map (.int .i64) G62 y4), (.arr G69 y5), (.map G69 .bool y6)]⟩) x.1.2.2.1 x.2.1.2.2.2.1 x.2.1.2.2.2.2.1 x.2.1.2.2.2.2.2.1 x.2.1.2.2.2.2.2.2.1 x.2.2.1 x.2.2.2.1 x.2.2.2.2.1) (fun _ _ _ => rfl) (fun _ _ _ _ => rfl) (fun R x Kn k => by kernel_rfl)
theorem lm22 : ∀ c, Try.f22.body = some c → LmOk (E22) (C22) Try.f22.ntmps c := lmOk_of (ps := [(0, L22_1)]) (by kernel_rfl) (by kernel_rfl) ⟨ek22_1, trivial⟩
noncomputable def m22 (a0 : (List T32)) : Option F22o.ty :=
  (m10).bind fun r1 =>
  l22_1 a0 (fun y4 y5 y6 y7 y8 y9 y10 =>
      some (((), ()), (((), (), (), y4, y5, y6, y7, ()), y8, y9, y10, ()))) FUEL 0 r1.2.1.2.2.2.1 r1.2.1.2.2.2.2.1 r1.2.1.2.2.2.2.2.1 r1.2.1.2.2.2.2.2.2.1 r1.2.2.1 r1.2.2.2.1 r1.2.2.2.2.1
theorem q22 (x : F22i.ty) : execF E22 C22 Try.f22 ((F22i.enc x).regs.map (·.2)) (F22i.enc x).heap (retS [(0, [6], (.sl (.int .i64)))] [(0, [1], G69)] 0 F22o) = m22 x.1.1 := by kernel_rfl
theorem R22 : CRun Try.prog 22 F22i F22o (fun x => m22 x.1.1) := st_run (E := E22) ok22 ord lm22 Try.func22 q22
noncomputable def c22 : CmE := stE 22 [(0, [], (.sl G32))] [] F22i F22o (fun x => m22 x.1.1)
theorem d22 : CmOk Try.prog c22 := st_ok ca22 R22

/-! 23: consol/consollaw02.after -/
theorem ca23 : callable Try.prog 23 := ⟨Try.f23, Try.func23, by kernel_rfl, by kernel_rfl⟩
abbrev F23i : ShS := ⟨[(0, (.box 0 [] 0)), (1, (.dat (.int .i64))), (2, (.dat (.sl (.int .i64))))], [(.box (.agg (.scons (.mp 1) (.scons (.own 2) (.scons (.mp 3) (.scons (.dat (.int .i64)) (.scons (.dat .bool) (.scons (.dat (.int .i64)) (.scons (.dat (.sl (.int .i64))) .snil))))))))), (.map (.int .i64) G62), (.arr G69), (.map G69 .bool)]⟩
abbrev F23o : ShS := ⟨[(0, (.tup (.scons (.dat .str) (.scons (.dat .bool) .snil))))], [(.box (.agg (.scons (.mp 1) (.scons (.own 2) (.scons (.mp 3) (.scons (.dat (.int .i64)) (.scons (.dat .bool) (.scons (.dat (.int .i64)) (.scons (.dat (.sl (.int .i64))) .snil))))))))), (.map (.int .i64) G62), (.arr G69), (.map G69 .bool)]⟩
noncomputable def E23 : Env := mkEnv2 Try.prog [] [c18, c20, c25, c8i26]
theorem ok23 : EnvOk (E23) := mkEnv2_ok (by simp) (by simp only [List.mem_cons, List.not_mem_nil, or_false, forall_eq_or_imp, forall_eq]; exact ⟨d18, d20, d25, d8i26⟩)
noncomputable def C23 : Cfg := noCfg
theorem lm23 : ∀ c, Try.f23.body = some c → LmOk (E23) (C23) Try.f23.ntmps c := fun _ _ => noCfg_lm
noncomputable def m23 (a0 : Int) (a1 : (List Int)) (a2 : Int) (a3 : Bool) (a4 : Int) (a5 : (List Int)) (a6 : (List (Int × T62))) (a7 : (List T69)) (a8 : (List (T69 × Bool))) : Option F23o.ty :=
  (m18 a2 a3 a4 a5 a6 a7 a8).bind fun r1 =>
  (m25 a1 r1.2.2.2.2.2.1.2.2.2.1 r1.2.2.2.2.2.1.2.2.2.2.1 r1.2.2.2.2.2.1.2.2.2.2.2.1 r1.2.2.2.2.2.1.2.2.2.2.2.2.1 r1.2.2.2.2.2.2.1 r1.2.2.2.2.2.2.2.1 r1.2.2.2.2.2.2.2.2.1).bind fun r2 =>
  (m20 a0 0 16777216 r2.2.1.2.2.2.1 false r2.2.1.2.2.2.2.2.1 r2.2.1.2.2.2.2.2.2.1 r2.2.2.1 r2.2.2.2.2.2.1 r2.2.2.2.2.2.2.1).bind fun r3 =>
  some (((r3.1.1.1, (r3.1.1.2.1 == 0), ()), ()), (((), (), (), r1.2.1.2.2.2.1, r1.2.1.2.2.2.2.1, r1.2.1.2.2.2.2.2.1, r1.2.1.2.2.2.2.2.2.1, ()), r1.2.2.1, r1.2.2.2.1, r1.2.2.2.2.1, ()))
theorem q23 (x : F23i.ty) : execF E23 C23 Try.f23 ((F23i.enc x).regs.map (·.2)) (F23i.enc x).heap (retS [] [] 4 F23o) = m23 x.1.2.1 x.1.2.2.1 x.2.1.2.2.2.1 x.2.1.2.2.2.2.1 x.2.1.2.2.2.2.2.1 x.2.1.2.2.2.2.2.2.1 x.2.2.1 x.2.2.2.1 x.2.2.2.2.1 := by kernel_rfl
theorem R23 : CRun Try.prog 23 F23i F23o (fun x => m23 x.1.2.1 x.1.2.2.1 x.2.1.2.2.2.1 x.2.1.2.2.2.2.1 x.2.1.2.2.2.2.2.1 x.2.1.2.2.2.2.2.2.1 x.2.2.1 x.2.2.2.1 x.2.2.2.2.1) := st_run (E := E23) ok23 ord lm23 Try.func23 q23
noncomputable def c23 : CmE := stE 23 [(0, [6], (.sl (.int .i64))), (2, [], (.sl (.int .i64)))] [(0, [1], G69)] F23i F23o (fun x => m23 x.1.2.1 x.1.2.2.1 x.2.1.2.2.2.1 x.2.1.2.2.2.2.1 x.2.1.2.2.2.2.2.1 x.2.1.2.2.2.2.2.2.1 x.2.2.1 x.2.2.2.1 x.2.2.2.2.1)
theorem d23 : CmOk Try.prog c23 := st_ok ca23 R23

/-! 24: consol/consollaw02.byteAt -/
theorem ca24 : callable Try.prog 24 := ⟨Try.f24, Try.func24, by kernel_rfl, by kernel_rfl⟩
noncomputable def E24 : Env := mkEnv2 Try.prog [] []
theorem ok24 : EnvOk (E24) := mkEnv2_ok (by simp) (by simp)
noncomputable def C24 : Cfg := noCfg
theorem lm24 : ∀ c, Try.f24.body = some c → LmOk (E24) (C24) Try.f24.ntmps c := fun _ _ => noCfg_lm
noncomputable def m24 (a0 : (List UInt8)) (a1 : Int) : Option (Int) :=
  bif ((decide (a1 < 0)) || (decide (a1 ≥ (List.length a0 : Int)))) then
    some 0
  else
    (idx a0 a1).bind fun c1 =>
    some (c1.toNat : Int)
noncomputable def e24 : PmE := entry 24 [.str, (.int .i64)] false (.int .u8) (fun x => m24 x.1 x.2.1)
theorem q24 (x : tyL [.str, (.int .i64)]) : execF E24 C24 Try.f24 (datL [.str, (.int .i64)] x) [] (retK false (.int .u8)) = m24 x.1 x.2.1 := by kernel_rfl
theorem p24 : PmOk Try.prog e24 := pm_ok (E := E24) ok24 ord lm24 Try.func24 ca24 q24

/-! 4: consol/consollaw02.DiskSurvives -/
theorem ca4 : callable Try.prog 4 := ⟨Try.f4, Try.func4, by kernel_rfl, by kernel_rfl⟩
noncomputable def E4 : Env := mkEnv2 Try.prog [e8, e9, e24] [c8i14, c8i16, c20, c22, c23]
theorem ok4 : EnvOk (E4) := mkEnv2_ok (by simp only [List.mem_cons, List.not_mem_nil, or_false, forall_eq_or_imp, forall_eq]; exact ⟨p8, p9, p24⟩) (by simp only [List.mem_cons, List.not_mem_nil, or_false, forall_eq_or_imp, forall_eq]; exact ⟨d8i14, d8i16, d20, d22, d23⟩)
/-- a round of a loop of consol/consollaw02.DiskSurvives -/
noncomputable def s4_1 {R : Type} (t9 : (List UInt8)) (t11 : (List UInt8)) (t15 : (List UInt8)) (t17 : Int) (kn : Bool → Bool → Int → Option R) (k1 : Bool → Bool → Option R) (t18 : Bool) (t19 : Bool) (t20 : Int) : Option R :=
  bif ((decide (t20 < (IntKind.i64.wrap ((IntKind.i64.wrap (64 * t17)) + 64)))) && (decide (t20 < (List.length t15 : Int)))) then
    (idxG (t18 == true) (0 : UInt8) t15 t20).bind fun c8 =>
    (idxG (t18 == true) (0 : UInt8) t9 t20).bind fun c9 =>
    (idxG (t19 == true) (0 : UInt8) t15 t20).bind fun c10 =>
    (bif (t19 == true) then (m24 t11 t20) else some 0).bind fun r11 =>
    kn (t18 && ((c8.toNat : Int) == (c9.toNat : Int))) (t19 && ((c10.toNat : Int) == r11)) (IntKind.i64.wrap (t20 + 1))
  else
    k1 t18 t19
noncomputable def l4_1 {R : Type} (t9 : (List UInt8)) (t11 : (List UInt8)) (t15 : (List UInt8)) (t17 : Int) (k1 : Bool → Bool → Option R) : Nat → Bool → Bool → Int → Option R
  | 0, _, _, _ => none
  | n + 1, t18, t19, t20 => s4_1 t9 t11 t15 t17 (l4_1 t9 t11 t15 t17 k1 n) k1 t18 t19 t20
noncomputable def L4_1 : LE := ⟨22, 0, ⟨[(7, (.dat .bool)), (9, (.dat .str)), (11, (.dat .str)), (15, (.dat .str)), (17, (.dat (.int .i64))), (18, (.dat .bool)), (19, (.dat .bool)), (20, (.dat (.int .i64)))], []⟩, fun R n x k => l4_1 x.1.2.1 x.1.2.2.1 x.1.2.2.2.1 x.1.2.2.2.2.1 (fun y0 y1 => k (.exit 2) ⟨[(7, (.dat .bool x.1.1)), (9, (.dat .str x.1.2.1)), (11, (.dat .str x.1.2.2.1)), (15, (.dat .str x.1.2.2.2.1)), (17, (.dat (.int .i64) x.1.2.2.2.2.1)), (18, (.dat .bool y0)), (19, (.dat .bool y1))], []⟩) n x.1.2.2.2.2.2.1 x.1.2.2.2.2.2.2.1 x.1.2.2.2.2.2.2.2.1⟩
/-- a round of a loop of consol/consollaw02.DiskSurvives -/
noncomputable def s4_2 {R : Type} (t9 : (List UInt8)) (t11 : (List UInt8)) (t15 : (List UInt8)) (kn : Int → Option R) (k1 : Option R) (k2 : Option R) (t17 : Int) : Option R :=
  bif (decide ((IntKind.i64.wrap (64 * t17)) < (List.length t15 : Int))) then
    l4_1 t9 t11 t15 t17 (fun y12 y13 =>
        bif ((!y12) && (!y13)) then
          k2
        else
          kn (IntKind.i64.wrap (t17 + 1))) FUEL true true (IntKind.i64.wrap (64 * t17))
  else
    k1
noncomputable def l4_2 {R : Type} (t9 : (List UInt8)) (t11 : (List UInt8)) (t15 : (List UInt8)) (k1 : Option R) (k2 : Option R) : Nat → Int → Option R
  | 0, _ => none
  | n + 1, t17 => s4_2 t9 t11 t15 (l4_2 t9 t11 t15 k1 k2 n) k1 k2 t17
noncomputable def L4_2 : LE := ⟨17, 0, ⟨[(7, (.dat .bool)), (9, (.dat .str)), (11, (.dat .str)), (15, (.dat .str)), (17, (.dat (.int .i64)))], []⟩, fun R n x k => l4_2 x.1.2.1 x.1.2.2.1 x.1.2.2.2.1 (k (.exit 0) ⟨[(7, (.dat .bool x.1.1))], []⟩) (k .ret ⟨[(6, (.dat .bool false))], []⟩) n x.1.2.2.2.2.1⟩
noncomputable def C4 : Cfg := mkCfg [(17, ⟨[7, 9, 11, 15, 17], [], []⟩), (22, ⟨[7, 9, 11, 15, 17, 18, 19, 20], [], []⟩)] [(17, (⟨[7], [], []⟩, ⟨[6], [], []⟩)), (22, (⟨[7, 9, 11, 15, 17, 18, 19], [], []⟩, ⟨[6], [], []⟩))] (([(1, L4_1), (0, L4_2)] : List (Nat × LE)).map (·.2))
theorem ek4_1 : EOk (E4) (C4) Try.f4.ntmps (bodyL Try.f4 1) (L4_1) := eok_of (e := L4_1) (fun R x Kn k => s4_1 x.1.2.1 x.1.2.2.1 x.1.2.2.2.1 x.1.2.2.2.2.1 (fun v0 v1 v2 => Kn ((x.1.1, x.1.2.1, x.1.2.2.1, x.1.2.2.2.1, x.1.2.2.2.2.1, v0, v1, v2, ()), (()))) (fun y0 y1 => k (.exit 2) ⟨[(7, (.dat .bool x.1.1)), (9, (.dat .str x.1.2.1)), (11, (.dat .str x.1.2.2.1)), (15, (.dat .str x.1.2.2.2.1)), (17, (.dat (.int .i64) x.1.2.2.2.2.1)), (18, (.dat .bool y0)), (19, (.dat .bool y1))], []⟩) x.1.2.2.2.2.2.1 x.1.2.2.2.2.2.2.1 x.1.2.2.2.2.2.2.2.1) (fun _ _ _ => rfl) (fun _ _ _ _ => rfl) (fun R x Kn k => by kernel_rfl)
theorem ek4_2 : EOk (E4) (C4) Try.f4.ntmps (bodyL Try.f4 0) (L4_2) := eok_of (e := L4_2) (fun R x Kn k => s4_2 x.1.2.1 x.1.2.2.1 x.1.2.2.2.1 (fun v0 => Kn ((x.1.1, x.1.2.1, x.1.2.2.1, x.1.2.2.2.1, v0, ()), (()))) (k (.exit 0) ⟨[(7, (.dat .bool x.1.1))], []⟩) (k .ret ⟨[(6, (.dat .bool false))], []⟩) x.1.2.2.2.2.1) (fun _ _ _ => rfl) (fun _ _ _ _ => rfl) (fun R x Kn k => by kernel_rfl)
theorem lm4 : ∀ c, Try.f4.body = some c → LmOk (E4) (C4) Try.f4.ntmps c := lmOk_of (ps := [(1, L4_1), (0, L4_2)]) (by kernel_rfl) (by kernel_rfl) ⟨ek4_1, ek4_2, trivial⟩
noncomputable def m4 (a0 : (List T32)) (a1 : Int) (a2 : (List Int)) : Option (Bool) :=
  (m8).bind fun r1 =>
  (m9 a0).bind fun r2 =>
  bif ((!r2) || (decide ((List.length a2 : Int) > 60))) then
    some r1
  else
    (m22 a0).bind fun r3 =>
    bif (((r3.2.1.2.2.2.2.1 || (decide (a1 < 0))) || (decide (a1 > 15))) == false) then
      bif (((r3.2.1.2.2.2.2.1 || (decide (a1 < 0))) || (decide (a1 > 15))) || (decide ((List.length (Option.getD (mapAt (.int .i64) G62 a1 r3.2.2.1) (([] : (List UInt8)), ([] : (List UInt8)), ())).1 : Int) > 100000))) then
        some r1
      else
        (m20 a1 0 16777216 r3.2.1.2.2.2.1 r3.2.1.2.2.2.2.1 r3.2.1.2.2.2.2.2.1 r3.2.1.2.2.2.2.2.2.1 r3.2.2.1 r3.2.2.2.1 r3.2.2.2.2.1).bind fun r4 =>
        (m23 a1 [] r4.2.1.2.2.2.1 r4.2.1.2.2.2.2.1 r4.2.1.2.2.2.2.2.1 r4.2.1.2.2.2.2.2.2.1 r4.2.2.1 r4.2.2.2.1 r4.2.2.2.2.1).bind fun r5 =>
        (m23 a1 [1] r5.2.1.2.2.2.1 r5.2.1.2.2.2.2.1 r5.2.1.2.2.2.2.2.1 r5.2.1.2.2.2.2.2.2.1 r5.2.2.1 r5.2.2.2.1 r5.2.2.2.2.1).bind fun r6 =>
        (m23 a1 a2 r6.2.1.2.2.2.1 r6.2.1.2.2.2.2.1 r6.2.1.2.2.2.2.2.1 r6.2.1.2.2.2.2.2.2.1 r6.2.2.1 r6.2.2.2.1 r6.2.2.2.2.1).bind fun r7 =>
        bif (((((((r4.1.1.2.1 != 0) || (!r5.1.1.2.1)) || (!r6.1.1.2.1)) || (!r7.1.1.2.1)) || (!(r6.1.1.1 == r4.1.1.1))) || (decide ((List.length r7.1.1.1 : Int) < (List.length r5.1.1.1 : Int)))) || (decide ((List.length r7.1.1.1 : Int) > (List.length r4.1.1.1 : Int)))) then
          some false
        else
          l4_2 r4.1.1.1 r5.1.1.1 r7.1.1.1 (
              some r1) (
              some false) FUEL 0
    else
      bif (bif ((r3.2.1.2.2.2.2.1 || (decide (a1 < 0))) || (decide (a1 > 15))) then true else false) then
        some r1
      else
        (m20 a1 0 16777216 r3.2.1.2.2.2.1 r3.2.1.2.2.2.2.1 r3.2.1.2.2.2.2.2.1 r3.2.1.2.2.2.2.2.2.1 r3.2.2.1 r3.2.2.2.1 r3.2.2.2.2.1).bind fun r14 =>
        (m23 a1 [] r14.2.1.2.2.2.1 r14.2.1.2.2.2.2.1 r14.2.1.2.2.2.2.2.1 r14.2.1.2.2.2.2.2.2.1 r14.2.2.1 r14.2.2.2.1 r14.2.2.2.2.1).bind fun r15 =>
        (m23 a1 [1] r15.2.1.2.2.2.1 r15.2.1.2.2.2.2.1 r15.2.1.2.2.2.2.2.1 r15.2.1.2.2.2.2.2.2.1 r15.2.2.1 r15.2.2.2.1 r15.2.2.2.2.1).bind fun r16 =>
        (m23 a1 a2 r16.2.1.2.2.2.1 r16.2.1.2.2.2.2.1 r16.2.1.2.2.2.2.2.1 r16.2.1.2.2.2.2.2.2.1 r16.2.2.1 r16.2.2.2.1 r16.2.2.2.2.1).bind fun r17 =>
        bif (((((((r14.1.1.2.1 != 0) || (!r15.1.1.2.1)) || (!r16.1.1.2.1)) || (!r17.1.1.2.1)) || (!(r16.1.1.1 == r14.1.1.1))) || (decide ((List.length r17.1.1.1 : Int) < (List.length r15.1.1.1 : Int)))) || (decide ((List.length r17.1.1.1 : Int) > (List.length r14.1.1.1 : Int)))) then
          some false
        else
          l4_2 r14.1.1.1 r15.1.1.1 r17.1.1.1 (
              some r1) (
              some false) FUEL 0
noncomputable def e4 : PmE := entry 4 [(.sl G32), (.int .i64), (.sl (.int .i64))] false .bool (fun x => m4 x.1 x.2.1 x.2.2.1)
noncomputable def V4 (mo8 : Option (Bool)) : Env := mkEnv2 Try.prog [(entry 8 [] false .bool (fun _ => mo8)), e9, e24] [c8i14, c8i16, c20, c22, c23]
theorem qv4 (mo8 : Option (Bool)) (x : tyL [(.sl G32), (.int .i64), (.sl (.int .i64))]) : execF (V4 mo8) C4 Try.f4 (datL [(.sl G32), (.int .i64), (.sl (.int .i64))] x) [] (retK false .bool) = (fun (a0 : (List T32)) (a1 : Int) (a2 : (List Int)) =>
  (mo8).bind fun r1 =>
  (m9 a0).bind fun r2 =>
  bif ((!r2) || (decide ((List.length a2 : Int) > 60))) then
    some r1
  else
    (m22 a0).bind fun r3 =>
    bif (((r3.2.1.2.2.2.2.1 || (decide (a1 < 0))) || (decide (a1 > 15))) == false) then
      bif (((r3.2.1.2.2.2.2.1 || (decide (a1 < 0))) || (decide (a1 > 15))) || (decide ((List.length (Option.getD (mapAt (.int .i64) G62 a1 r3.2.2.1) (([] : (List UInt8)), ([] : (List UInt8)), ())).1 : Int) > 100000))) then
        some r1
      else
        (m20 a1 0 16777216 r3.2.1.2.2.2.1 r3.2.1.2.2.2.2.1 r3.2.1.2.2.2.2.2.1 r3.2.1.2.2.2.2.2.2.1 r3.2.2.1 r3.2.2.2.1 r3.2.2.2.2.1).bind fun r4 =>
        (m23 a1 [] r4.2.1.2.2.2.1 r4.2.1.2.2.2.2.1 r4.2.1.2.2.2.2.2.1 r4.2.1.2.2.2.2.2.2.1 r4.2.2.1 r4.2.2.2.1 r4.2.2.2.2.1).bind fun r5 =>
        (m23 a1 [1] r5.2.1.2.2.2.1 r5.2.1.2.2.2.2.1 r5.2.1.2.2.2.2.2.1 r5.2.1.2.2.2.2.2.2.1 r5.2.2.1 r5.2.2.2.1 r5.2.2.2.2.1).bind fun r6 =>
        (m23 a1 a2 r6.2.1.2.2.2.1 r6.2.1.2.2.2.2.1 r6.2.1.2.2.2.2.2.1 r6.2.1.2.2.2.2.2.2.1 r6.2.2.1 r6.2.2.2.1 r6.2.2.2.2.1).bind fun r7 =>
        bif (((((((r4.1.1.2.1 != 0) || (!r5.1.1.2.1)) || (!r6.1.1.2.1)) || (!r7.1.1.2.1)) || (!(r6.1.1.1 == r4.1.1.1))) || (decide ((List.length r7.1.1.1 : Int) < (List.length r5.1.1.1 : Int)))) || (decide ((List.length r7.1.1.1 : Int) > (List.length r4.1.1.1 : Int)))) then
          some false
        else
          l4_2 r4.1.1.1 r5.1.1.1 r7.1.1.1 (
              some r1) (
              some false) FUEL 0
    else
      bif (bif ((r3.2.1.2.2.2.2.1 || (decide (a1 < 0))) || (decide (a1 > 15))) then true else false) then
        some r1
      else
        (m20 a1 0 16777216 r3.2.1.2.2.2.1 r3.2.1.2.2.2.2.1 r3.2.1.2.2.2.2.2.1 r3.2.1.2.2.2.2.2.2.1 r3.2.2.1 r3.2.2.2.1 r3.2.2.2.2.1).bind fun r14 =>
        (m23 a1 [] r14.2.1.2.2.2.1 r14.2.1.2.2.2.2.1 r14.2.1.2.2.2.2.2.1 r14.2.1.2.2.2.2.2.2.1 r14.2.2.1 r14.2.2.2.1 r14.2.2.2.2.1).bind fun r15 =>
        (m23 a1 [1] r15.2.1.2.2.2.1 r15.2.1.2.2.2.2.1 r15.2.1.2.2.2.2.2.1 r15.2.1.2.2.2.2.2.2.1 r15.2.2.1 r15.2.2.2.1 r15.2.2.2.2.1).bind fun r16 =>
        (m23 a1 a2 r16.2.1.2.2.2.1 r16.2.1.2.2.2.2.1 r16.2.1.2.2.2.2.2.1 r16.2.1.2.2.2.2.2.2.1 r16.2.2.1 r16.2.2.2.1 r16.2.2.2.2.1).bind fun r17 =>
        bif (((((((r14.1.1.2.1 != 0) || (!r15.1.1.2.1)) || (!r16.1.1.2.1)) || (!r17.1.1.2.1)) || (!(r16.1.1.1 == r14.1.1.1))) || (decide ((List.length r17.1.1.1 : Int) < (List.length r15.1.1.1 : Int)))) || (decide ((List.length r17.1.1.1 : Int) > (List.length r14.1.1.1 : Int)))) then
          some false
        else
          l4_2 r14.1.1.1 r15.1.1.1 r17.1.1.1 (
              some r1) (
              some false) FUEL 0) x.1 x.2.1 x.2.2.1 := by kernel_rfl
theorem q4 (x : tyL [(.sl G32), (.int .i64), (.sl (.int .i64))]) : execF E4 C4 Try.f4 (datL [(.sl G32), (.int .i64), (.sl (.int .i64))] x) [] (retK false .bool) = m4 x.1 x.2.1 x.2.2.1 := qv4 m8 x
theorem p4 : PmOk Try.prog e4 := pm_ok (E := E4) ok4 ord lm4 Try.func4 ca4 q4

/-! 5: consol/consollaw02.DiskSynced -/
theorem ca5 : callable Try.prog 5 := ⟨Try.f5, Try.func5, by kernel_rfl, by kernel_rfl⟩
noncomputable def E5 : Env := mkEnv2 Try.prog [e8, e9] [c12, c19, c20, c22, c25, c8i26]
theorem ok5 : EnvOk (E5) := mkEnv2_ok (by simp only [List.mem_cons, List.not_mem_nil, or_false, forall_eq_or_imp, forall_eq]; exact ⟨p8, p9⟩) (by simp only [List.mem_cons, List.not_mem_nil, or_false, forall_eq_or_imp, forall_eq]; exact ⟨d12, d19, d20, d22, d25, d8i26⟩)
/-- a round of a loop of consol/consollaw02.DiskSynced -/
noncomputable def s5_1 {R : Type} (t1 : Int) (t2 : (List T32)) (kn : Int → Int → Bool → Int → (List Int) → (List (Int × T62)) → (List T69) → (List (T69 × Bool)) → Option R) (k1 : Int → Bool → Int → (List Int) → (List (Int × T62)) → (List T69) → (List (T69 × Bool)) → Option R) (t15 : Int) (o0 : Int) (o0_2 : Bool) (o0_3 : Int) (o0_4 : (List Int)) (o1 : (List (Int × T62))) (o2 : (List T69)) (o3 : (List (T69 × Bool))) : Option R :=
  bif (decide (t15 < (List.length t2 : Int))) then
    cont (fun (k12 : (Int × Bool × Int × (List Int) × (List (Int × T62)) × (List T69) × (List (T69 × Bool))) → _) =>
      (idx t2 t15).bind fun x8 =>
      (idxG ((decide ((IntKind.i64.wrap ((BitVec.ofInt IntKind.i64.bits x8.1 &&& BitVec.ofInt IntKind.i64.bits 7).toNat)) < 4)) == true) (0, 0, 0, ([] : (List UInt8)), ([] : (List Int)), ()) t2 t15).bind fun x9 =>
      bif (((decide ((IntKind.i64.wrap ((BitVec.ofInt IntKind.i64.bits x8.1 &&& BitVec.ofInt IntKind.i64.bits 7).toNat)) < 4)) && (x9.2.1 != t1)) || ((IntKind.i64.wrap ((BitVec.ofInt IntKind.i64.bits x8.1 &&& BitVec.ofInt IntKind.i64.bits 7).toNat)) == 4)) then
        (idx t2 t15).bind fun x10 =>
        (m12 x10 o0 o0_2 o0_3 o0_4 o1 o2 o3).bind fun r11 =>
        k12 (r11.2.1.2.2.2.1, r11.2.1.2.2.2.2.1, r11.2.1.2.2.2.2.2.1, r11.2.1.2.2.2.2.2.2.1, r11.2.2.1, r11.2.2.2.2.2.1, r11.2.2.2.2.2.2.1)
      else
        k12 (o0, o0_2, o0_3, o0_4, o1, o2, o3)) fun y12 =>
    kn (IntKind.i64.wrap (t15 + 1)) y12.1 y12.2.1 y12.2.2.1 y12.2.2.2.1 y12.2.2.2.2.1 y12.2.2.2.2.2.1 y12.2.2.2.2.2.2
  else
    k1 o0 o0_2 o0_3 o0_4 o1 o2 o3
noncomputable def l5_1 {R : Type} (t1 : Int) (t2 : (List T32)) (k1 : Int → Bool → Int → (List Int) → (List (Int × T62)) → (List T69) → (List (T69 × Bool)) → Option R) : Nat → Int → Int → Bool → Int → (List Int) → (List (Int × T62)) → (List T69) → (List (T69 × Bool)) → Option R
  | 0, _, _, _, _, _, _, _, _ => none
  | n + 1, t15, o0, o0_2, o0_3, o0_4, o1, o2, o3 => s5_1 t1 t2 (l5_1 t1 t2 k1 n) k1 t15 o0 o0_2 o0_3 o0_4 o1 o2 o3
noncomputable def L5_1 : LE := ⟨13, 0, ⟨[(1, (.dat (.int .i64))), (2, (.dat (.sl G32))), (3, (.dat (.sl (.int .i64)))), (9, (.dat .bool)), (10, (.box 0 [] 0)), (11, (.dat .str)), (13, (.dat .str)), (14, (.dat (.int .i64))), (15, (.dat (.int .i64)))], [(.box (.agg (.scons (.mp 1) (.scons (.own 2) (.scons (.mp 3) (.scons (.dat (.int .i64)) (.scons (.dat .bool) (.scons (.dat (.int .i64)) (.scons (.dat (.sl (.int .i64))) .snil))))))))), (.map (.int .i64) G62), (.arr G69), (.map G69 .bool)]⟩, fun R n x k => l5_1 x.1.1 x.1.2.1 (fun y0 y1 y2 y3 y4 y5 y6 => k (.exit 0) ⟨[(1, (.dat (.int .i64) x.1.1)), (3, (.dat (.sl (.int .i64)) x.1.2.2.1)), (9, (.dat .bool x.1.2.2.2.1)), (10, (.box 0 [] 0)), (11, (.dat .str x.1.2.2.2.2.2.1)), (13, (.dat .str x.1.2.2.2.2.2.2.1)), (14, (.dat (.int .i64) x.1.2.2.2.2.2.2.2.1))], [(.box (.agg (.scons (.mp 1) (.scons (.own 2) (.scons (.mp 3) (.scons (.dat (.int .i64) y0) (.scons (.dat .bool y1) (.scons (.dat (.int .i64) y2) (.scons (.dat (.sl (.int .i64)) y3) .snil))))))))), (.map (.int .i64) G62 y4), (.arr G69 y5), (.map G69 .bool y6)]⟩) n x.1.2.2.2.2.2.2.2.2.1 x.2.1.2.2.2.1 x.2.1.2.2.2.2.1 x.2.1.2.2.2.2.2.1 x.2.1.2.2.2.2.2.2.1 x.2.2.1 x.2.2.2.1 x.2.2.2.2.1⟩
noncomputable def C5 : Cfg := mkCfg [(13, ⟨[1, 2, 3, 9, 10, 11, 13, 14, 15], [], []⟩), (14, ⟨[1, 2, 3, 9, 10, 11, 13, 14, 15], [], []⟩)] [(13, (⟨[1, 3, 9, 10, 11, 13, 14], [], []⟩, ⟨[8], [], []⟩))] (([(0, L5_1)] : List (Nat × LE)).map (·.2))
theorem ek5_1 : EOk (E5) (C5) Try.f5.ntmps (bodyL Try.f5 0) (L5_1) := eok_of (e := L5_1) (fun R x Kn k => s5_1 x.1.1 x.1.2.1 (fun v0 v1 v2 v3 v4 v5 v6 v7 => Kn ((x.1.1, x.1.2.1, x.1.2.2.1, x.1.2.2.2.1, (), x.1.2.2.2.2.2.1, x.1.2.2.2.2.2.2.1, x.1.2.2.2.2.2.2.2.1, v0, ()), (((), (), (), v1, v2, v3, v4, ()), v5, v6, v7, ()))) (fun y0 y1 y2 y3 y4 y5 y6 => k (.exit 0) ⟨[(1, (.dat (.int .i64) x.1.1)), (3, (.dat (.sl (.int .i64)) x.1.2.2.1)), (9, (.dat .bool x.1.2.2.2.1)), (10, (.box 0 [] 0)), (11, (.dat .str x.1.2.2.2.2.2.1)), (13, (.dat .str x.1.2.2.2.2.2.2.1)), (14, (.dat (.int .i64) x.1.2.2.2.2.2.2.2.1))], [(.box (.agg (.scons (.mp 1) (.scons (.own 2) (.scons (.mp 3) (.scons (.dat (.int .i64) y0) (.scons (.dat .bool y1) (.scons (.dat (.int .i64) y2) (.scons (.dat (.sl (.int .i64)) y3) .snil))))))))), (.map (.int .i64) G62 y4), (.arr G69 y5), (.map G69 .bool y6)]⟩) x.1.2.2.2.2.2.2.2.2.1 x.2.1.2.2.2.1 x.2.1.2.2.2.2.1 x.2.1.2.2.2.2.2.1 x.2.1.2.2.2.2.2.2.1 x.2.2.1 x.2.2.2.1 x.2.2.2.2.1) (fun _ _ _ => rfl) (fun _ _ _ _ => rfl) (fun R x Kn k => by kernel_rfl)
theorem lm5 : ∀ c, Try.f5.body = some c → LmOk (E5) (C5) Try.f5.ntmps c := lmOk_of (ps := [(0, L5_1)]) (by kernel_rfl) (by kernel_rfl) ⟨ek5_1, trivial⟩
noncomputable def m5 (a0 : (List T32)) (a1 : Int) (a2 : (List T32)) (a3 : (List Int)) : Option (Bool) :=
  (m8).bind fun r1 =>
  (m9 a0).bind fun r2 =>
  (bif ((!r2) == false) then (m9 a2) else some false).bind fun r3 =>
  bif (((!r2) || (!r3)) || (decide ((List.length a3 : Int) > 60))) then
    some r1
  else
    (m22 a0).bind fun r4 =>
    (m20 a1 0 16777216 r4.2.1.2.2.2.1 r4.2.1.2.2.2.2.1 r4.2.1.2.2.2.2.2.1 r4.2.1.2.2.2.2.2.2.1 r4.2.2.1 r4.2.2.2.1 r4.2.2.2.2.1).bind fun r5 =>
    (m19 a1 r5.2.1.2.2.2.1 r5.2.1.2.2.2.2.1 r5.2.1.2.2.2.2.2.1 r5.2.1.2.2.2.2.2.2.1 r5.2.2.1 r5.2.2.2.1 r5.2.2.2.2.1).bind fun r6 =>
    bif (r6.1.1 != 0) then
      some r1
    else
      (m20 a1 0 16777216 r6.2.1.2.2.2.1 r6.2.1.2.2.2.2.1 r6.2.1.2.2.2.2.2.1 r6.2.1.2.2.2.2.2.2.1 r6.2.2.1 r6.2.2.2.2.2.1 r6.2.2.2.2.2.2.1).bind fun r7 =>
      l5_1 a1 a2 (fun y13 y14 y15 y16 y17 y18 y19 =>
          (m25 a3 y13 y14 y15 y16 y17 y18 y19).bind fun r20 =>
          (m20 a1 0 16777216 r20.2.1.2.2.2.1 false r20.2.1.2.2.2.2.2.1 r20.2.1.2.2.2.2.2.2.1 r20.2.2.1 r20.2.2.2.2.2.1 r20.2.2.2.2.2.2.1).bind fun r21 =>
          some ((((r1 && (r7.1.1.2.1 == 0)) && (r21.1.1.2.1 == 0)) && (r5.1.1.1 == r7.1.1.1)) && (r21.1.1.1 == r7.1.1.1))) FUEL 0 r7.2.1.2.2.2.1 r7.2.1.2.2.2.2.1 r7.2.1.2.2.2.2.2.1 r7.2.1.2.2.2.2.2.2.1 r7.2.2.1 r7.2.2.2.1 r7.2.2.2.2.1
noncomputable def e5 : PmE := entry 5 [(.sl G32), (.int .i64), (.sl G32), (.sl (.int .i64))] false .bool (fun x => m5 x.1 x.2.1 x.2.2.1 x.2.2.2.1)
noncomputable def V5 (mo8 : Option (Bool)) : Env := mkEnv2 Try.prog [(entry 8 [] false .bool (fun _ => mo8)), e9] [c12, c19, c20, c22, c25, c8i26]
theorem qv5 (mo8 : Option (Bool)) (x : tyL [(.sl G32), (.int .i64), (.sl G32), (.sl (.int .i64))]) : execF (V5 mo8) C5 Try.f5 (datL [(.sl G32), (.int .i64), (.sl G32), (.sl (.int .i64))] x) [] (retK false .bool) = (fun (a0 : (List T32)) (a1 : Int) (a2 : (List T32)) (a3 : (List Int)) =>
  (mo8).bind fun r1 =>
  (m9 a0).bind fun r2 =>
  (bif ((!r2) == false) then (m9 a2) else some false).bind fun r3 =>
  bif (((!r2) || (!r3)) || (decide ((List.length a3 : Int) > 60))) then
    some r1
  else
    (m22 a0).bind fun r4 =>
    (m20 a1 0 16777216 r4.2.1.2.2.2.1 r4.2.1.2.2.2.2.1 r4.2.1.2.2.2.2.2.1 r4.2.1.2.2.2.2.2.2.1 r4.2.2.1 r4.2.2.2.1 r4.2.2.2.2.1).bind fun r5 =>
    (m19 a1 r5.2.1.2.2.2.1 r5.2.1.2.2.2.2.1 r5.2.1.2.2.2.2.2.1 r5.2.1.2.2.2.2.2.2.1 r5.2.2.1 r5.2.2.2.1 r5.2.2.2.2.1).bind fun r6 =>
    bif (r6.1.1 != 0) then
      some r1
    else
      (m20 a1 0 16777216 r6.2.1.2.2.2.1 r6.2.1.2.2.2.2.1 r6.2.1.2.2.2.2.2.1 r6.2.1.2.2.2.2.2.2.1 r6.2.2.1 r6.2.2.2.2.2.1 r6.2.2.2.2.2.2.1).bind fun r7 =>
      l5_1 a1 a2 (fun y13 y14 y15 y16 y17 y18 y19 =>
          (m25 a3 y13 y14 y15 y16 y17 y18 y19).bind fun r20 =>
          (m20 a1 0 16777216 r20.2.1.2.2.2.1 false r20.2.1.2.2.2.2.2.1 r20.2.1.2.2.2.2.2.2.1 r20.2.2.1 r20.2.2.2.2.2.1 r20.2.2.2.2.2.2.1).bind fun r21 =>
          some ((((r1 && (r7.1.1.2.1 == 0)) && (r21.1.1.2.1 == 0)) && (r5.1.1.1 == r7.1.1.1)) && (r21.1.1.1 == r7.1.1.1))) FUEL 0 r7.2.1.2.2.2.1 r7.2.1.2.2.2.2.1 r7.2.1.2.2.2.2.2.1 r7.2.1.2.2.2.2.2.2.1 r7.2.2.1 r7.2.2.2.1 r7.2.2.2.2.1) x.1 x.2.1 x.2.2.1 x.2.2.2.1 := by kernel_rfl
theorem q5 (x : tyL [(.sl G32), (.int .i64), (.sl G32), (.sl (.int .i64))]) : execF E5 C5 Try.f5 (datL [(.sl G32), (.int .i64), (.sl G32), (.sl (.int .i64))] x) [] (retK false .bool) = m5 x.1 x.2.1 x.2.2.1 x.2.2.2.1 := qv5 m8 x
theorem p5 : PmOk Try.prog e5 := pm_ok (E := E5) ok5 ord lm5 Try.func5 ca5 q5

/-! 28: consol/consollaw02.same -/
theorem ca28 : callable Try.prog 28 := ⟨Try.f28, Try.func28, by kernel_rfl, by kernel_rfl⟩
abbrev F28i : ShS := ⟨[(0, (.box 0 [] 0)), (1, (.box 1 [] 0)), (2, (.dat (.sl G32)))], [(.box (.agg (.scons (.mp 2) (.scons (.own 3) (.scons (.mp 4) (.scons (.dat (.int .i64)) (.scons (.dat .bool) (.scons (.dat (.int .i64)) (.scons (.dat (.sl (.int .i64))) .snil))))))))), (.box (.agg (.scons (.mp 5) (.scons (.own 6) (.scons (.mp 7) (.scons (.dat (.int .i64)) (.scons (.dat .bool) (.scons (.dat (.int .i64)) (.scons (.dat (.sl (.int .i64))) .snil))))))))), (.map (.int .i64) G62), (.arr G69), (.map G69 .bool), (.map (.int .i64) G62), (.arr G69), (.map G69 .bool)]⟩
abbrev F28o : ShS := ⟨[(0, (.dat .bool))], [(.box (.agg (.scons (.mp 2) (.scons (.own 3) (.scons (.mp 4) (.scons (.dat (.int .i64)) (.scons (.dat .bool) (.scons (.dat (.int .i64)) (.scons (.dat (.sl (.int .i64))) .snil))))))))), (.box (.agg (.scons (.mp 5) (.scons (.own 6) (.scons (.mp 7) (.scons (.dat (.int .i64)) (.scons (.dat .bool) (.scons (.dat (.int .i64)) (.scons (.dat (.sl (.int .i64))) .snil))))))))), (.map (.int .i64) G62), (.arr G69), (.map G69 .bool), (.map (.int .i64) G62), (.arr G69), (.map G69 .bool)]⟩
noncomputable def E28 : Env := mkEnv2 Try.prog [] [c8i14, c8i16, c20]
theorem ok28 : EnvOk (E28) := mkEnv2_ok (by simp) (by simp only [List.mem_cons, List.not_mem_nil, or_false, forall_eq_or_imp, forall_eq]; exact ⟨d8i14, d8i16, d20⟩)
/-- a round of a loop of consol/consollaw02.same -/
noncomputable def s28_1 {R : Type} (t2 : (List T32)) (kn : Int → Int → Bool → Int → (List Int) → Int → Bool → Int → (List Int) → (List (Int × T62)) → (List T69) → (List (T69 × Bool)) → (List (Int × T62)) → (List T69) → (List (T69 × Bool)) → Option R) (k1 : Int → Bool → Int → (List Int) → Int → Bool → Int → (List Int) → (List (Int × T62)) → (List T69) → (List (T69 × Bool)) → (List (Int × T62)) → (List T69) → (List (T69 × Bool)) → Option R) (k2 : Int → Bool → Int → (List Int) → Int → Bool → Int → (List Int) → (List (Int × T62)) → (List T69) → (List (T69 × Bool)) → (List (Int × T62)) → (List T69) → (List (T69 × Bool)) → Option R) (t7 : Int) (o0 : Int) (o0_2 : Bool) (o0_3 : Int) (o0_4 : (List Int)) (o1 : Int) (o1_2 : Bool) (o1_3 : Int) (o1_4 : (List Int)) (o2 : (List (Int × T62))) (o3 : (List T69)) (o4 : (List (T69 × Bool))) (o5 : (List (Int × T62))) (o6 : (List T69)) (o7 : (List (T69 × Bool))) : Option R :=
  bif (decide (t7 < (List.length t2 : Int))) then
    (idx t2 t7).bind fun x1 =>
    (m20 x1.2.1 0 16777216 o0 o0_2 o0_3 o0_4 o2 o3 o4).bind fun r2 =>
    (idx t2 t7).bind fun x3 =>
    (m20 x3.2.1 0 16777216 o1 o1_2 o1_3 o1_4 o5 o6 o7).bind fun r4 =>
    (idxG (((!(r2.1.1.1 == r4.1.1.1)) || (r2.1.1.2.1 != r4.1.1.2.1)) == false) (0, 0, 0, ([] : (List UInt8)), ([] : (List Int)), ()) t2 t7).bind fun x5 =>
    bif (((!(r2.1.1.1 == r4.1.1.1)) || (r2.1.1.2.1 != r4.1.1.2.1)) == false) then
      (idxG (((!(r2.1.1.1 == r4.1.1.1)) || (r2.1.1.2.1 != r4.1.1.2.1)) == false) (0, 0, 0, ([] : (List UInt8)), ([] : (List Int)), ()) t2 t7).bind fun x6 =>
      bif (((!(r2.1.1.1 == r4.1.1.1)) || (r2.1.1.2.1 != r4.1.1.2.1)) == false) then
        bif (((!(r2.1.1.1 == r4.1.1.1)) || (r2.1.1.2.1 != r4.1.1.2.1)) || ((List.length (Option.getD (mapAt (.int .i64) G62 x5.2.1 r2.2.2.1) (([] : (List UInt8)), ([] : (List UInt8)), ())).1 : Int) != (List.length (Option.getD (mapAt (.int .i64) G62 x6.2.1 r4.2.2.1) (([] : (List UInt8)), ([] : (List UInt8)), ())).1 : Int))) then
          k2 r2.2.1.2.2.2.1 r2.2.1.2.2.2.2.1 r2.2.1.2.2.2.2.2.1 r2.2.1.2.2.2.2.2.2.1 r4.2.1.2.2.2.1 r4.2.1.2.2.2.2.1 r4.2.1.2.2.2.2.2.1 r4.2.1.2.2.2.2.2.2.1 r2.2.2.1 r2.2.2.2.1 r2.2.2.2.2.1 r4.2.2.1 r4.2.2.2.1 r4.2.2.2.2.1
        else
          kn (IntKind.i64.wrap (t7 + 1)) r2.2.1.2.2.2.1 r2.2.1.2.2.2.2.1 r2.2.1.2.2.2.2.2.1 r2.2.1.2.2.2.2.2.2.1 r4.2.1.2.2.2.1 r4.2.1.2.2.2.2.1 r4.2.1.2.2.2.2.2.1 r4.2.1.2.2.2.2.2.2.1 r2.2.2.1 r2.2.2.2.1 r2.2.2.2.2.1 r4.2.2.1 r4.2.2.2.1 r4.2.2.2.2.1
      else
        bif (((!(r2.1.1.1 == r4.1.1.1)) || (r2.1.1.2.1 != r4.1.1.2.1)) || ((List.length (Option.getD (mapAt (.int .i64) G62 x5.2.1 r2.2.2.1) (([] : (List UInt8)), ([] : (List UInt8)), ())).1 : Int) != 0)) then
          k2 r2.2.1.2.2.2.1 r2.2.1.2.2.2.2.1 r2.2.1.2.2.2.2.2.1 r2.2.1.2.2.2.2.2.2.1 r4.2.1.2.2.2.1 r4.2.1.2.2.2.2.1 r4.2.1.2.2.2.2.2.1 r4.2.1.2.2.2.2.2.2.1 r2.2.2.1 r2.2.2.2.1 r2.2.2.2.2.1 r4.2.2.1 r4.2.2.2.1 r4.2.2.2.2.1
        else
          kn (IntKind.i64.wrap (t7 + 1)) r2.2.1.2.2.2.1 r2.2.1.2.2.2.2.1 r2.2.1.2.2.2.2.2.1 r2.2.1.2.2.2.2.2.2.1 r4.2.1.2.2.2.1 r4.2.1.2.2.2.2.1 r4.2.1.2.2.2.2.2.1 r4.2.1.2.2.2.2.2.2.1 r2.2.2.1 r2.2.2.2.1 r2.2.2.2.2.1 r4.2.2.1 r4.2.2.2.1 r4.2.2.2.2.1
    else
      (idxG (((!(r2.1.1.1 == r4.1.1.1)) || (r2.1.1.2.1 != r4.1.1.2.1)) == false) (0, 0, 0, ([] : (List UInt8)), ([] : (List Int)), ()) t2 t7).bind fun x7 =>
      bif (((!(r2.1.1.1 == r4.1.1.1)) || (r2.1.1.2.1 != r4.1.1.2.1)) == false) then
        bif (((!(r2.1.1.1 == r4.1.1.1)) || (r2.1.1.2.1 != r4.1.1.2.1)) || (0 != (List.length (Option.getD (mapAt (.int .i64) G62 x7.2.1 r4.2.2.1) (([] : (List UInt8)), ([] : (List UInt8)), ())).1 : Int))) then
          k2 r2.2.1.2.2.2.1 r2.2.1.2.2.2.2.1 r2.2.1.2.2.2.2.2.1 r2.2.1.2.2.2.2.2.2.1 r4.2.1.2.2.2.1 r4.2.1.2.2.2.2.1 r4.2.1.2.2.2.2.2.1 r4.2.1.2.2.2.2.2.2.1 r2.2.2.1 r2.2.2.2.1 r2.2.2.2.2.1 r4.2.2.1 r4.2.2.2.1 r4.2.2.2.2.1
        else
          kn (IntKind.i64.wrap (t7 + 1)) r2.2.1.2.2.2.1 r2.2.1.2.2.2.2.1 r2.2.1.2.2.2.2.2.1 r2.2.1.2.2.2.2.2.2.1 r4.2.1.2.2.2.1 r4.2.1.2.2.2.2.1 r4.2.1.2.2.2.2.2.1 r4.2.1.2.2.2.2.2.2.1 r2.2.2.1 r2.2.2.2.1 r2.2.2.2.2.1 r4.2.2.1 r4.2.2.2.1 r4.2.2.2.2.1
      else
        bif (bif ((!(r2.1.1.1 == r4.1.1.1)) || (r2.1.1.2.1 != r4.1.1.2.1)) then true else false) then
          k2 r2.2.1.2.2.2.1 r2.2.1.2.2.2.2.1 r2.2.1.2.2.2.2.2.1 r2.2.1.2.2.2.2.2.2.1 r4.2.1.2.2.2.1 r4.2.1.2.2.2.2.1 r4.2.1.2.2.2.2.2.1 r4.2.1.2.2.2.2.2.2.1 r2.2.2.1 r2.2.2.2.1 r2.2.2.2.2.1 r4.2.2.1 r4.2.2.2.1 r4.2.2.2.2.1
        else
          kn (IntKind.i64.wrap (t7 + 1)) r2.2.1.2.2.2.1 r2.2.1.2.2.2.2.1 r2.2.1.2.2.2.2.2.1 r2.2.1.2.2.2.2.2.2.1 r4.2.1.2.2.2.1 r4.2.1.2.2.2.2.1 r4.2.1.2.2.2.2.2.1 r4.2.1.2.2.2.2.2.2.1 r2.2.2.1 r2.2.2.2.1 r2.2.2.2.2.1 r4.2.2.1 r4.2.2.2.1 r4.2.2.2.2.1
  else
    k1 o0 o0_2 o0_3 o0_4 o1 o1_2 o1_3 o1_4 o2 o3 o4 o5 o6 o7
noncomputable def l28_1 {R : Type} (t2 : (List T32)) (k1 : Int → Bool → Int → (List Int) → Int → Bool → Int → (List Int) → (List (Int × T62)) → (List T69) → (List (T69 × Bool)) → (List (Int × T62)) → (List T69) → (List (T69 × Bool)) → Option R) (k2 : Int → Bool → Int → (List Int) → Int → Bool → Int → (List Int) → (List (Int × T62)) → (List T69) → (List (T69 × Bool)) → (List (Int × T62)) → (List T69) → (List (T69 × Bool)) → Option R) : Nat → Int → Int → Bool → Int → (List Int) → Int → Bool → Int → (List Int) → (List (Int × T62)) → (List T69) → (List (T69 × Bool)) → (List (Int × T62)) → (List T69) → (List (T69 × Bool)) → Option R
  | 0, _, _, _, _, _, _, _, _, _, _, _, _, _, _, _ => none
  | n + 1, t7, o0, o0_2, o0_3, o0_4, o1, o1_2, o1_3, o1_4, o2, o3, o4, o5, o6, o7 => s28_1 t2 (l28_1 t2 k1 k2 n) k1 k2 t7 o0 o0_2 o0_3 o0_4 o1 o1_2 o1_3 o1_4 o2 o3 o4 o5 o6 o7
noncomputable def L28_1 : LE := ⟨5, 8, ⟨[(0, (.box 0 [] 0)), (1, (.box 1 [] 0)), (2, (.dat (.sl G32))), (7, (.dat (.int .i64)))], [(.box (.agg (.scons (.mp 2) (.scons (.own 3) (.scons (.mp 4) (.scons (.dat (.int .i64)) (.scons (.dat .bool) (.scons (.dat (.int .i64)) (.scons (.dat (.sl (.int .i64))) .snil))))))))), (.box (.agg (.scons (.mp 5) (.scons (.own 6) (.scons (.mp 7) (.scons (.dat (.int .i64)) (.scons (.dat .bool) (.scons (.dat (.int .i64)) (.scons (.dat (.sl (.int .i64))) .snil))))))))), (.map (.int .i64) G62), (.arr G69), (.map G69 .bool), (.map (.int .i64) G62), (.arr G69), (.map G69 .bool)]⟩, fun R n x k => l28_1 x.1.2.2.1 (fun y0 y1 y2 y3 y4 y5 y6 y7 y8 y9 y10 y11 y12 y13 => k (.exit 0) ⟨[], [(.box (.agg (.scons (.mp 2) (.scons (.own 3) (.scons (.mp 4) (.scons (.dat (.int .i64) y0) (.scons (.dat .bool y1) (.scons (.dat (.int .i64) y2) (.scons (.dat (.sl (.int .i64)) y3) .snil))))))))), (.box (.agg (.scons (.mp 5) (.scons (.own 6) (.scons (.mp 7) (.scons (.dat (.int .i64) y4) (.scons (.dat .bool y5) (.scons (.dat (.int .i64) y6) (.scons (.dat (.sl (.int .i64)) y7) .snil))))))))), (.map (.int .i64) G62 y8), (.arr G69 y9), (.map G69 .bool y10), (.map (.int .i64) G62 y11), (.arr G69 y12), (.map G69 .bool y13)]⟩) (fun y0 y1 y2 y3 y4 y5 y6 y7 y8 y9 y10 y11 y12 y13 => k .ret ⟨[(6, (.dat .bool false))], [(.box (.agg (.scons (.mp 2) (.scons (.own 3) (.scons (.mp 4) (.scons (.dat (.int .i64) y0) (.scons (.dat .bool y1) (.scons (.dat (.int .i64) y2) (.scons (.dat (.sl (.int .i64)) y3) .snil))))))))), (.box (.agg (.scons (.mp 5) (.scons (.own 6) (.scons (.mp 7) (.scons (.dat (.int .i64) y4) (.scons (.dat .bool y5) (.scons (.dat (.int .i64) y6) (.scons (.dat (.sl (.int .i64)) y7) .snil))))))))), (.map (.int .i64) G62 y8), (.arr G69 y9), (.map G69 .bool y10), (.map (.int .i64) G62 y11), (.arr G69 y12), (.map G69 .bool y13)]⟩) n x.1.2.2.2.1 x.2.1.2.2.2.1 x.2.1.2.2.2.2.1 x.2.1.2.2.2.2.2.1 x.2.1.2.2.2.2.2.2.1 x.2.2.1.2.2.2.1 x.2.2.1.2.2.2.2.1 x.2.2.1.2.2.2.2.2.1 x.2.2.1.2.2.2.2.2.2.1 x.2.2.2.1 x.2.2.2.2.1 x.2.2.2.2.2.1 x.2.2.2.2.2.2.1 x.2.2.2.2.2.2.2.1 x.2.2.2.2.2.2.2.2.1⟩
noncomputable def C28 : Cfg := mkCfg [(5, ⟨[0, 1, 2, 7], [], []⟩)] [(5, (⟨[], [], []⟩, ⟨[6], [], []⟩))] (([(0, L28_1)] : List (Nat × LE)).map (·.2))
theorem ek28_1 : EOk (E28) (C28) Try.f28.ntmps (bodyL Try.f28 0) (L28_1) := eok_of (e := L28_1) (fun R x Kn k => s28_1 x.1.2.2.1 (fun v0 v1 v2 v3 v4 v5 v6 v7 v8 v9 v10 v11 v12 v13 v14 => Kn (((), (), x.1.2.2.1, v0, ()), (((), (), (), v1, v2, v3, v4, ()), ((), (), (), v5, v6, v7, v8, ()), v9, v10, v11, v12, v13, v14, ()))) (fun y0 y1 y2 y3 y4 y5 y6 y7 y8 y9 y10 y11 y12 y13 => k (.exit 0) ⟨[], [(.box (.agg (.scons (.mp 2) (.scons (.own 3) (.scons (.mp 4) (.scons (.dat (.int .i64) y0) (.scons (.dat .bool y1) (.scons (.dat (.int .i64) y2) (.scons (.dat (.sl (.int .i64)) y3) .snil))))))))), (.box (.agg (.scons (.mp 5) (.scons (.own 6) (.scons (.mp 7) (.scons (.dat (.int .i64) y4) (.scons (.dat .bool y5) (.scons (.dat (.int .i64) y6) (.scons (.dat (.sl (.int .i64)) y7) .snil))))))))), (.map (.int .i64) G62 y8), (.arr G69 y9), (.map G69 .bool y10), (.map (.int .i64) G62 y11), (.arr G69 y12), (.map G69 .bool y13)]⟩) (fun y0 y1 y2 y3 y4 y5 y6 y7 y8 y9 y10 y11 y12 y13 => k .ret ⟨[(6, (.dat .bool false))], [(.box (.agg (.scons (.mp 2) (.scons (.own 3) (.scons (.mp 4) (.scons (.dat (.int .i64) y0) (.scons (.dat .bool y1) (.scons (.dat (.int .i64) y2) (.scons (.dat (.sl (.int .i64)) y3) .snil))))))))), (.box (.agg (.scons (.mp 5) (.scons (.own 6) (.scons (.mp 7) (.scons (.dat (.int .i64) y4) (.scons (.dat .bool y5) (.scons (.dat (.int .i64) y6) (.scons (.dat (.sl (.int .i64)) y7) .snil))))))))), (.map (.int .i64) G62 y8), (.arr G69 y9), (.map G69 .bool y10), (.map (.int .i64) G62 y11), (.arr G69 y12), (.map G69 .bool y13)]⟩) x.1.2.2.2.1 x.2.1.2.2.2.1 x.2.1.2.2.2.2.1 x.2.1.2.2.2.2.2.1 x.2.1.2.2.2.2.2.2.1 x.2.2.1.2.2.2.1 x.2.2.1.2.2.2.2.1 x.2.2.1.2.2.2.2.2.1 x.2.2.1.2.2.2.2.2.2.1 x.2.2.2.1 x.2.2.2.2.1 x.2.2.2.2.2.1 x.2.2.2.2.2.2.1 x.2.2.2.2.2.2.2.1 x.2.2.2.2.2.2.2.2.1) (fun _ _ _ => rfl) (fun _ _ _ _ => rfl) (fun R x Kn k => by kernel_rfl)
theorem lm28 : ∀ c, Try.f28.body = some c → LmOk (E28) (C28) Try.f28.ntmps c := lmOk_of (ps := [(0, L28_1)]) (by kernel_rfl) (by kernel_rfl) ⟨ek28_1, trivial⟩
noncomputable def m28 (a0 : (List T32)) (a1 : Int) (a2 : Bool) (a3 : Int) (a4 : (List Int)) (a5 : Int) (a6 : Bool) (a7 : Int) (a8 : (List Int)) (a9 : (List (Int × T62))) (a10 : (List T69)) (a11 : (List (T69 × Bool))) (a12 : (List (Int × T62))) (a13 : (List T69)) (a14 : (List (T69 × Bool))) : Option F28o.ty :=
  bif (!(a2 == a6)) then
    some ((false, ()), (((), (), (), a1, a2, a3, a4, ()), ((), (), (), a5, a6, a7, a8, ()), a9, a10, a11, a12, a13, a14, ()))
  else
    l28_1 a0 (fun y8 y9 y10 y11 y12 y13 y14 y15 y16 y17 y18 y19 y20 y21 =>
        some ((true, ()), (((), (), (), y8, y9, y10, y11, ()), ((), (), (), y12, y13, y14, y15, ()), y16, y17, y18, y19, y20, y21, ()))) (fun y22 y23 y24 y25 y26 y27 y28 y29 y30 y31 y32 y33 y34 y35 =>
        some ((false, ()), (((), (), (), y22, y23, y24, y25, ()), ((), (), (), y26, y27, y28, y29, ()), y30, y31, y32, y33, y34, y35, ()))) FUEL 0 a1 a2 a3 a4 a5 a6 a7 a8 a9 a10 a11 a12 a13 a14
theorem q28 (x : F28i.ty) : execF E28 C28 Try.f28 ((F28i.enc x).regs.map (·.2)) (F28i.enc x).heap (retS [] [] 8 F28o) = m28 x.1.2.2.1 x.2.1.2.2.2.1 x.2.1.2.2.2.2.1 x.2.1.2.2.2.2.2.1 x.2.1.2.2.2.2.2.2.1 x.2.2.1.2.2.2.1 x.2.2.1.2.2.2.2.1 x.2.2.1.2.2.2.2.2.1 x.2.2.1.2.2.2.2.2.2.1 x.2.2.2.1 x.2.2.2.2.1 x.2.2.2.2.2.1 x.2.2.2.2.2.2.1 x.2.2.2.2.2.2.2.1 x.2.2.2.2.2.2.2.2.1 := by kernel_rfl
theorem R28 : CRun Try.prog 28 F28i F28o (fun x => m28 x.1.2.2.1 x.2.1.2.2.2.1 x.2.1.2.2.2.2.1 x.2.1.2.2.2.2.2.1 x.2.1.2.2.2.2.2.2.1 x.2.2.1.2.2.2.1 x.2.2.1.2.2.2.2.1 x.2.2.1.2.2.2.2.2.1 x.2.2.1.2.2.2.2.2.2.1 x.2.2.2.1 x.2.2.2.2.1 x.2.2.2.2.2.1 x.2.2.2.2.2.2.1 x.2.2.2.2.2.2.2.1 x.2.2.2.2.2.2.2.2.1) := st_run (E := E28) ok28 ord lm28 Try.func28 q28
noncomputable def c28 : CmE := stE 28 [(0, [6], (.sl (.int .i64))), (1, [6], (.sl (.int .i64))), (2, [], (.sl G32))] [(0, [1], G69), (1, [1], G69)] F28i F28o (fun x => m28 x.1.2.2.1 x.2.1.2.2.2.1 x.2.1.2.2.2.2.1 x.2.1.2.2.2.2.2.1 x.2.1.2.2.2.2.2.2.1 x.2.2.1.2.2.2.1 x.2.2.1.2.2.2.2.1 x.2.2.1.2.2.2.2.2.1 x.2.2.1.2.2.2.2.2.2.1 x.2.2.2.1 x.2.2.2.2.1 x.2.2.2.2.2.1 x.2.2.2.2.2.2.1 x.2.2.2.2.2.2.2.1 x.2.2.2.2.2.2.2.2.1)
theorem d28 : CmOk Try.prog c28 := st_ok ca28 R28

/-! 6: consol/consollaw02.DiskArms -/
theorem ca6 : callable Try.prog 6 := ⟨Try.f6, Try.func6, by kernel_rfl, by kernel_rfl⟩
noncomputable def E6 : Env := mkEnv2 Try.prog [e8, e9] [c10, c12, c8i14, c25, c8i26, c12i27, c28]
theorem ok6 : EnvOk (E6) := mkEnv2_ok (by simp only [List.mem_cons, List.not_mem_nil, or_false, forall_eq_or_imp, forall_eq]; exact ⟨p8, p9⟩) (by simp only [List.mem_cons, List.not_mem_nil, or_false, forall_eq_or_imp, forall_eq]; exact ⟨d10, d12, d8i14, d25, d8i26, d12i27, d28⟩)
/-- a round of a loop of consol/consollaw02.DiskArms -/
noncomputable def s6_1 {R : Type} (t0 : (List T32)) (t1 : Int) (t2 : (List Int)) (t7 : Bool) (kn : Int → Int → Int → Bool → Int → (List Int) → Int → Bool → Int → (List Int) → (List (Int × T62)) → (List T69) → (List (T69 × Bool)) → (List (Int × T62)) → (List T69) → (List (T69 × Bool)) → Option R) (k1 : Int → Bool → Int → (List Int) → Int → Bool → Int → (List Int) → (List (Int × T62)) → (List T69) → (List (T69 × Bool)) → (List (Int × T62)) → (List T69) → (List (T69 × Bool)) → Option R) (k2 : Bool → Option R) (t10 : Int) (t11 : Int) (o0 : Int) (o0_2 : Bool) (o0_3 : Int) (o0_4 : (List Int)) (o1 : Int) (o1_2 : Bool) (o1_3 : Int) (o1_4 : (List Int)) (o2 : (List (Int × T62))) (o3 : (List T69)) (o4 : (List (T69 × Bool))) (o5 : (List (Int × T62))) (o6 : (List T69)) (o7 : (List (T69 × Bool))) : Option R :=
  bif (decide (t11 < (List.length t0 : Int))) then
    cont (fun (k24 : (Int × Int × Bool × Int × (List Int) × Int × Bool × Int × (List Int) × (List (Int × T62)) × (List T69) × (List (T69 × Bool)) × (List (Int × T62)) × (List T69) × (List (T69 × Bool))) → _) =>
      (idx t0 t11).bind fun x6 =>
      bif (decide ((IntKind.i64.wrap ((BitVec.ofInt IntKind.i64.bits x6.1 &&& BitVec.ofInt IntKind.i64.bits 7).toNat)) > 4)) then
        k2 t7
      else
        cont (fun (k7 : Int → _) =>
          bif (decide ((IntKind.i64.wrap ((BitVec.ofInt IntKind.i64.bits x6.1 &&& BitVec.ofInt IntKind.i64.bits 7).toNat)) < 4)) then
            k7 (IntKind.i64.wrap (t10 + 1))
          else
            k7 t10) fun y7 =>
        (idx t0 t11).bind fun x8 =>
        (m12 x8 o0 o0_2 o0_3 o0_4 o2 o3 o4).bind fun r9 =>
        bif (((decide (y7 < t1)) == false) && (((y7 == t1) && ((IntKind.i64.wrap ((BitVec.ofInt IntKind.i64.bits x6.1 &&& BitVec.ofInt IntKind.i64.bits 7).toNat)) == 4)) == true)) then
          bif ((decide (y7 < t1)) || (((y7 == t1) && ((IntKind.i64.wrap ((BitVec.ofInt IntKind.i64.bits x6.1 &&& BitVec.ofInt IntKind.i64.bits 7).toNat)) == 4)) && (!r9.2.1.2.2.2.2.1))) then
            (idx t0 t11).bind fun x10 =>
            (m12 x10 o1 o1_2 o1_3 o1_4 o5 o6 o7).bind fun r11 =>
            bif (r9.1.1 != r11.1.1) then
              k2 false
            else
              k24 (y7, r9.2.1.2.2.2.1, r9.2.1.2.2.2.2.1, r9.2.1.2.2.2.2.2.1, r9.2.1.2.2.2.2.2.2.1, r11.2.1.2.2.2.1, r11.2.1.2.2.2.2.1, r11.2.1.2.2.2.2.2.1, r11.2.1.2.2.2.2.2.2.1, r9.2.2.1, r9.2.2.2.2.2.1, r9.2.2.2.2.2.2.1, r11.2.2.1, r11.2.2.2.2.2.1, r11.2.2.2.2.2.2.1)
          else
            cont (fun (k16 : (Int × Bool × Int × (List Int) × (List (Int × T62)) × (List T69) × (List (T69 × Bool))) → _) =>
              bif ((y7 == t1) && (decide ((IntKind.i64.wrap ((BitVec.ofInt IntKind.i64.bits x6.1 &&& BitVec.ofInt IntKind.i64.bits 7).toNat)) < 2))) then
                (idx t0 t11).bind fun x14 =>
                (m12 x14 o1 o1_2 o1_3 o1_4 o5 o6 o7).bind fun r15 =>
                k16 (r15.2.1.2.2.2.1, r15.2.1.2.2.2.2.1, r15.2.1.2.2.2.2.2.1, r15.2.1.2.2.2.2.2.2.1, r15.2.2.1, r15.2.2.2.2.2.1, r15.2.2.2.2.2.2.1)
              else
                k16 (o1, o1_2, o1_3, o1_4, o5, o6, o7)) fun y16 =>
            cont (fun (k18 : (Int × Bool × Int × (List Int) × (List (Int × T62)) × (List T69) × (List (T69 × Bool))) → _) =>
              bif ((y7 == t1) && (decide ((IntKind.i64.wrap ((BitVec.ofInt IntKind.i64.bits x6.1 &&& BitVec.ofInt IntKind.i64.bits 7).toNat)) < 4))) then
                (m25 t2 y16.1 y16.2.1 y16.2.2.1 y16.2.2.2.1 y16.2.2.2.2.1 y16.2.2.2.2.2.1 y16.2.2.2.2.2.2).bind fun r17 =>
                k18 (r17.2.1.2.2.2.1, r17.2.1.2.2.2.2.1, r17.2.1.2.2.2.2.2.1, r17.2.1.2.2.2.2.2.2.1, r17.2.2.1, r17.2.2.2.2.2.1, r17.2.2.2.2.2.2.1)
              else
                k18 (y16.1, y16.2.1, y16.2.2.1, y16.2.2.2.1, y16.2.2.2.2.1, y16.2.2.2.2.2.1, y16.2.2.2.2.2.2)) fun y18 =>
            bif (((decide ((IntKind.i64.wrap ((BitVec.ofInt IntKind.i64.bits x6.1 &&& BitVec.ofInt IntKind.i64.bits 7).toNat)) < 4)) && (r9.1.1 != 8)) == false) then
              bif (((decide ((IntKind.i64.wrap ((BitVec.ofInt IntKind.i64.bits x6.1 &&& BitVec.ofInt IntKind.i64.bits 7).toNat)) < 4)) && (r9.1.1 != 8)) || (!r9.2.1.2.2.2.2.1)) then
                k2 false
              else
                k24 (y7, r9.2.1.2.2.2.1, r9.2.1.2.2.2.2.1, r9.2.1.2.2.2.2.2.1, r9.2.1.2.2.2.2.2.2.1, y18.1, y18.2.1, y18.2.2.1, y18.2.2.2.1, r9.2.2.1, r9.2.2.2.2.2.1, r9.2.2.2.2.2.2.1, y18.2.2.2.2.1, y18.2.2.2.2.2.1, y18.2.2.2.2.2.2)
            else
              bif (((decide ((IntKind.i64.wrap ((BitVec.ofInt IntKind.i64.bits x6.1 &&& BitVec.ofInt IntKind.i64.bits 7).toNat)) < 4)) && (r9.1.1 != 8)) || true) then
                k2 false
              else
                k24 (y7, r9.2.1.2.2.2.1, r9.2.1.2.2.2.2.1, r9.2.1.2.2.2.2.2.1, r9.2.1.2.2.2.2.2.2.1, y18.1, y18.2.1, y18.2.2.1, y18.2.2.2.1, r9.2.2.1, r9.2.2.2.2.2.1, r9.2.2.2.2.2.2.1, y18.2.2.2.2.1, y18.2.2.2.2.2.1, y18.2.2.2.2.2.2)
        else
          bif ((decide (y7 < t1)) || (bif ((y7 == t1) && ((IntKind.i64.wrap ((BitVec.ofInt IntKind.i64.bits x6.1 &&& BitVec.ofInt IntKind.i64.bits 7).toNat)) == 4)) then true else false)) then
            (idx t0 t11).bind fun x12 =>
            (m12 x12 o1 o1_2 o1_3 o1_4 o5 o6 o7).bind fun r13 =>
            bif (r9.1.1 != r13.1.1) then
              k2 false
            else
              k24 (y7, r9.2.1.2.2.2.1, r9.2.1.2.2.2.2.1, r9.2.1.2.2.2.2.2.1, r9.2.1.2.2.2.2.2.2.1, r13.2.1.2.2.2.1, r13.2.1.2.2.2.2.1, r13.2.1.2.2.2.2.2.1, r13.2.1.2.2.2.2.2.2.1, r9.2.2.1, r9.2.2.2.2.2.1, r9.2.2.2.2.2.2.1, r13.2.2.1, r13.2.2.2.2.2.1, r13.2.2.2.2.2.2.1)
          else
            cont (fun (k21 : (Int × Bool × Int × (List Int) × (List (Int × T62)) × (List T69) × (List (T69 × Bool))) → _) =>
              bif ((y7 == t1) && (decide ((IntKind.i64.wrap ((BitVec.ofInt IntKind.i64.bits x6.1 &&& BitVec.ofInt IntKind.i64.bits 7).toNat)) < 2))) then
                (idx t0 t11).bind fun x19 =>
                (m12 x19 o1 o1_2 o1_3 o1_4 o5 o6 o7).bind fun r20 =>
                k21 (r20.2.1.2.2.2.1, r20.2.1.2.2.2.2.1, r20.2.1.2.2.2.2.2.1, r20.2.1.2.2.2.2.2.2.1, r20.2.2.1, r20.2.2.2.2.2.1, r20.2.2.2.2.2.2.1)
              else
                k21 (o1, o1_2, o1_3, o1_4, o5, o6, o7)) fun y21 =>
            cont (fun (k23 : (Int × Bool × Int × (List Int) × (List (Int × T62)) × (List T69) × (List (T69 × Bool))) → _) =>
              bif ((y7 == t1) && (decide ((IntKind.i64.wrap ((BitVec.ofInt IntKind.i64.bits x6.1 &&& BitVec.ofInt IntKind.i64.bits 7).toNat)) < 4))) then
                (m25 t2 y21.1 y21.2.1 y21.2.2.1 y21.2.2.2.1 y21.2.2.2.2.1 y21.2.2.2.2.2.1 y21.2.2.2.2.2.2).bind fun r22 =>
                k23 (r22.2.1.2.2.2.1, r22.2.1.2.2.2.2.1, r22.2.1.2.2.2.2.2.1, r22.2.1.2.2.2.2.2.2.1, r22.2.2.1, r22.2.2.2.2.2.1, r22.2.2.2.2.2.2.1)
              else
                k23 (y21.1, y21.2.1, y21.2.2.1, y21.2.2.2.1, y21.2.2.2.2.1, y21.2.2.2.2.2.1, y21.2.2.2.2.2.2)) fun y23 =>
            bif (((decide ((IntKind.i64.wrap ((BitVec.ofInt IntKind.i64.bits x6.1 &&& BitVec.ofInt IntKind.i64.bits 7).toNat)) < 4)) && (r9.1.1 != 8)) == false) then
              bif (((decide ((IntKind.i64.wrap ((BitVec.ofInt IntKind.i64.bits x6.1 &&& BitVec.ofInt IntKind.i64.bits 7).toNat)) < 4)) && (r9.1.1 != 8)) || (!r9.2.1.2.2.2.2.1)) then
                k2 false
              else
                k24 (y7, r9.2.1.2.2.2.1, r9.2.1.2.2.2.2.1, r9.2.1.2.2.2.2.2.1, r9.2.1.2.2.2.2.2.2.1, y23.1, y23.2.1, y23.2.2.1, y23.2.2.2.1, r9.2.2.1, r9.2.2.2.2.2.1, r9.2.2.2.2.2.2.1, y23.2.2.2.2.1, y23.2.2.2.2.2.1, y23.2.2.2.2.2.2)
            else
              bif (((decide ((IntKind.i64.wrap ((BitVec.ofInt IntKind.i64.bits x6.1 &&& BitVec.ofInt IntKind.i64.bits 7).toNat)) < 4)) && (r9.1.1 != 8)) || true) then
                k2 false
              else
                k24 (y7, r9.2.1.2.2.2.1, r9.2.1.2.2.2.2.1, r9.2.1.2.2.2.2.2.1, r9.2.1.2.2.2.2.2.2.1, y23.1, y23.2.1, y23.2.2.1, y23.2.2.2.1, r9.2.2.1, r9.2.2.2.2.2.1, r9.2.2.2.2.2.2.1, y23.2.2.2.2.1, y23.2.2.2.2.2.1, y23.2.2.2.2.2.2)) fun y24 =>
    kn y24.1 (IntKind.i64.wrap (t11 + 1)) y24.2.1 y24.2.2.1 y24.2.2.2.1 y24.2.2.2.2.1 y24.2.2.2.2.2.1 y24.2.2.2.2.2.2.1 y24.2.2.2.2.2.2.2.1 y24.2.2.2.2.2.2.2.2.1 y24.2.2.2.2.2.2.2.2.2.1 y24.2.2.2.2.2.2.2.2.2.2.1 y24.2.2.2.2.2.2.2.2.2.2.2.1 y24.2.2.2.2.2.2.2.2.2.2.2.2.1 y24.2.2.2.2.2.2.2.2.2.2.2.2.2.1 y24.2.2.2.2.2.2.2.2.2.2.2.2.2.2
  else
    k1 o0 o0_2 o0_3 o0_4 o1 o1_2 o1_3 o1_4 o2 o3 o4 o5 o6 o7
noncomputable def l6_1 {R : Type} (t0 : (List T32)) (t1 : Int) (t2 : (List Int)) (t7 : Bool) (k1 : Int → Bool → Int → (List Int) → Int → Bool → Int → (List Int) → (List (Int × T62)) → (List T69) → (List (T69 × Bool)) → (List (Int × T62)) → (List T69) → (List (T69 × Bool)) → Option R) (k2 : Bool → Option R) : Nat → Int → Int → Int → Bool → Int → (List Int) → Int → Bool → Int → (List Int) → (List (Int × T62)) → (List T69) → (List (T69 × Bool)) → (List (Int × T62)) → (List T69) → (List (T69 × Bool)) → Option R
  | 0, _, _, _, _, _, _, _, _, _, _, _, _, _, _, _, _ => none
  | n + 1, t10, t11, o0, o0_2, o0_3, o0_4, o1, o1_2, o1_3, o1_4, o2, o3, o4, o5, o6, o7 => s6_1 t0 t1 t2 t7 (l6_1 t0 t1 t2 t7 k1 k2 n) k1 k2 t10 t11 o0 o0_2 o0_3 o0_4 o1 o1_2 o1_3 o1_4 o2 o3 o4 o5 o6 o7
noncomputable def L6_1 : LE := ⟨12, 0, ⟨[(0, (.dat (.sl G32))), (1, (.dat (.int .i64))), (2, (.dat (.sl (.int .i64)))), (7, (.dat .bool)), (8, (.box 0 [] 0)), (9, (.box 1 [] 0)), (10, (.dat (.int .i64))), (11, (.dat (.int .i64)))], [(.box (.agg (.scons (.mp 2) (.scons (.own 3) (.scons (.mp 4) (.scons (.dat (.int .i64)) (.scons (.dat .bool) (.scons (.dat (.int .i64)) (.scons (.dat (.sl (.int .i64))) .snil))))))))), (.box (.agg (.scons (.mp 5) (.scons (.own 6) (.scons (.mp 7) (.scons (.dat (.int .i64)) (.scons (.dat .bool) (.scons (.dat (.int .i64)) (.scons (.dat (.sl (.int .i64))) .snil))))))))), (.map (.int .i64) G62), (.arr G69), (.map G69 .bool), (.map (.int .i64) G62), (.arr G69), (.map G69 .bool)]⟩, fun R n x k => l6_1 x.1.1 x.1.2.1 x.1.2.2.1 x.1.2.2.2.1 (fun y0 y1 y2 y3 y4 y5 y6 y7 y8 y9 y10 y11 y12 y13 => k (.exit 0) ⟨[(0, (.dat (.sl G32) x.1.1)), (7, (.dat .bool x.1.2.2.2.1)), (8, (.box 0 [] 0)), (9, (.box 1 [] 0))], [(.box (.agg (.scons (.mp 2) (.scons (.own 3) (.scons (.mp 4) (.scons (.dat (.int .i64) y0) (.scons (.dat .bool y1) (.scons (.dat (.int .i64) y2) (.scons (.dat (.sl (.int .i64)) y3) .snil))))))))), (.box (.agg (.scons (.mp 5) (.scons (.own 6) (.scons (.mp 7) (.scons (.dat (.int .i64) y4) (.scons (.dat .bool y5) (.scons (.dat (.int .i64) y6) (.scons (.dat (.sl (.int .i64)) y7) .snil))))))))), (.map (.int .i64) G62 y8), (.arr G69 y9), (.map G69 .bool y10), (.map (.int .i64) G62 y11), (.arr G69 y12), (.map G69 .bool y13)]⟩) (fun y0 => k .ret ⟨[(6, (.dat .bool y0))], []⟩) n x.1.2.2.2.2.2.2.1 x.1.2.2.2.2.2.2.2.1 x.2.1.2.2.2.1 x.2.1.2.2.2.2.1 x.2.1.2.2.2.2.2.1 x.2.1.2.2.2.2.2.2.1 x.2.2.1.2.2.2.1 x.2.2.1.2.2.2.2.1 x.2.2.1.2.2.2.2.2.1 x.2.2.1.2.2.2.2.2.2.1 x.2.2.2.1 x.2.2.2.2.1 x.2.2.2.2.2.1 x.2.2.2.2.2.2.1 x.2.2.2.2.2.2.2.1 x.2.2.2.2.2.2.2.2.1⟩
noncomputable def C6 : Cfg := mkCfg [(12, ⟨[0, 1, 2, 7, 8, 9, 10, 11], [], [(8, [6], (.sl (.int .i64)))]⟩), (13, ⟨[0, 1, 2, 7, 8, 9, 10, 11], [], []⟩), (19, ⟨[0, 1, 2, 7, 8, 9, 10, 11, 12], [], []⟩), (25, ⟨[0, 1, 2, 7, 8, 9, 10, 11, 12, 13], [], []⟩), (27, ⟨[0, 1, 2, 7, 8, 9, 10, 11, 12, 13], [], []⟩)] [(12, (⟨[0, 7, 8, 9], [], []⟩, ⟨[6], [], []⟩))] (([(0, L6_1)] : List (Nat × LE)).map (·.2))
theorem ek6_1 : EOk (E6) (C6) Try.f6.ntmps (bodyL Try.f6 0) (L6_1) := eok_of (e := L6_1) (fun R x Kn k => s6_1 x.1.1 x.1.2.1 x.1.2.2.1 x.1.2.2.2.1 (fun v0 v1 v2 v3 v4 v5 v6 v7 v8 v9 v10 v11 v12 v13 v14 v15 => Kn ((x.1.1, x.1.2.1, x.1.2.2.1, x.1.2.2.2.1, (), (), v0, v1, ()), (((), (), (), v2, v3, v4, v5, ()), ((), (), (), v6, v7, v8, v9, ()), v10, v11, v12, v13, v14, v15, ()))) (fun y0 y1 y2 y3 y4 y5 y6 y7 y8 y9 y10 y11 y12 y13 => k (.exit 0) ⟨[(0, (.dat (.sl G32) x.1.1)), (7, (.dat .bool x.1.2.2.2.1)), (8, (.box 0 [] 0)), (9, (.box 1 [] 0))], [(.box (.agg (.scons (.mp 2) (.scons (.own 3) (.scons (.mp 4) (.scons (.dat (.int .i64) y0) (.scons (.dat .bool y1) (.scons (.dat (.int .i64) y2) (.scons (.dat (.sl (.int .i64)) y3) .snil))))))))), (.box (.agg (.scons (.mp 5) (.scons (.own 6) (.scons (.mp 7) (.scons (.dat (.int .i64) y4) (.scons (.dat .bool y5) (.scons (.dat (.int .i64) y6) (.scons (.dat (.sl (.int .i64)) y7) .snil))))))))), (.map (.int .i64) G62 y8), (.arr G69 y9), (.map G69 .bool y10), (.map (.int .i64) G62 y11), (.arr G69 y12), (.map G69 .bool y13)]⟩) (fun y0 => k .ret ⟨[(6, (.dat .bool y0))], []⟩) x.1.2.2.2.2.2.2.1 x.1.2.2.2.2.2.2.2.1 x.2.1.2.2.2.1 x.2.1.2.2.2.2.1 x.2.1.2.2.2.2.2.1 x.2.1.2.2.2.2.2.2.1 x.2.2.1.2.2.2.1 x.2.2.1.2.2.2.2.1 x.2.2.1.2.2.2.2.2.1 x.2.2.1.2.2.2.2.2.2.1 x.2.2.2.1 x.2.2.2.2.1 x.2.2.2.2.2.1 x.2.2.2.2.2.2.1 x.2.2.2.2.2.2.2.1 x.2.2.2.2.2.2.2.2.1) (fun _ _ _ => rfl) (fun _ _ _ _ => rfl) (fun R x Kn k => by kernel_rfl)
theorem lm6 : ∀ c, Try.f6.body = some c → LmOk (E6) (C6) Try.f6.ntmps c := lmOk_of (ps := [(0, L6_1)]) (by kernel_rfl) (by kernel_rfl) ⟨ek6_1, trivial⟩
noncomputable def m6 (a0 : (List T32)) (a1 : Int) (a2 : (List Int)) : Option (Bool) :=
  (m8).bind fun r1 =>
  (m9 a0).bind fun r2 =>
  bif ((((!r2) || (decide ((List.length a2 : Int) > 60))) || (decide (a1 < 1))) || (decide (a1 > 60))) then
    some r1
  else
    (m10).bind fun r3 =>
    (m10).bind fun r4 =>
    (cloneM a2).bind fun r5 =>
    l6_1 a0 a1 a2 r1 (fun y25 y26 y27 y28 y29 y30 y31 y32 y33 y34 y35 y36 y37 y38 =>
        (m28 a0 y25 y26 y27 y28 y29 y30 y31 y32 y33 y34 y35 y36 y37 y38).bind fun r40 =>
        bif ((r1 && r40.1.1) == true) then
          (m28 a0 r40.2.1.2.2.2.1 false r40.2.1.2.2.2.2.2.1 r40.2.1.2.2.2.2.2.2.1 r40.2.2.1.2.2.2.1 false r40.2.2.1.2.2.2.2.2.1 r40.2.2.1.2.2.2.2.2.2.1 r40.2.2.2.1 r40.2.2.2.2.1 r40.2.2.2.2.2.1 r40.2.2.2.2.2.2.1 r40.2.2.2.2.2.2.2.1 r40.2.2.2.2.2.2.2.2.1).bind fun r41 =>
          some ((r1 && r40.1.1) && r41.1.1)
        else
          some ((r1 && r40.1.1) && false)) (fun y39 =>
        some y39) FUEL 0 0 r3.2.1.2.2.2.1 r3.2.1.2.2.2.2.1 (bif decide (0 > a1) then 0 else a1) r5 r4.2.1.2.2.2.1 r4.2.1.2.2.2.2.1 r4.2.1.2.2.2.2.2.1 r4.2.1.2.2.2.2.2.2.1 r3.2.2.1 r3.2.2.2.1 r3.2.2.2.2.1 r4.2.2.1 r4.2.2.2.1 r4.2.2.2.2.1
noncomputable def e6 : PmE := entry 6 [(.sl G32), (.int .i64), (.sl (.int .i64))] false .bool (fun x => m6 x.1 x.2.1 x.2.2.1)
noncomputable def V6 (mo8 : Option (Bool)) : Env := mkEnv2 Try.prog [(entry 8 [] false .bool (fun _ => mo8)), e9] [c10, c12, c8i14, c25, c8i26, c12i27, c28]
theorem qv6 (mo8 : Option (Bool)) (x : tyL [(.sl G32), (.int .i64), (.sl (.int .i64))]) : execF (V6 mo8) C6 Try.f6 (datL [(.sl G32), (.int .i64), (.sl (.int .i64))] x) [] (retK false .bool) = (fun (a0 : (List T32)) (a1 : Int) (a2 : (List Int)) =>
  (mo8).bind fun r1 =>
  (m9 a0).bind fun r2 =>
  bif ((((!r2) || (decide ((List.length a2 : Int) > 60))) || (decide (a1 < 1))) || (decide (a1 > 60))) then
    some r1
  else
    (m10).bind fun r3 =>
    (m10).bind fun r4 =>
    (cloneM a2).bind fun r5 =>
    l6_1 a0 a1 a2 r1 (fun y25 y26 y27 y28 y29 y30 y31 y32 y33 y34 y35 y36 y37 y38 =>
        (m28 a0 y25 y26 y27 y28 y29 y30 y31 y32 y33 y34 y35 y36 y37 y38).bind fun r40 =>
        bif ((r1 && r40.1.1) == true) then
          (m28 a0 r40.2.1.2.2.2.1 false r40.2.1.2.2.2.2.2.1 r40.2.1.2.2.2.2.2.2.1 r40.2.2.1.2.2.2.1 false r40.2.2.1.2.2.2.2.2.1 r40.2.2.1.2.2.2.2.2.2.1 r40.2.2.2.1 r40.2.2.2.2.1 r40.2.2.2.2.2.1 r40.2.2.2.2.2.2.1 r40.2.2.2.2.2.2.2.1 r40.2.2.2.2.2.2.2.2.1).bind fun r41 =>
          some ((r1 && r40.1.1) && r41.1.1)
        else
          some ((r1 && r40.1.1) && false)) (fun y39 =>
        some y39) FUEL 0 0 r3.2.1.2.2.2.1 r3.2.1.2.2.2.2.1 (bif decide (0 > a1) then 0 else a1) r5 r4.2.1.2.2.2.1 r4.2.1.2.2.2.2.1 r4.2.1.2.2.2.2.2.1 r4.2.1.2.2.2.2.2.2.1 r3.2.2.1 r3.2.2.2.1 r3.2.2.2.2.1 r4.2.2.1 r4.2.2.2.1 r4.2.2.2.2.1) x.1 x.2.1 x.2.2.1 := by kernel_rfl
theorem q6 (x : tyL [(.sl G32), (.int .i64), (.sl (.int .i64))]) : execF E6 C6 Try.f6 (datL [(.sl G32), (.int .i64), (.sl (.int .i64))] x) [] (retK false .bool) = m6 x.1 x.2.1 x.2.2.1 := qv6 m8 x
theorem p6 : PmOk Try.prog e6 := pm_ok (E := E6) ok6 ord lm6 Try.func6 ca6 q6

/-! 7: consol/consollaw02.DiskReads -/
theorem ca7 : callable Try.prog 7 := ⟨Try.f7, Try.func7, by kernel_rfl, by kernel_rfl⟩
noncomputable def E7 : Env := mkEnv2 Try.prog [e8, e9] [c8i14, c8i16, c20, c22, c25, c8i26, c12i27, c29, c30]
theorem ok7 : EnvOk (E7) := mkEnv2_ok (by simp only [List.mem_cons, List.not_mem_nil, or_false, forall_eq_or_imp, forall_eq]; exact ⟨p8, p9⟩) (by simp only [List.mem_cons, List.not_mem_nil, or_false, forall_eq_or_imp, forall_eq]; exact ⟨d8i14, d8i16, d20, d22, d25, d8i26, d12i27, d29, d30⟩)
noncomputable def C7 : Cfg := noCfg
theorem lm7 : ∀ c, Try.f7.body = some c → LmOk (E7) (C7) Try.f7.ntmps c := fun _ _ => noCfg_lm
noncomputable def m7 (a0 : (List T32)) (a1 : Int) (a2 : Int) (a3 : (List UInt8)) (a4 : Int) : Option (Bool) :=
  (m8).bind fun r1 =>
  (m9 a0).bind fun r2 =>
  bif (((((!r2) || (decide ((List.length a3 : Int) > 300))) || (decide (a2 < 0))) || (decide (a2 > 3000))) || (decide (a4 < 0))) then
    some r1
  else
    (m22 a0).bind fun r3 =>
    (cloneM []).bind fun r4 =>
    bif ((r3.2.1.2.2.2.2.1 || (decide (a1 < 0))) || (decide (a1 > 15))) then
      bif (r1 == true) then
        (m29 a1 a2 a3 r3.2.1.2.2.2.1 r3.2.1.2.2.2.2.1 (bif decide (0 > 0) then 0 else 0) r4 r3.2.2.1 r3.2.2.2.1 r3.2.2.2.2.1).bind fun r5 =>
        some (r1 && (r5.1.1 != 0))
      else
        some (r1 && false)
    else
      (m29 a1 a2 a3 r3.2.1.2.2.2.1 r3.2.1.2.2.2.2.1 (bif decide (0 > 0) then 0 else 0) r4 r3.2.2.1 r3.2.2.2.1 r3.2.2.2.2.1).bind fun r6 =>
      (m20 a1 a2 (List.length a3 : Int) r6.2.1.2.2.2.1 r6.2.1.2.2.2.2.1 r6.2.1.2.2.2.2.2.1 r6.2.1.2.2.2.2.2.2.1 r6.2.2.1 r6.2.2.2.2.2.1 r6.2.2.2.2.2.2.1).bind fun r7 =>
      (m20 a1 0 (List.length (Option.getD (mapAt (.int .i64) G62 a1 r7.2.2.1) (([] : (List UInt8)), ([] : (List UInt8)), ())).1 : Int) r7.2.1.2.2.2.1 r7.2.1.2.2.2.2.1 r7.2.1.2.2.2.2.2.1 r7.2.1.2.2.2.2.2.2.1 r7.2.2.1 r7.2.2.2.1 r7.2.2.2.2.1).bind fun r8 =>
      (m20 a1 a2 a4 r8.2.1.2.2.2.1 r8.2.1.2.2.2.2.1 r8.2.1.2.2.2.2.2.1 r8.2.1.2.2.2.2.2.2.1 r8.2.2.1 r8.2.2.2.1 r8.2.2.2.2.1).bind fun r9 =>
      bif ((((((r6.1.1 != 0) || (r7.1.1.2.1 != 0)) || (r8.1.1.2.1 != 0)) || (r9.1.1.2.1 != 0)) || (!(r7.1.1.1 == a3))) == false) then
        bif ((((((r6.1.1 != 0) || (r7.1.1.2.1 != 0)) || (r8.1.1.2.1 != 0)) || (r9.1.1.2.1 != 0)) || (!(r7.1.1.1 == a3))) || ((List.length r8.1.1.1 : Int) != (List.length (Option.getD (mapAt (.int .i64) G62 a1 r9.2.2.1) (([] : (List UInt8)), ([] : (List UInt8)), ())).1 : Int))) then
          some false
        else
          asrt true (bounds true (List.length r8.1.1.1) (bif decide ((List.length r8.1.1.1 : Int) < a2) then (List.length r8.1.1.1 : Int) else a2) (IntKind.i64.wrap ((bif decide ((List.length r8.1.1.1 : Int) < a2) then (List.length r8.1.1.1 : Int) else a2) + (bif decide ((IntKind.i64.wrap ((List.length r8.1.1.1 : Int) - (bif decide ((List.length r8.1.1.1 : Int) < a2) then (List.length r8.1.1.1 : Int) else a2))) < a4) then (IntKind.i64.wrap ((List.length r8.1.1.1 : Int) - (bif decide ((List.length r8.1.1.1 : Int) < a2) then (List.length r8.1.1.1 : Int) else a2))) else a4)))) (
            bif (!(r9.1.1.1 == (subl r8.1.1.1 (bif decide ((List.length r8.1.1.1 : Int) < a2) then (List.length r8.1.1.1 : Int) else a2) (IntKind.i64.wrap ((bif decide ((List.length r8.1.1.1 : Int) < a2) then (List.length r8.1.1.1 : Int) else a2) + (bif decide ((IntKind.i64.wrap ((List.length r8.1.1.1 : Int) - (bif decide ((List.length r8.1.1.1 : Int) < a2) then (List.length r8.1.1.1 : Int) else a2))) < a4) then (IntKind.i64.wrap ((List.length r8.1.1.1 : Int) - (bif decide ((List.length r8.1.1.1 : Int) < a2) then (List.length r8.1.1.1 : Int) else a2))) else a4)))))) then
              some false
            else
              (m30 a1 (bif decide ((List.length r8.1.1.1 : Int) < a2) then (List.length r8.1.1.1 : Int) else a2) r9.2.1.2.2.2.1 r9.2.1.2.2.2.2.1 r9.2.1.2.2.2.2.2.1 r9.2.1.2.2.2.2.2.2.1 r9.2.2.1 r9.2.2.2.1 r9.2.2.2.2.1).bind fun r10 =>
              (m25 [] r10.2.1.2.2.2.1 r10.2.1.2.2.2.2.1 r10.2.1.2.2.2.2.2.1 r10.2.1.2.2.2.2.2.2.1 r10.2.2.1 r10.2.2.2.2.2.1 r10.2.2.2.2.2.2.1).bind fun r11 =>
              (m20 a1 0 16777216 r11.2.1.2.2.2.1 false r11.2.1.2.2.2.2.2.1 r11.2.1.2.2.2.2.2.2.1 r11.2.2.1 r11.2.2.2.2.2.1 r11.2.2.2.2.2.2.1).bind fun r12 =>
              asrt (((r1 && (r10.1.1 == 0)) && (r12.1.1.2.1 == 0)) == true) (bounds true (List.length r8.1.1.1) 0 (bif decide ((List.length r8.1.1.1 : Int) < a2) then (List.length r8.1.1.1 : Int) else a2)) (
                some (((r1 && (r10.1.1 == 0)) && (r12.1.1.2.1 == 0)) && (r12.1.1.1 == (subl r8.1.1.1 0 (bif decide ((List.length r8.1.1.1 : Int) < a2) then (List.length r8.1.1.1 : Int) else a2))))))
      else
        bif ((((((r6.1.1 != 0) || (r7.1.1.2.1 != 0)) || (r8.1.1.2.1 != 0)) || (r9.1.1.2.1 != 0)) || (!(r7.1.1.1 == a3))) || ((List.length r8.1.1.1 : Int) != 0)) then
          some false
        else
          asrt true (bounds true (List.length r8.1.1.1) (bif decide ((List.length r8.1.1.1 : Int) < a2) then (List.length r8.1.1.1 : Int) else a2) (IntKind.i64.wrap ((bif decide ((List.length r8.1.1.1 : Int) < a2) then (List.length r8.1.1.1 : Int) else a2) + (bif decide ((IntKind.i64.wrap ((List.length r8.1.1.1 : Int) - (bif decide ((List.length r8.1.1.1 : Int) < a2) then (List.length r8.1.1.1 : Int) else a2))) < a4) then (IntKind.i64.wrap ((List.length r8.1.1.1 : Int) - (bif decide ((List.length r8.1.1.1 : Int) < a2) then (List.length r8.1.1.1 : Int) else a2))) else a4)))) (
            bif (!(r9.1.1.1 == (subl r8.1.1.1 (bif decide ((List.length r8.1.1.1 : Int) < a2) then (List.length r8.1.1.1 : Int) else a2) (IntKind.i64.wrap ((bif decide ((List.length r8.1.1.1 : Int) < a2) then (List.length r8.1.1.1 : Int) else a2) + (bif decide ((IntKind.i64.wrap ((List.length r8.1.1.1 : Int) - (bif decide ((List.length r8.1.1.1 : Int) < a2) then (List.length r8.1.1.1 : Int) else a2))) < a4) then (IntKind.i64.wrap ((List.length r8.1.1.1 : Int) - (bif decide ((List.length r8.1.1.1 : Int) < a2) then (List.length r8.1.1.1 : Int) else a2))) else a4)))))) then
              some false
            else
              (m30 a1 (bif decide ((List.length r8.1.1.1 : Int) < a2) then (List.length r8.1.1.1 : Int) else a2) r9.2.1.2.2.2.1 r9.2.1.2.2.2.2.1 r9.2.1.2.2.2.2.2.1 r9.2.1.2.2.2.2.2.2.1 r9.2.2.1 r9.2.2.2.1 r9.2.2.2.2.1).bind fun r13 =>
              (m25 [] r13.2.1.2.2.2.1 r13.2.1.2.2.2.2.1 r13.2.1.2.2.2.2.2.1 r13.2.1.2.2.2.2.2.2.1 r13.2.2.1 r13.2.2.2.2.2.1 r13.2.2.2.2.2.2.1).bind fun r14 =>
              (m20 a1 0 16777216 r14.2.1.2.2.2.1 false r14.2.1.2.2.2.2.2.1 r14.2.1.2.2.2.2.2.2.1 r14.2.2.1 r14.2.2.2.2.2.1 r14.2.2.2.2.2.2.1).bind fun r15 =>
              asrt (((r1 && (r13.1.1 == 0)) && (r15.1.1.2.1 == 0)) == true) (bounds true (List.length r8.1.1.1) 0 (bif decide ((List.length r8.1.1.1 : Int) < a2) then (List.length r8.1.1.1 : Int) else a2)) (
                some (((r1 && (r13.1.1 == 0)) && (r15.1.1.2.1 == 0)) && (r15.1.1.1 == (subl r8.1.1.1 0 (bif decide ((List.length r8.1.1.1 : Int) < a2) then (List.length r8.1.1.1 : Int) else a2))))))
noncomputable def e7 : PmE := entry 7 [(.sl G32), (.int .i64), (.int .i64), .str, (.int .i64)] false .bool (fun x => m7 x.1 x.2.1 x.2.2.1 x.2.2.2.1 x.2.2.2.2.1)
noncomputable def V7 (mo8 : Option (Bool)) : Env := mkEnv2 Try.prog [(entry 8 [] false .bool (fun _ => mo8)), e9] [c8i14, c8i16, c20, c22, c25, c8i26, c12i27, c29, c30]
theorem qv7 (mo8 : Option (Bool)) (x : tyL [(.sl G32), (.int .i64), (.int .i64), .str, (.int .i64)]) : execF (V7 mo8) C7 Try.f7 (datL [(.sl G32), (.int .i64), (.int .i64), .str, (.int .i64)] x) [] (retK false .bool) = (fun (a0 : (List T32)) (a1 : Int) (a2 : Int) (a3 : (List UInt8)) (a4 : Int) =>
  (mo8).bind fun r1 =>
  (m9 a0).bind fun r2 =>
  bif (((((!r2) || (decide ((List.length a3 : Int) > 300))) || (decide (a2 < 0))) || (decide (a2 > 3000))) || (decide (a4 < 0))) then
    some r1
  else
    (m22 a0).bind fun r3 =>
    (cloneM []).bind fun r4 =>
    bif ((r3.2.1.2.2.2.2.1 || (decide (a1 < 0))) || (decide (a1 > 15))) then
      bif (r1 == true) then
        (m29 a1 a2 a3 r3.2.1.2.2.2.1 r3.2.1.2.2.2.2.1 (bif decide (0 > 0) then 0 else 0) r4 r3.2.2.1 r3.2.2.2.1 r3.2.2.2.2.1).bind fun r5 =>
        some (r1 && (r5.1.1 != 0))
      else
        some (r1 && false)
    else
      (m29 a1 a2 a3 r3.2.1.2.2.2.1 r3.2.1.2.2.2.2.1 (bif decide (0 > 0) then 0 else 0) r4 r3.2.2.1 r3.2.2.2.1 r3.2.2.2.2.1).bind fun r6 =>
      (m20 a1 a2 (List.length a3 : Int) r6.2.1.2.2.2.1 r6.2.1.2.2.2.2.1 r6.2.1.2.2.2.2.2.1 r6.2.1.2.2.2.2.2.2.1 r6.2.2.1 r6.2.2.2.2.2.1 r6.2.2.2.2.2.2.1).bind fun r7 =>
      (m20 a1 0 (List.length (Option.getD (mapAt (.int .i64) G62 a1 r7.2.2.1) (([] : (List UInt8)), ([] : (List UInt8)), ())).1 : Int) r7.2.1.2.2.2.1 r7.2.1.2.2.2.2.1 r7.2.1.2.2.2.2.2.1 r7.2.1.2.2.2.2.2.2.1 r7.2.2.1 r7.2.2.2.1 r7.2.2.2.2.1).bind fun r8 =>
      (m20 a1 a2 a4 r8.2.1.2.2.2.1 r8.2.1.2.2.2.2.1 r8.2.1.2.2.2.2.2.1 r8.2.1.2.2.2.2.2.2.1 r8.2.2.1 r8.2.2.2.1 r8.2.2.2.2.1).bind fun r9 =>
      bif ((((((r6.1.1 != 0) || (r7.1.1.2.1 != 0)) || (r8.1.1.2.1 != 0)) || (r9.1.1.2.1 != 0)) || (!(r7.1.1.1 == a3))) == false) then
        bif ((((((r6.1.1 != 0) || (r7.1.1.2.1 != 0)) || (r8.1.1.2.1 != 0)) || (r9.1.1.2.1 != 0)) || (!(r7.1.1.1 == a3))) || ((List.length r8.1.1.1 : Int) != (List.length (Option.getD (mapAt (.int .i64) G62 a1 r9.2.2.1) (([] : (List UInt8)), ([] : (List UInt8)), ())).1 : Int))) then
          some false
        else
          asrt true (bounds true (List.length r8.1.1.1) (bif decide ((List.length r8.1.1.1 : Int) < a2) then (List.length r8.1.1.1 : Int) else a2) (IntKind.i64.wrap ((bif decide ((List.length r8.1.1.1 : Int) < a2) then (List.length r8.1.1.1 : Int) else a2) + (bif decide ((IntKind.i64.wrap ((List.length r8.1.1.1 : Int) - (bif decide ((List.length r8.1.1.1 : Int) < a2) then (List.length r8.1.1.1 : Int) else a2))) < a4) then (IntKind.i64.wrap ((List.length r8.1.1.1 : Int) - (bif decide ((List.length r8.1.1.1 : Int) < a2) then (List.length r8.1.1.1 : Int) else a2))) else a4)))) (
            bif (!(r9.1.1.1 == (subl r8.1.1.1 (bif decide ((List.length r8.1.1.1 : Int) < a2) then (List.length r8.1.1.1 : Int) else a2) (IntKind.i64.wrap ((bif decide ((List.length r8.1.1.1 : Int) < a2) then (List.length r8.1.1.1 : Int) else a2) + (bif decide ((IntKind.i64.wrap ((List.length r8.1.1.1 : Int) - (bif decide ((List.length r8.1.1.1 : Int) < a2) then (List.length r8.1.1.1 : Int) else a2))) < a4) then (IntKind.i64.wrap ((List.length r8.1.1.1 : Int) - (bif decide ((List.length r8.1.1.1 : Int) < a2) then (List.length r8.1.1.1 : Int) else a2))) else a4)))))) then
              some false
            else
              (m30 a1 (bif decide ((List.length r8.1.1.1 : Int) < a2) then (List.length r8.1.1.1 : Int) else a2) r9.2.1.2.2.2.1 r9.2.1.2.2.2.2.1 r9.2.1.2.2.2.2.2.1 r9.2.1.2.2.2.2.2.2.1 r9.2.2.1 r9.2.2.2.1 r9.2.2.2.2.1).bind fun r10 =>
              (m25 [] r10.2.1.2.2.2.1 r10.2.1.2.2.2.2.1 r10.2.1.2.2.2.2.2.1 r10.2.1.2.2.2.2.2.2.1 r10.2.2.1 r10.2.2.2.2.2.1 r10.2.2.2.2.2.2.1).bind fun r11 =>
              (m20 a1 0 16777216 r11.2.1.2.2.2.1 false r11.2.1.2.2.2.2.2.1 r11.2.1.2.2.2.2.2.2.1 r11.2.2.1 r11.2.2.2.2.2.1 r11.2.2.2.2.2.2.1).bind fun r12 =>
              asrt (((r1 && (r10.1.1 == 0)) && (r12.1.1.2.1 == 0)) == true) (bounds true (List.length r8.1.1.1) 0 (bif decide ((List.length r8.1.1.1 : Int) < a2) then (List.length r8.1.1.1 : Int) else a2)) (
                some (((r1 && (r10.1.1 == 0)) && (r12.1.1.2.1 == 0)) && (r12.1.1.1 == (subl r8.1.1.1 0 (bif decide ((List.length r8.1.1.1 : Int) < a2) then (List.length r8.1.1.1 : Int) else a2))))))
      else
        bif ((((((r6.1.1 != 0) || (r7.1.1.2.1 != 0)) || (r8.1.1.2.1 != 0)) || (r9.1.1.2.1 != 0)) || (!(r7.1.1.1 == a3))) || ((List.length r8.1.1.1 : Int) != 0)) then
          some false
        else
          asrt true (bounds true (List.length r8.1.1.1) (bif decide ((List.length r8.1.1.1 : Int) < a2) then (List.length r8.1.1.1 : Int) else a2) (IntKind.i64.wrap ((bif decide ((List.length r8.1.1.1 : Int) < a2) then (List.length r8.1.1.1 : Int) else a2) + (bif decide ((IntKind.i64.wrap ((List.length r8.1.1.1 : Int) - (bif decide ((List.length r8.1.1.1 : Int) < a2) then (List.length r8.1.1.1 : Int) else a2))) < a4) then (IntKind.i64.wrap ((List.length r8.1.1.1 : Int) - (bif decide ((List.length r8.1.1.1 : Int) < a2) then (List.length r8.1.1.1 : Int) else a2))) else a4)))) (
            bif (!(r9.1.1.1 == (subl r8.1.1.1 (bif decide ((List.length r8.1.1.1 : Int) < a2) then (List.length r8.1.1.1 : Int) else a2) (IntKind.i64.wrap ((bif decide ((List.length r8.1.1.1 : Int) < a2) then (List.length r8.1.1.1 : Int) else a2) + (bif decide ((IntKind.i64.wrap ((List.length r8.1.1.1 : Int) - (bif decide ((List.length r8.1.1.1 : Int) < a2) then (List.length r8.1.1.1 : Int) else a2))) < a4) then (IntKind.i64.wrap ((List.length r8.1.1.1 : Int) - (bif decide ((List.length r8.1.1.1 : Int) < a2) then (List.length r8.1.1.1 : Int) else a2))) else a4)))))) then
              some false
            else
              (m30 a1 (bif decide ((List.length r8.1.1.1 : Int) < a2) then (List.length r8.1.1.1 : Int) else a2) r9.2.1.2.2.2.1 r9.2.1.2.2.2.2.1 r9.2.1.2.2.2.2.2.1 r9.2.1.2.2.2.2.2.2.1 r9.2.2.1 r9.2.2.2.1 r9.2.2.2.2.1).bind fun r13 =>
              (m25 [] r13.2.1.2.2.2.1 r13.2.1.2.2.2.2.1 r13.2.1.2.2.2.2.2.1 r13.2.1.2.2.2.2.2.2.1 r13.2.2.1 r13.2.2.2.2.2.1 r13.2.2.2.2.2.2.1).bind fun r14 =>
              (m20 a1 0 16777216 r14.2.1.2.2.2.1 false r14.2.1.2.2.2.2.2.1 r14.2.1.2.2.2.2.2.2.1 r14.2.2.1 r14.2.2.2.2.2.1 r14.2.2.2.2.2.2.1).bind fun r15 =>
              asrt (((r1 && (r13.1.1 == 0)) && (r15.1.1.2.1 == 0)) == true) (bounds true (List.length r8.1.1.1) 0 (bif decide ((List.length r8.1.1.1 : Int) < a2) then (List.length r8.1.1.1 : Int) else a2)) (
                some (((r1 && (r13.1.1 == 0)) && (r15.1.1.2.1 == 0)) && (r15.1.1.1 == (subl r8.1.1.1 0 (bif decide ((List.length r8.1.1.1 : Int) < a2) then (List.length r8.1.1.1 : Int) else a2))))))) x.1 x.2.1 x.2.2.1 x.2.2.2.1 x.2.2.2.2.1 := by kernel_rfl
theorem q7 (x : tyL [(.sl G32), (.int .i64), (.int .i64), .str, (.int .i64)]) : execF E7 C7 Try.f7 (datL [(.sl G32), (.int .i64), (.int .i64), .str, (.int .i64)] x) [] (retK false .bool) = m7 x.1 x.2.1 x.2.2.1 x.2.2.2.1 x.2.2.2.2.1 := qv7 m8 x
theorem p7 : PmOk Try.prog e7 := pm_ok (E := E7) ok7 ord lm7 Try.func7 ca7 q7

end Go.Proofs.Ytondjihmmjjinaa
