/- Span: its code in pieces. -/
import Derived.Test.YtadinocaadlgmaaE40
import Derived.Test.YtadinocaadlgmaaM
namespace Go.Proofs.Ytadinocaadlgmaa
open Go Go.Eng
set_option linter.unusedVariables false
set_option linter.unusedSimpArgs false

def F9a : ShS := ⟨[(4, .box 0 [] 0), (11, .box 1 [] 0), (16, .box 2 [] 0), (17, .box 3 [] 0), (18, .box 4 [] 0)], [(.box (.dat G24)), (.box (.dat G47)), (.box (.dat G50)), (.box (.dat (.int .i64))), (.box (.dat (.int .i64)))]⟩
def F9t : ShS := ⟨[(4, .box 0 [] 0), (11, .box 1 [] 0), (16, .box 2 [] 0), (17, .box 3 [] 0), (18, .box 4 [] 0), (55, .fn 44 (.scons (.box 5 [] 0) .snil))], [(.box (.dat G24)), (.box (.dat G47)), (.box (.dat G50)), (.box (.dat (.int .i64))), (.box (.dat (.int .i64))), .box (.dat G24)]⟩
def F9b : ShS := ⟨[(4, .box 0 [] 0), (11, .box 1 [] 0), (16, .box 2 [] 0), (17, .box 3 [] 0), (18, .box 4 [] 0), (19, .dat (.sl (.int .i64)))], [(.box (.dat G24)), (.box (.dat G47)), (.box (.dat G50)), (.box (.dat (.int .i64))), (.box (.dat (.int .i64))), .box (.dat G24), .arr (.int .i64)]⟩
def F9c : ShS := ⟨[], [(.box (.dat G24)), (.box (.dat G47)), (.box (.dat G50)), (.box (.dat (.int .i64))), (.box (.dat (.int .i64))), .box (.dat G24), .arr (.int .i64)]⟩
def F44 : ShS := ⟨[(0, .dat .opq), (1, .box 5 [] 0), (3, .own 6)], [(.box (.dat G24)), (.box (.dat G47)), (.box (.dat G50)), (.box (.dat (.int .i64))), (.box (.dat (.int .i64))), .box (.dat G24), .arr (.int .i64)]⟩
def F44a : ShS := ⟨[(0, .dat .opq), (1, .box 5 [] 0)], [(.box (.dat G24)), (.box (.dat G47)), (.box (.dat G50)), (.box (.dat (.int .i64))), (.box (.dat (.int .i64))), .box (.dat G24)]⟩
theorem ca23 : callable Try.prog 23 := ⟨Try.f23, Try.func23, by kernel_rfl, by kernel_rfl⟩
noncomputable def E9i23 : Env := mkEnv2 Try.prog [] []
theorem ok9i23 : EnvOk (E9i23) := mkEnv2_ok (by simp) (by simp)
noncomputable def C9i23 : Cfg := noCfg
theorem lm9i23 : ∀ c, Try.f23.body = some c → LmOk (E9i23) (C9i23) Try.f23.ntmps c := fun _ _ => noCfg_lm
noncomputable def c9i23 : CmE := inl E9i23 C9i23 23 Try.f23
theorem d9i23 : CmOk Try.prog c9i23 := inl_ok (E := E9i23) ok9i23 ord lm9i23 Try.func23 ca23

noncomputable def E9 : Env := mkEnv2 Try.prog [e13, e15, e17, e20, e21, e22, e24] [c9i23]
theorem ok9 : EnvOk (E9) := mkEnv2_ok (by simp only [List.mem_cons, List.not_mem_nil, or_false, forall_eq_or_imp, forall_eq]; exact ⟨p13, p15, p17, p20, p21, p22, p24⟩) (by simp only [List.mem_cons, List.not_mem_nil, or_false, forall_eq]; exact d9i23)
noncomputable def C9 : Cfg := noCfg
theorem lm9 : ∀ c, Try.f9.body = some c → LmOk (E9) (C9) Try.f9.ntmps c := fun _ _ => noCfg_lm
theorem ca44 : callable Try.prog 44 := ⟨Try.f44, Try.func44, by kernel_rfl, by kernel_rfl⟩
noncomputable def E44 : Env := mkEnv2 Try.prog [] [c39]
theorem ok44 : EnvOk (E44) := mkEnv2_ok (by simp) (by simp only [List.mem_cons, List.not_mem_nil, or_false, forall_eq]; exact d39)
/-- a round of a loop of consol/margin.choices$1 -/
noncomputable def s44_1 {R : Type} (o5 : T24) (kn : Int → (List Int) → Option R) (k1 : Int → (List Int) → Option R) (t4 : Int) (o6 : (List Int)) : Option R :=
  asrt ((decide (t4 ≥ 0)) == true) (decide (0 ≤ t4) && decide (t4 < (List.length o6 : Int))) (
    ((bif ((decide (t4 ≥ 0)) == true) then (o6)[(t4 : Int).toNat]? else some 0)).bind fun x11 =>
    (idxG ((decide (t4 ≥ 0)) == true) ([] : (List T37)) o5.1 t4).bind fun x12 =>
    bif ((decide (t4 ≥ 0)) && (x11 == (IntKind.i64.wrap ((List.length x12 : Int) - 1)))) then
      asrt true (decide (0 ≤ t4) && decide (t4 < (List.length o6 : Int))) (
        ((o6)[(t4 : Int).toNat]?).bind fun x13 =>
        kn (IntKind.i64.wrap (t4 - 1)) (List.set o6 (t4 : Int).toNat 0))
    else
      k1 t4 o6)
noncomputable def l44_1 {R : Type} (o5 : T24) (k1 : Int → (List Int) → Option R) : Nat → Int → (List Int) → Option R
  | 0, _, _ => none
  | n + 1, t4, o6 => s44_1 o5 (l44_1 o5 k1 n) k1 t4 o6
noncomputable def L44_1 : LE := ⟨4, 7, ⟨[(0, (.dat .opq)), (1, (.box 5 [] 0)), (3, (.own 6)), (4, (.dat (.int .i64)))], [(.box (.dat G24)), (.box (.dat G47)), (.box (.dat G50)), (.box (.dat (.int .i64))), (.box (.dat (.int .i64))), (.box (.dat G24)), (.arr (.int .i64))]⟩, fun R n x k => l44_1 x.2.2.2.2.2.2.1 (fun y0 y1 => k (.exit 2) ⟨[(0, (.dat .opq x.1.1)), (1, (.box 5 [] 0)), (3, (.own 6)), (4, (.dat (.int .i64) y0))], [(.box (.dat G24 x.2.1)), (.box (.dat G47 x.2.2.1)), (.box (.dat G50 x.2.2.2.1)), (.box (.dat (.int .i64) x.2.2.2.2.1)), (.box (.dat (.int .i64) x.2.2.2.2.2.1)), (.box (.dat G24 x.2.2.2.2.2.2.1)), (.arr (.int .i64) y1)]⟩) n x.1.2.2.2.1 x.2.2.2.2.2.2.2.1⟩
noncomputable def C44 : Cfg := mkCfg [(2, ⟨[0, 1, 3], [], []⟩), (4, ⟨[0, 1, 3, 4], [], []⟩)] [(2, (⟨[], [], []⟩, ⟨[], [], []⟩)), (4, (⟨[0, 1, 3, 4], [], []⟩, ⟨[], [], []⟩))] (([(1, L44_1)] : List (Nat × LE)).map (·.2))
theorem ek44_1 : EOk (E44) (C44) Try.f44.ntmps (bodyL Try.f44 1) (L44_1) := eok_of (e := L44_1) (fun R x Kn k => s44_1 x.2.2.2.2.2.2.1 (fun v0 v1 => Kn ((x.1.1, (), (), v0, ()), (x.2.1, x.2.2.1, x.2.2.2.1, x.2.2.2.2.1, x.2.2.2.2.2.1, x.2.2.2.2.2.2.1, v1, ()))) (fun y0 y1 => k (.exit 2) ⟨[(0, (.dat .opq x.1.1)), (1, (.box 5 [] 0)), (3, (.own 6)), (4, (.dat (.int .i64) y0))], [(.box (.dat G24 x.2.1)), (.box (.dat G47 x.2.2.1)), (.box (.dat G50 x.2.2.2.1)), (.box (.dat (.int .i64) x.2.2.2.2.1)), (.box (.dat (.int .i64) x.2.2.2.2.2.1)), (.box (.dat G24 x.2.2.2.2.2.2.1)), (.arr (.int .i64) y1)]⟩) x.1.2.2.2.1 x.2.2.2.2.2.2.2.1) (fun _ _ _ => rfl) (fun _ _ _ _ => rfl) (fun R x Kn k => by kernel_rfl)
theorem lm44 : ∀ c, Try.f44.body = some c → LmOk (E44) (C44) Try.f44.ntmps c := lmOk_of (ps := [(1, L44_1)]) (by kernel_rfl) (by kernel_rfl) ⟨ek44_1, trivial⟩
/-- in front of the range -/
noncomputable def pre9 (a0 : T24) (a1 a2 a3 : Int) : Option ((Int × Int × Int × Unit) ⊕ F9a.ty) :=
  (m13 a0).bind fun r3 =>
  (bif ((!r3) == false) then (m20 (a1, a2, a3, ()) a0) else some false).bind fun r4 =>
  bif ((!r3) || (!r4)) then
    some (.inl (0, 0, 1, ()))
  else
    (m21 a0).bind fun r5 =>
    bif (decide (r5 > 100000)) then
      some (.inl (0, 0, 6, ()))
    else
      (m15 a0).bind fun r6 =>
      bif (r6.2.2.2.1 != 0) then
        some (.inl (0, 0, r6.2.2.2.1, ()))
      else
        (m22 (a1, a2, a3, ()) a0 r6.1).bind fun r7 =>
        some (.inr (((), (), (), (), (), ()), (a0, (a1, a2, a3, ()), r7, 0, 1000000000000000, ())))
/-- a round -/
noncomputable def rnd9 {R : Type} (t : T24) (p : T47) (o : T50) (lo hi : Int) (c : List Int) (k : Int → Int → Option R) : Option R :=
  (m17 t c).bind fun r8 =>
  bif (!r8.2.1) then
    k lo hi
  else
    (m22 p t c).bind fun r9 =>
    (m24 o r9).bind fun r10 =>
    k (bif decide (r10.1 > lo) then r10.1 else lo) (bif decide (r10.2.1 < hi) then r10.2.1 else hi)
/-- what the iterator does between two rounds -/
noncomputable def nxt44 {R : Type} (t2 : T24) (c : List Int) (k : Bool → List Int → Option R) : Option R :=
  l44_1 t2 (fun y14 y15 =>
      bif (decide (y14 < 0)) then
        k true y15
      else
        asrt true (decide (0 ≤ y14) && decide (y14 < (List.length y15 : Int))) (
          ((y15)[(y14 : Int).toNat]?).bind fun x16 =>
          asrt true (decide (0 ≤ y14) && decide (y14 < (List.length y15 : Int))) (
            ((y15)[(y14 : Int).toNat]?).bind fun x17 =>
            k false (List.set y15 (y14 : Int).toNat (IntKind.i64.wrap (x16 + 1)))))) FUEL (IntKind.i64.wrap ((List.length c : Int) - 1)) c
noncomputable def ini44 {R : Type} (t2 : T24) (k : List Int → Option R) : Option R :=
  asrt true (decide (0 ≤ (List.length t2.1 : Int)) && decide ((List.length t2.1 : Int) ≤ (List.length t2.1 : Int)) && decide ((List.length t2.1 : Int) ≤ (LIM : Int))) (
    k (List.replicate ((List.length t2.1 : Int) : Int).toNat 0))
/-! ### The pieces of the code -/
def fstC : Code → Code
  | .seq a _ => a
  | c => c
def sndC : Code → Code
  | .seq _ b => b
  | c => c
def blkC : Code → Code
  | .block _ a => a
  | c => c
def lpC : Code → Code
  | .loop a => a
  | c => c
def rfA : Code → Code
  | .rangeFunc _ _ a _ => a
  | c => c
def rfB : Code → Code
  | .rangeFunc _ _ _ b => b
  | c => c
def regO : Code → Array Oper
  | .region _ ops _ => ops
  | _ => #[]

noncomputable def code9 : Code := Try.f9.body.getD .skip
theorem body9 : Try.f9.body = some code9 := by kernel_rfl
noncomputable def tail9 : Code := tailOf 12 code9
noncomputable def R11 : Code := fstC (fstC tail9)
noncomputable def RF9 : Code := blkC (sndC (fstC tail9))
noncomputable def AS9 : Code := rfA RF9
noncomputable def BD9 : Code := rfB RF9
noncomputable def ops17 : Array Oper := regO (fstC (sndC tail9))
theorem tail9_eq : tail9 = .seq (.seq R11 (.block 0 (.rangeFunc (.tmp 55) #[56] AS9 BD9))) (.seq (.region 17 ops17 true) .ret) := by kernel_rfl

noncomputable def code44 : Code := Try.f44.body.getD .skip
theorem body44 : Try.f44.body = some code44 := by kernel_rfl
noncomputable def R0 : Code := fstC code44
noncomputable def LB44 : Code := lpC (blkC (sndC code44))
noncomputable def IN44 : Code := blkC LB44
noncomputable def ops1 : Array Oper := regO (fstC (fstC IN44))
noncomputable def REST44 : Code := sndC IN44
theorem code44_eq : code44 = .seq R0 (.block 0 (.loop (.block 1 (.seq (.seq (.region 1 ops1 false) (.cond (.tmp 13) .ret .skip)) REST44)))) := by kernel_rfl

/-! ### What the engine says of the pieces -/
noncomputable def k9v : Option Ex → St → Option ((Int × Int × Int × Unit) ⊕ F9a.ty)
  | some e, s => (match e with
    | .exit _ => none
    | _ => (match resVs Try.prog s Try.f9.results.toList with
      | some vs => (match coeT s.heap (SV.ofL vs) (.cons (.int .i64) (.cons (.int .i64) (.cons (.int .i64) .nil))) with
        | some y => some (.inl y)
        | none => none)
      | none => none))
  | none, s => canonK (some ⟨[4, 11, 16, 17, 18], [], [(11, [], G47), (16, [], G50)]⟩) 0 s fun s => (match F9a.dec s with
    | some y => some (.inr y)
    | none => none)

theorem q9v (x : tyL [G24, .int .i64, .int .i64, .int .i64]) : execV E9 C9 Try.f9.ntmps 0 12 code9 ⟨initR (datL [G24, .int .i64, .int .i64, .int .i64] x) 0, []⟩ k9v = pre9 x.1 x.2.1 x.2.2.1 x.2.2.2.1 := by kernel_rfl

noncomputable def k9t : Ex → St → Option F9t.ty
  | .normal, s => canonK (some ⟨[4, 11, 16, 17, 18, 55], [], []⟩) 5 s F9t.dec
  | _, _ => none
theorem q9t (x : F9a.ty) : execC E9 C9 Try.f9.ntmps 5 R11 (F9a.enc x) k9t = some (((), (), (), (), (), ((), ()), ()), (x.2.1, x.2.2.1, x.2.2.2.1, x.2.2.2.2.1, x.2.2.2.2.2.1, x.2.1, ())) := by kernel_rfl

noncomputable def k9c : Ex → St → Option F9c.ty
  | .normal, s => canonK (some ⟨[], [], []⟩) 7 s F9c.dec
  | _, _ => none
theorem q9b (x : F9b.ty) : execC E9 C9 Try.f9.ntmps 7 BD9 (F9b.enc x) k9c = rnd9 x.2.1 x.2.2.1 x.2.2.2.1 x.2.2.2.2.1 x.2.2.2.2.2.1 x.1.2.2.2.2.2.1 (fun lo hi => some ((), (x.2.1, x.2.2.1, x.2.2.2.1, lo, hi, x.2.2.2.2.2.2.1, x.2.2.2.2.2.2.2.1, ()))) := by kernel_rfl

noncomputable def k44 : Ex → St → Option (Bool × F44.ty)
  | .normal, s => canonK (some ⟨[0, 1, 3], [], []⟩) 7 s fun s => (match F44.dec s with
    | some y => some (false, y)
    | none => none)
  | .ret, s => canonK (some ⟨[0, 1, 3], [], []⟩) 7 s fun s => (match F44.dec s with
    | some y => some (true, y)
    | none => none)
  | _, _ => none
theorem q44 (x : F44.ty) : execC E44 C44 Try.f44.ntmps 7 REST44 (F44.enc x) k44 = nxt44 x.2.2.2.2.2.2.1 x.2.2.2.2.2.2.2.1 (fun b c => some (b, (x.1.1, (), (), ()), (x.2.1, x.2.2.1, x.2.2.2.1, x.2.2.2.2.1, x.2.2.2.2.2.1, x.2.2.2.2.2.2.1, c, ()))) := by kernel_rfl

noncomputable def k44a : Ex → St → Option F44.ty
  | .normal, s => canonK (some ⟨[0, 1, 3], [], []⟩) 6 s F44.dec
  | _, _ => none
theorem q44a (x : F44a.ty) : execC E44 C44 Try.f44.ntmps 6 R0 (F44a.enc x) k44a = ini44 x.2.2.2.2.2.2.1 (fun c => some ((x.1.1, (), (), ()), (x.2.1, x.2.2.1, x.2.2.2.1, x.2.2.2.2.1, x.2.2.2.2.2.1, x.2.2.2.2.2.2.1, c, ()))) := by kernel_rfl

/-! ### The region that calls yield -/
def OB6 : List OG := [.box (.dat G24), .box (.dat G47), .box (.dat G50), .box (.dat (.int .i64)), .box (.dat (.int .i64)), .box (.dat G24)]
def F44y : ShS := ⟨[(0, .dat .opq), (1, .box 5 [] 0), (3, .own 6), (9, .dat .opq), (11, .dat (.sl (.int .i64)))], OB6 ++ [.arr (.int .i64)]⟩
def F44z : ShS := ⟨[(12, .dat .bool), (0, .dat .opq), (1, .box 5 [] 0), (3, .own 6)], OB6 ++ [.arr (.int .i64)]⟩
def F44w : ShS := ⟨[(0, .dat .opq), (1, .box 5 [] 0), (3, .own 6), (13, .dat .bool)], OB6 ++ [.arr (.int .i64)]⟩
noncomputable def ty1 (i : Nat) : TypeId := ((ops1[i]?).map (·.type)).getD 0
noncomputable def po1 (i : Nat) : String := ((ops1[i]?).map (·.pos)).getD ""
noncomputable def af1 (i : Nat) : Array Edge := ((ops1[i]?).map (·.after)).getD #[]
noncomputable def opY : Oper := ⟨some 12, .call ⟨.value (.tmp 9), #[.tmp 11], #[23]⟩, ty1 3, po1 3, af1 3, none⟩
noncomputable def opN : Oper := (ops1[4]?).getD opY
theorem ops1_eq : ops1.toList = ops1.toList.take 3 ++ ([opY] ++ [opN]) := by kernel_rfl
theorem ops1_dst : dstsOk Try.f44.ntmps (ops1.toList.take 3) = true ∧ dstsOk Try.f44.ntmps [opN] = true := ⟨by kernel_rfl, by kernel_rfl⟩
theorem ops1_def : (ops1.toList.take 3).all noDefO = true ∧ [opN].all noDefO = true := ⟨by kernel_rfl, by kernel_rfl⟩
noncomputable def k1y (base : List (Nat × SV)) : List Rc → List SO → Option F44y.ty := fun rs h => canonK (some ⟨[0, 1, 3, 9, 11], [], [(11, [], .sl (.int .i64))]⟩) 7 ⟨after rs base, h⟩ F44y.dec
theorem q1y (x : F44.ty) : runOps E44 ops1.toList (F44.enc x).regs (ops1.toList.take 3) [] (F44.enc x).heap (k1y (F44.enc x).regs) = (cloneM x.2.2.2.2.2.2.2.1).bind fun c => some ((x.1.1, (), (), x.1.1, c, ()), x.2) := by kernel_rfl
noncomputable def k1z (base : List (Nat × SV)) : List Rc → List SO → Option F44w.ty := fun rs h => canonK (some ⟨[0, 1, 3, 13], [], []⟩) 7 ⟨after rs base, h⟩ F44w.dec
theorem q1z (x : F44z.ty) : runOps E44 ops1.toList (F44z.enc x).regs [opN] [] (F44z.enc x).heap (k1z (F44z.enc x).regs) = some ((x.1.2.1, (), (), (!x.1.1), ()), x.2) := by kernel_rfl

/-! ### The round's assignment, and what is behind the range -/
def F9y : ShS := ⟨[(4, .box 0 [] 0), (11, .box 1 [] 0), (16, .box 2 [] 0), (17, .box 3 [] 0), (18, .box 4 [] 0), (56, .dat (.sl (.int .i64)))], OB6 ++ [.arr (.int .i64)]⟩
noncomputable def k9y : Ex → St → Option F9b.ty
  | .normal, s => canonK (some ⟨[4, 11, 16, 17, 18, 19], [], []⟩) 7 s F9b.dec
  | _, _ => none
theorem q9y (x : F9y.ty) : execC E9 C9 Try.f9.ntmps 7 AS9 (F9y.enc x) k9y = some x := by kernel_rfl
def F9s : ShS := ⟨[(4, .box 0 [] 0), (11, .box 1 [] 0), (16, .box 2 [] 0), (17, .box 3 [] 0), (18, .box 4 [] 0)], OB6 ++ [.arr (.int .i64)]⟩
def F9e : ShS := ⟨[(8, .dat (.int .i64)), (9, .dat (.int .i64)), (10, .dat (.int .i64))], OB6 ++ [.arr (.int .i64)]⟩
noncomputable def k9e : Ex → St → Option F9e.ty
  | .normal, s => canonK (some ⟨[8, 9, 10], [], []⟩) 7 s F9e.dec
  | _, _ => none
theorem q9e (x : F9s.ty) : execC E9 C9 Try.f9.ntmps 7 (.region 17 ops17 true) (F9s.enc x) k9e = some ((x.2.2.2.2.1, x.2.2.2.2.2.1, 0, ()), x.2) := by kernel_rfl
theorem ops17_simple : ops17.toList.all simpleO = true := by kernel_rfl
theorem nd9 : noDef AS9 = true ∧ noDef BD9 = true := ⟨by kernel_rfl, by kernel_rfl⟩
theorem res9 : Try.f9.results.toList = [.tmp 8, .tmp 9, .tmp 10] := by kernel_rfl
theorem res44 : Try.f44.results.toList = [] := by kernel_rfl
/-! ### Span: what its code does: the iterator. -/
def encH (t : T24) (p : T47) (o : T50) (lo hi : Int) (c : List Int) : List SO := [.box (.dat G24 t), .box (.dat G47 p), .box (.dat G50 o), .box (.dat (.int .i64) lo), .box (.dat (.int .i64) hi), .box (.dat G24 t), .arr (.int .i64) c]
def yV (L : Nat) : Value := .func (.yield L) #[] #[]
def reg44 (L : Nat) : List (Nat × SV) := [(0, .dat .opq (yV L)), (1, .box 5 [] 0), (3, .own 6)]

def YieldsAt (P : Program) (L : Nat) (args : Array Value) (W : World) (R : Ending → World → Prop) : Prop :=
  ∃ fn tmps assign body, (Instr.yield L args).run P W = .ok (.round L fn tmps assign body) W ∧ RoundIn Fence.wide 0 P L fn tmps assign body W R

/-- A round does what the model says, whatever the iterator's own list is. -/
def YOk (B1 : Base) (X1 : HS) (L : Nat) (t : T24) (p : T47) (o : T50) : Prop :=
  ∀ (c0 c : List Int) (lo hi lo' hi' : Int) (X : HS) (v : Value), rnd9 t p o lo hi c (fun a b => some (a, b)) = some (lo', hi') → ExtN 6 X1 X → HRep B1 X (encH t p o lo hi c0) → Rep X (.dat (.sl (.int .i64)) c) .val [v] →
    YieldsAt Try.prog L #[v] X.w (fun e W' => e = .returned (.bool true) ∧ ∃ X', X'.w = W' ∧ Ext X X' ∧ HRep B1 X' (encH t p o lo' hi' c0))

theorem getD_put (a : Act) (d : Nat) (v : Value) (t : Nat) : (a.put (some d) v).tmps.getD t undef = if t = d ∧ d < a.tmps.size then v else a.tmps.getD t undef := by
  simp only [Act.put, Array.getD_eq_getD_getElem?, Array.getElem?_setIfInBounds]
  by_cases h : d = t
  · subst h
    by_cases h2 : d < a.tmps.size
    · simp [h2]
    · simp [h2, Array.getElem?_eq_none (Nat.le_of_not_lt h2)]
  · simp [h, Ne.symm h]

theorem RegsC_put {X Y : HS} {a : Act} {regs : List (Nat × SV)} (h : RegsC X a regs) (hx : Ext X Y) {d : Nat} {u : SV} {v : Value} (hd : d < a.tmps.size) (hv : Rep Y u .val [v]) : RegsC Y (a.put (some d) v) ((d, u) :: regs) := by
  intro t w hl
  simp only [lk] at hl
  rw [getD_put]
  cases hb : Nat.beq d t with
  | true =>
    have := Nat.eq_of_beq_eq_true hb
    subst this
    rw [hb] at hl
    cases hl
    rw [if_pos ⟨rfl, hd⟩]
    exact hv
  | false =>
    rw [hb] at hl
    rw [if_neg (fun e => by rw [e.1] at hb; simp at hb)]
    exact Rep_mono hx _ _ _ (h t w hl)

theorem put_size (a : Act) (d : Option Tmp) (v : Value) : (a.put d v).tmps.size = a.tmps.size := by cases d <;> simp [Act.put]
theorem put_defers (a : Act) (d : Option Tmp) (v : Value) : (a.put d v).defers = a.defers := by cases d <;> rfl

theorem rep_opq {X : HS} {v x : Value} (h : Rep X (.dat .opq v) .val [x]) : x = v := by
  obtain ⟨cs, ⟨rfl, _⟩, e⟩ := h
  have := List.cons.inj e
  exact this.1

theorem notLet_then {K : Act → World → Prop} {Q : Exit → Act → World → Prop} (h : ¬ LetsOut Q) : ¬ LetsOut (Exit.then K Q) := fun ⟨a, w, q⟩ => h ⟨a, w, q⟩

/-- The region that calls yield. -/
theorem reg1 {B1 : Base} {X1 : HS} {L : Nat} {t : T24} {p : T47} {o : T50} (hy : YOk B1 X1 L t p o) {c : List Int} {lo hi lo' hi' : Int} (hr : rnd9 t p o lo hi c (fun a b => some (a, b)) = some (lo', hi')) (hl : c.length ≤ 4294967296)
    {X : HS} {a : Act} {Q : Exit → Act → World → Prop} (hQ : ¬ LetsOut Q) (hx : ExtN 6 X1 X) (hs : StOk B1 Try.f44.ntmps X ⟨reg44 L, encH t p o lo hi c⟩ a)
    (hq : ∀ a' X', StOk B1 Try.f44.ntmps X' ⟨reg44 L ++ [(13, .dat .bool false)], encH t p o lo' hi' c⟩ a' → ExtN 6 X X' → Q .normal a' X'.w) :
    (Code.region 1 ops1 false).wpIn Fence.wide 0 Try.prog Q a X.w := by
  have key : wpListIn (FR none) 0 Try.prog ops1 Q (ops1.toList.take 3 ++ ([opY] ++ [opN])) a X.w := by
    apply wpListIn_app
    have h1 : runOps E44 ops1.toList (reg44 L) (ops1.toList.take 3) [] (encH t p o lo hi c) (k1y (reg44 L)) = some ((yV L, (), (), yV L, c, ()), (t, p, o, lo, hi, t, c, ())) :=
      (q1y ((yV L, (), (), ()), (t, p, o, lo, hi, t, c, ()))).trans (by rw [show cloneM _ = some c from cloneM_eq hl]; rfl)
    refine wpList_in none 0 (notLet_then hQ) _ a X.w ops1_def.1 ?_
    have h2 := runOps_sound (E := E44) ok44 (ops := ops1.toList) (base := reg44 L) (B := B1) (k := k1y (reg44 L)) (Q := Exit.then (wpListIn (FR none) 0 Try.prog ops1 Q ([opY] ++ [opN])) Q) (ops1.toList.take 3) [] (encH t p o lo hi c) a X hs.regs.ok hs.heap
      (by intro t g v h; simp [lkR] at h) List.Pairwise.nil (dstsOk_todo ops1_dst.1 hs.size) hs.defers h1 ?_
    · rw [Array.toArray_toList] at h2
      exact h2
    · intro rs' h' a' X' hP hR H hsz hdf hx' hk'
      have S : StOk B1 Try.f44.ntmps X' ⟨after rs' (reg44 L), h'⟩ a' := ⟨RegsC.after hP hR, H, hsz.trans hs.size, hdf⟩
      obtain ⟨s1, X2, e1, S1, x1, hd⟩ := canonK_sound S hk'
      have hd := F44y.dec_enc _ _ hd
      subst hd
      have t9 : a'.tmps.getD 9 undef = yV L := rep_opq (S1.regs 9 _ rfl)
      have r11 : Rep X2 (.dat (.sl (.int .i64)) c) .val [a'.tmps.getD 11 undef] := S1.regs 11 _ rfl
      have hx2 : ExtN 6 X X2 := (ExtN.of hx').trans ⟨fun i v hi e => x1.ρ i v (by omega) e, x1.ok, x1.st⟩
      obtain ⟨fn, tm, asg, bd, hrun, hround⟩ := hy c c lo hi lo' hi' X2 _ hr (hx.trans hx2) S1.heap r11
      rw [← e1]
      show wpListIn (FR none) 0 Try.prog ops1 Q (opY :: [opN]) a' X2.w
      unfold wpListIn
      rw [if_pos (by rfl)]
      refine ⟨fun _ _ => trivial, ?_⟩
      have hev : (opY.semAt none a'.eval).run Try.prog X2.w = .ok (.round L fn tm asg bd) X2.w := by
        rw [Oper.semAt_none]
        have e9 : a'.eval (.tmp 9) = yV L := t9
        unfold execOp
        simp only [opY, resolve, e9, yV, Deferred.ofValue]
        simp only [Sem.run_bind, Sem.run_pure, Result.andThen_ok, invoke]
        have ea : (#[] ++ Array.map a'.eval #[Operand.tmp 11] : Array Value) = #[a'.tmps.getD 11 undef] := by
          rw [show Array.map a'.eval #[Operand.tmp 11] = #[a'.eval (Operand.tmp 11)] by simp, Array.empty_append]
          rfl
        rw [ea]
        exact hrun
      rw [show (FR none).round = none from rfl, hev]
      refine ⟨fun h => by simp [FR, Fence.wide] at h, hround.mono ?_⟩
      rintro e W' ⟨rfl, X3, rfl, hx3, H3⟩
      have hsz3 : (a'.put (some 12) (.bool true)).tmps.size = Try.f44.ntmps := (put_size _ _ _).trans S1.size
      have S3 : StOk B1 Try.f44.ntmps X3 ⟨(12, .dat .bool true) :: reg44 L, encH t p o lo' hi' c⟩ (a'.put (some 12) (.bool true)) := by
        refine ⟨RegsC_put (regs := reg44 L) ?_ hx3 (by rw [S1.size]; decide +kernel) ⟨[.bool true], rfl, rfl⟩, H3, hsz3, (put_defers _ _ _).trans S1.defers⟩
        intro u v hl
        refine S1.regs u v ?_
        simp only [reg44, lk] at hl
        show lk (reg44 L ++ [(9, .dat .opq (yV L)), (11, .dat (.sl (.int .i64)) c)]) u = some v
        simp only [reg44, List.cons_append, List.nil_append, lk]
        cases h0 : Nat.beq 0 u <;> cases h1 : Nat.beq 1 u <;> cases h3 : Nat.beq 3 u <;> rw [h0, h1, h3] at hl <;> simp only [cond_true, cond_false] at hl ⊢ <;> first | exact hl | cases hl
      have h5 : runOps E44 ops1.toList ((12, .dat .bool true) :: reg44 L) [opN] [] (encH t p o lo' hi' c) (k1z ((12, .dat .bool true) :: reg44 L)) = some ((yV L, (), (), false, ()), (t, p, o, lo', hi', t, c, ())) :=
        q1z ((true, yV L, (), (), ()), (t, p, o, lo', hi', t, c, ()))
      refine wpList_in none 0 hQ _ _ _ ops1_def.2 ?_
      have h6 := runOps_sound (E := E44) ok44 (ops := ops1.toList) (base := (12, .dat .bool true) :: reg44 L) (B := B1) (k := k1z ((12, .dat .bool true) :: reg44 L)) (Q := Q) [opN] [] (encH t p o lo' hi' c) _ X3 S3.regs.ok S3.heap
        (by intro t g v h; simp [lkR] at h) List.Pairwise.nil (dstsOk_todo ops1_dst.2 S3.size) S3.defers h5 ?_
      · rw [Array.toArray_toList] at h6
        exact h6
      · intro rs4 h4 a4 X4 hP4 hR4 H4 hsz4 hdf4 hx4 hk4
        have S4 : StOk B1 Try.f44.ntmps X4 ⟨after rs4 ((12, .dat .bool true) :: reg44 L), h4⟩ a4 := ⟨RegsC.after hP4 hR4, H4, hsz4.trans S3.size, hdf4⟩
        obtain ⟨s5, X5, e5, S5, x5, hd5⟩ := canonK_sound S4 hk4
        have hd5 := F44w.dec_enc _ _ hd5
        subst hd5
        rw [← e5]
        exact hq a4 X5 S5 (hx2.trans ((ExtN.of (hx3.trans hx4)).trans ⟨fun i v hi e => x5.ρ i v (by omega) e, x5.ok, x5.st⟩))
  exact wpIn_region_list (by rw [ops1_eq]; exact key)

/-! ### The models, one step after the other -/
theorem l44_nat (t2 : T24) {R S : Type} (f : S → Option R) (k1 : Int → List Int → Option S) : ∀ (n : Nat) (i : Int) (c : List Int), l44_1 t2 (fun i c => (k1 i c).bind f) n i c = (l44_1 t2 k1 n i c).bind f
  | 0, _, _ => rfl
  | n + 1, i, c => by
    have ih := fun i c => l44_nat t2 f k1 n i c
    simp only [l44_1, s44_1, asrt_bind, Option.bind_assoc, cond_bind_both, ih]
theorem nxt_nat (t2 : T24) (c : List Int) {R S : Type} (f : S → Option R) (k : Bool → List Int → Option S) : nxt44 t2 c (fun b c => (k b c).bind f) = (nxt44 t2 c k).bind f := by
  unfold nxt44
  rw [← l44_nat]
  congr 1
  funext i c
  simp only [asrt_bind, Option.bind_assoc, cond_bind_both]
theorem rnd_nat (t : T24) (p : T47) (o : T50) (lo hi : Int) (c : List Int) {R S : Type} (f : S → Option R) (k : Int → Int → Option S) : rnd9 t p o lo hi c (fun a b => (k a b).bind f) = (rnd9 t p o lo hi c k).bind f := by
  unfold rnd9
  simp only [Option.bind_assoc, cond_bind_both]

/-- All rounds from a choice on. -/
noncomputable def itN (t : T24) (p : T47) (o : T50) : Nat → List Int → Int → Int → Option (Int × Int)
  | 0, _, _, _ => none
  | n + 1, c, lo, hi => (cloneM c).bind fun _ => (rnd9 t p o lo hi c fun a b => some (a, b)).bind fun q => (nxt44 t c fun b c' => some (b, c')).bind fun r => bif r.1 then some q else itN t p o n r.2 q.1 q.2

theorem cloneM_len {α : Type} {c c' : List α} (h : cloneM c = some c') : c.length ≤ 4294967296 := by
  by_cases hl : c.length ≤ 4294967296
  · exact hl
  · exfalso
    unfold cloneM at h
    have : decide (c.length ≤ LIM) = false := decide_eq_false (by unfold LIM; exact hl)
    rw [this] at h
    cases h

noncomputable def LBODY : Code := .block 1 (.seq (.seq (.region 1 ops1 false) (.cond (.tmp 13) .ret .skip)) REST44)

theorem lmREST : LmOk E44 C44 Try.f44.ntmps REST44 := fun b hb => lm44 _ body44 b (by rw [code44_eq]; simp [loops, hb])

theorem loop44 {B1 : Base} {X1 : HS} {L : Nat} {t : T24} {p : T47} {o : T50} (hy : YOk B1 X1 L t p o) {Q : Exit → Act → World → Prop} (hQ : ¬ LetsOut Q) {q : Int × Int}
    (hq : ∀ X' a' c', StOk B1 Try.f44.ntmps X' ⟨reg44 L, encH t p o q.1 q.2 c'⟩ a' → ExtN 6 X1 X' → Q .ret a' X'.w) :
    ∀ (n : Nat) (c : List Int) (lo hi : Int) (X : HS) (a : Act), ExtN 6 X1 X → StOk B1 Try.f44.ntmps X ⟨reg44 L, encH t p o lo hi c⟩ a → itN t p o n c lo hi = some q → InLoop Try.prog LBODY Q a X.w
  | 0, c, lo, hi, X, a, _, _, h => by cases h
  | n + 1, c, lo, hi, X, a, hx, hs, h => by
    simp only [itN] at h
    obtain ⟨c1, hc1, h⟩ := Option.bind_eq_some_iff.1 h
    obtain ⟨q1, hr, h⟩ := Option.bind_eq_some_iff.1 h
    obtain ⟨r, hn, h⟩ := Option.bind_eq_some_iff.1 h
    have hQ' : ¬ LetsOut (Exit.inBlock 1 (Exit.then (InLoop Try.prog LBODY Q) Q)) := fun ⟨a, w, q⟩ => hQ ⟨a, w, q⟩
    refine in_round ((wpIn_wide (n := 0)).1 ?_)
    refine wpIn_block ?_
    refine wpIn_seq ?_
    refine wpIn_seq ?_
    refine reg1 hy hr (cloneM_len hc1) (notLet_then (notLet_then hQ')) hx hs (fun a1 Xr S1 x1 => ?_)
    refine wpIn_cond (t := false) (getB_eval S1.regs rfl) ?_
    refine wpIn_skip ?_
    refine (wpIn_wide (n := 0)).2 ?_
    have S2 : StOk B1 Try.f44.ntmps Xr ⟨reg44 L, encH t p o q1.1 q1.2 c⟩ a1 := ⟨fun u v hl => S1.regs u v (by
      rw [lk_app, hl]), S1.heap, S1.size, S1.defers⟩
    have hk : execC E44 C44 Try.f44.ntmps 7 REST44 ⟨reg44 L, encH t p o q1.1 q1.2 c⟩ k44 = some (r.1, (yV L, (), (), ()), (t, p, o, q1.1, q1.2, t, r.2, ())) := by
      refine (q44 ((yV L, (), (), ()), (t, p, o, q1.1, q1.2, t, c, ()))).trans ?_
      have e := nxt_nat t c (fun r : Bool × List Int => some ((r.1, (yV L, (), (), ()), (t, p, o, q1.1, q1.2, t, r.2, ())) : Bool × F44.ty)) (fun b c' => some (b, c'))
      rw [hn] at e
      exact e
    refine execC_sound (E := E44) ok44 ord (B := B1) REST44 k44 _ a1 Xr _ lmREST S2 hk ?_
    intro e s' a' X' S' x' hk'
    cases e with
    | normal =>
      simp only [k44] at hk'
      obtain ⟨s1, X2, e1, S3, x3, hd⟩ := canonK_sound S' hk'
      have hxx : ExtN 6 X1 X2 := hx.trans (x1.trans (ExtN.trans ⟨fun i v hi e => x'.ρ i v (by omega) e, x'.ok, x'.st⟩ ⟨fun i v hi e => x3.ρ i v (by omega) e, x3.ok, x3.st⟩))
      split at hd
      · rename_i y hy2
        have hy3 := F44.dec_enc _ _ hy2
        subst hy3
        obtain ⟨hb, rfl⟩ := Prod.mk.inj (Option.some.inj hd)
        rw [← hb] at h
        show InLoop Try.prog LBODY Q a' X'.w
        rw [← e1]
        exact loop44 hy hQ hq n r.2 q1.1 q1.2 X2 a' hxx S3 h
      · cases hd
    | ret =>
      simp only [k44] at hk'
      obtain ⟨s1, X2, e1, S3, x3, hd⟩ := canonK_sound S' hk'
      have hxx : ExtN 6 X1 X2 := hx.trans (x1.trans (ExtN.trans ⟨fun i v hi e => x'.ρ i v (by omega) e, x'.ok, x'.st⟩ ⟨fun i v hi e => x3.ρ i v (by omega) e, x3.ok, x3.st⟩))
      split at hd
      · rename_i y hy2
        have hy3 := F44.dec_enc _ _ hy2
        subst hy3
        obtain ⟨hb, rfl⟩ := Prod.mk.inj (Option.some.inj hd)
        rw [← hb] at h
        obtain rfl := Option.some.inj h
        show Q .ret a' X'.w
        rw [← e1]
        exact hq X2 a' r.2 S3 hxx
      · cases hd
    | exit id => simp [k44] at hk'

/-! ### Span: what its code does: the iterator's call, a round, the whole. -/
/-- A function is entered. -/
theorem enter_ok {B : Base} {X : HS} {h : List SO} (H : HRep B X h) {args : List SV} {vals : List Value} (ha : RepL X args vals) {N : Nat} (hle : args.length ≤ N) :
    StOk B N X ⟨initR args 0, h⟩ { tmps := vals.toArray ++ Array.replicate (N - vals.toArray.size) undef, defers := [] } := by
  have hlen := RepL_len ha
  refine ⟨?_, H, by simp; omega, rfl⟩
  intro t v hl
  obtain ⟨i, h1, h2⟩ := initR_lk args 0 hl
  obtain ⟨x, h3, h4⟩ := RepL_at ha h2
  rw [Nat.zero_add] at h1
  subst h1
  have : (vals.toArray ++ Array.replicate (N - vals.toArray.size) undef).getD t undef = x := by
    have ht : t < vals.length := (List.getElem?_eq_some_iff.1 h3).1
    rw [Array.getD_eq_getD_getElem?, Array.getElem?_append_left (by simpa using ht)]
    simp [h3]
  simp only at this ⊢
  rw [this]
  exact h4

def enc6 (t : T24) (p : T47) (o : T50) (lo hi : Int) : List SO := [.box (.dat G24 t), .box (.dat G47 p), .box (.dat G50 o), .box (.dat (.int .i64) lo), .box (.dat (.int .i64) hi), .box (.dat G24 t)]

theorem ini_nat (t2 : T24) {R S : Type} (f : S → Option R) (k : List Int → Option S) : ini44 t2 (fun c => (k c).bind f) = (ini44 t2 k).bind f := by
  unfold ini44
  rw [asrt_bind]

/-- The iterator's call. -/
theorem iter44 {B1 : Base} {X1 : HS} {L : Nat} {t : T24} {p : T47} {o : T50} (hy : YOk B1 X1 L t p o) {lo hi : Int} {q : Int × Int} (H : HRep B1 X1 (enc6 t p o lo hi)) {v5 : Value} (h5 : Rep X1 (.box 5 [] 0) .val [v5])
    (hm : (ini44 t some).bind (fun c => itN t p o FUEL c lo hi) = some q) :
    Calls Try.prog 44 #[yV L, v5] X1.w (fun e W' => (∃ v, e = .returned v) ∧ ∃ X' c', X'.w = W' ∧ Ext X1 X' ∧ HRep B1 X' (encH t p o q.1 q.2 c')) := by
  have hext : ∀ X', ExtN 6 X1 X' → Ext X1 X' := fun X' h => ExtN.all (by rw [H.len]; exact h)
  obtain ⟨c0, hc0, hm⟩ := Option.bind_eq_some_iff.1 hm
  have S0 := enter_ok H (args := [.dat .opq (yV L), .box 5 [] 0]) (vals := [yV L, v5]) ⟨⟨[yV L], ⟨rfl, rfl⟩, rfl⟩, h5, trivial⟩ (N := Try.f44.ntmps) (show 2 ≤ Try.f44.ntmps by decide +kernel)
  refine calls_of_wp Try.func44 body44 ?_
  rw [code44_eq]
  refine wp_seq ?_
  have hk : execC E44 C44 Try.f44.ntmps 6 R0 ⟨[(0, .dat .opq (yV L)), (1, .box 5 [] 0)], enc6 t p o lo hi⟩ k44a = some ((yV L, (), (), ()), (t, p, o, lo, hi, t, c0, ())) := by
    refine (q44a ((yV L, (), ()), (t, p, o, lo, hi, t, ()))).trans ?_
    have e := ini_nat t (fun c : List Int => some (((yV L, (), (), ()), (t, p, o, lo, hi, t, c, ())) : F44.ty)) some
    rw [hc0] at e
    exact e
  have hl0 : LmOk E44 C44 Try.f44.ntmps R0 := fun b hb => lm44 _ body44 b (by rw [code44_eq]; simp [loops, hb])
  refine execC_sound (E := E44) ok44 ord (B := B1) R0 k44a _ _ X1 _ hl0 S0 hk ?_
  intro e s' a' X' S' x' hk'
  cases e with
  | normal =>
    simp only [k44a] at hk'
    obtain ⟨s1, X2, e1, S3, x3, hd⟩ := canonK_sound S' hk'
    have hd := F44.dec_enc _ _ hd
    subst hd
    show (Code.block 0 (.loop LBODY)).wp Try.prog _ a' X'.w
    rw [← e1]
    refine wp_block (loop_of_in (loop44 hy ?_ ?_ FUEL c0 lo hi X2 a' (x'.trans x3) S3 hm))
    · rintro ⟨a0, w0, ⟨⟨v, h⟩, _⟩⟩
      cases h
    · intro X5 a5 c5 S5 x5
      refine ⟨S5.defers, ?_⟩
      refine ⟨_, results_run (val := fun _ => undef) (fun rv hrv => by rw [res44] at hrv; cases hrv), ⟨_, rfl⟩, X5, c5, rfl, hext _ x5, S5.heap⟩
  | ret => simp [k44a] at hk'
  | exit id => simp [k44a] at hk'

/-! ### A round -/

/-- The record of a loop. -/
def recL (fn : FuncId) (tmps : Array Value) (asg bd : Code) (D : Nat) : Loop := { state := .ready, pending := none, fn, tmps, params := #[56], assign := asg, body := bd, defers := D }

def reg9 : List (Nat × SV) := [(4, .box 0 [] 0), (11, .box 1 [] 0), (16, .box 2 [] 0), (17, .box 3 [] 0), (18, .box 4 [] 0)]

/-- What is no object's block. -/
def Aside (B1 : Base) (L : Nat) (o : Obj) : Prop := B1.w.heap[L]? = some o ∧ ¬ B1.own L ∧ ¬ B1.Ok L

theorem Aside.ok {B1 : Base} {L : Nat} {o : Obj} (h : Aside B1 L o) {X : HS} {hp : List SO} (H : HRep B1 X hp) : ¬ X.Ok L := fun q => by
  have hlt : L < B1.w.heap.size := (Array.getElem?_eq_some_iff.1 h.1).1
  rcases H.okNew L q with q | q | q
  · exact h.2.2 q
  · omega
  · exact h.2.1 q
theorem Aside.no {B1 : Base} {L : Nat} {o : Obj} (h : Aside B1 L o) {X : HS} {hp : List SO} (H : HRep B1 X hp) : ∀ n ob, nth hp n = some ob → ob.live = true → blkOf X n ≠ some L := fun n ob h1 h2 h3 => by
  have hlt : L < B1.w.heap.size := (Array.getElem?_eq_some_iff.1 h.1).1
  rcases H.ownNew n ob L h1 h2 h3 with q | q
  · exact h.2.1 q
  · omega
theorem Aside.at' {B1 : Base} {L : Nat} {o : Obj} (h : Aside B1 L o) {X : HS} {hp : List SO} (H : HRep B1 X hp) : X.w.heap[L]? = some o :=
  (H.fr L (Array.getElem?_eq_some_iff.1 h.1).1 h.2.1).trans h.1

/-- Something is turned that is no object: the heap as a base of its own. -/
theorem turn_mask {B : Base} {X : HS} {hp : List SO} (H : HRep B X hp) {L : Nat} {o2 : Obj} (hok : ¬ X.Ok L) (hno : ∀ n o, nth hp n = some o → o.live = true → blkOf X n ≠ some L) :
    HRep (maskB ⟨X.ρ, X.Ok, X.w.putObj L o2⟩ hp) ⟨X.ρ, X.Ok, X.w.putObj L o2⟩ hp ∧ Ext X ⟨X.ρ, X.Ok, X.w.putObj L o2⟩ := by
  have E : Ext X ⟨X.ρ, X.Ok, X.w.putObj L o2⟩ := ⟨fun _ _ e => e, fun _ e => e, fun b hb => World.putObj_heap_other (fun e => hok (e ▸ hb))⟩
  refine ⟨{
    len := H.len
    obj := fun n o hn => RepO_mono E (fun b hl hb => World.putObj_heap_other (fun e => hno n o hn hl (e ▸ hb))) (H.obj n o hn)
    inj := H.inj
    sep := H.sep
    okLt := fun b hb => by rw [size_putObj]; exact H.okLt b hb
    ownNew := fun n o b hn hl hb => .inl ⟨n, o, hn, hl, hb⟩
    okOld := fun b hb => hb
    okNew := fun b hb => .inl hb
    os := rfl
    tape := rfl
    out := rfl
    size := Nat.le_refl _
    fr := fun b _ _ => rfl }, E⟩

theorem yok9 {B1 : Base} {X1 : HS} {L D : Nat} {fn : FuncId} {tmps : Array Value} {t : T24} {p : T47} {o : T50} (hA : Aside B1 L (.loop (recL fn tmps AS9 BD9 D))) (hsz : tmps.size = Try.f9.ntmps)
    (hr1 : ∀ i v, lk reg9 i = some v → Rep X1 v .val [tmps.getD i undef]) (hlen : X1.ρ.length = 6) : YOk B1 X1 L t p o := by
  intro c0 c lo hi lo' hi' X v hrnd hx H hv
  have hN : Try.f9.ntmps = 82 := by decide +kernel
  refine ⟨fn, tmps.setIfInBounds 56 v, AS9, BD9, ?_, ?_⟩
  · have := run_yield (P := Try.prog) (args := #[v]) (hA.at' H) rfl
    simpa [recL] using this
  refine roundIn_of_wpIn trivial ?_
  -- the round's first state
  have hrep : ∀ i w, lk reg9 i = some w → Rep X w .val [tmps.getD i undef] := fun i w hl => by
    have hx' : Ext X1 X := ExtN.all (by rw [hlen]; exact hx)
    exact Rep_mono hx' _ _ _ (hr1 i w hl)
  have hget : ∀ i, (tmps.setIfInBounds 56 v).getD i undef = if i = 56 then v else tmps.getD i undef := fun i => by
    have := getD_put { tmps := tmps, defers := [] } 56 v i
    simp only [Act.put] at this
    rw [this]
    by_cases e : i = 56
    · rw [if_pos ⟨e, by rw [hsz, hN]; omega⟩, if_pos e]
    · rw [if_neg (fun h => e h.1), if_neg e]
  have S0 : StOk B1 Try.f9.ntmps X ⟨reg9 ++ [(56, .dat (.sl (.int .i64)) c)], encH t p o lo hi c0⟩ { tmps := tmps.setIfInBounds 56 v, defers := [] } := by
    refine ⟨?_, H, by simp [hsz], rfl⟩
    intro i w hl
    rw [hget]
    by_cases e : i = 56
    · subst e
      rw [if_pos rfl]
      have : w = .dat (.sl (.int .i64)) c := by
        have h2 : lk (reg9 ++ [(56, .dat (.sl (.int .i64)) c)]) 56 = some (.dat (.sl (.int .i64)) c) := rfl
        rw [h2] at hl
        exact (Option.some.inj hl).symm
      rw [this]
      exact hv
    · rw [if_neg e]
      refine hrep i w ?_
      rw [lk_app] at hl
      cases h3 : lk reg9 i with
      | some u => rw [h3] at hl; exact hl
      | none =>
        rw [h3] at hl
        simp only [lk] at hl
        have : Nat.beq 56 i = false := by rw [Bool.eq_false_iff]; intro h; exact e (Nat.eq_of_beq_eq_true h).symm
        rw [this] at hl
        cases hl
  have h1 : execC E9 C9 Try.f9.ntmps 7 AS9 ⟨reg9 ++ [(56, .dat (.sl (.int .i64)) c)], encH t p o lo hi c0⟩ k9y = some (((), (), (), (), (), c, ()), (t, p, o, lo, hi, t, c0, ())) :=
    q9y (((), (), (), (), (), c, ()), (t, p, o, lo, hi, t, c0, ()))
  refine execC_soundIn (E := E9) ok9 ord (B := B1) (some L) 0 AS9 k9y _ _ X _ nd9.1 ?_ S0 h1 ?_
  · rintro ⟨a0, w0, h⟩
    exact h
  intro e s' a' X' S' x' hk'
  cases e with
  | ret => simp [k9y] at hk'
  | exit id => simp [k9y] at hk'
  | normal =>
  simp only [k9y] at hk'
  obtain ⟨s1, X2, e1, S1, x1, hd⟩ := canonK_sound S' hk'
  have hd := F9b.dec_enc _ _ hd
  subst hd
  have S1 : StOk B1 Try.f9.ntmps X2 ⟨reg9 ++ [(19, .dat (.sl (.int .i64)) c)], encH t p o lo hi c0⟩ a' := S1
  have hx2 : Ext X X2 := ExtN.all (by rw [H.len]; exact x'.trans x1)
  have hL2 := hA.at' S1.heap
  have hok2 := hA.ok S1.heap
  have hno2 := hA.no S1.heap
  show ∃ w₂, _ ∧ _
  rw [← e1]
  refine ⟨_, run_beginRound hL2 rfl, ?_⟩
  obtain ⟨H3, x3⟩ := turn_mask (o2 := .loop { recL fn tmps AS9 BD9 D with state := .busy }) S1.heap hok2 hno2
  have S3 : StOk _ Try.f9.ntmps ⟨X2.ρ, X2.Ok, X2.w.putObj L (.loop { recL fn tmps AS9 BD9 D with state := .busy })⟩ ⟨reg9 ++ [(19, .dat (.sl (.int .i64)) c)], encH t p o lo hi c0⟩ a' :=
    ⟨fun i w hl => Rep_mono x3 _ _ _ (S1.regs i w hl), H3, S1.size, S1.defers⟩
  have h3 : execC E9 C9 Try.f9.ntmps 7 BD9 ⟨reg9 ++ [(19, .dat (.sl (.int .i64)) c)], encH t p o lo hi c0⟩ k9c = some ((), (t, p, o, lo', hi', t, c0, ())) := by
    refine (q9b (((), (), (), (), (), c, ()), (t, p, o, lo, hi, t, c0, ()))).trans ?_
    have e := rnd_nat t p o lo hi c (fun r : Int × Int => some (((), (t, p, o, r.1, r.2, t, c0, ())) : F9c.ty)) (fun a b => some (a, b))
    rw [hrnd] at e
    exact e
  refine execC_soundIn (E := E9) ok9 ord (some L) 0 BD9 k9c _ a' _ _ nd9.2 ?_ S3 h3 ?_
  · rintro ⟨a0, w0, h⟩
    exact h
  intro e s4 a4 X4 S4 x4 hk4
  cases e with
  | ret => simp [k9c] at hk4
  | exit id => simp [k9c] at hk4
  | normal =>
  simp only [k9c] at hk4
  obtain ⟨s5, X5, e5, S5, x5, hd5⟩ := canonK_sound S4 hk4
  have hd5 := F9c.dec_enc _ _ hd5
  subst hd5
  have H5 : HRep _ X5 (encH t p o lo' hi' c0) := S5.heap
  have hx5 : Ext ⟨X2.ρ, X2.Ok, X2.w.putObj L (.loop { recL fn tmps AS9 BD9 D with state := .busy })⟩ X5 := ExtN.all (by
    have : X2.ρ.length = 7 := S1.heap.len
    show ExtN X2.ρ.length _ _
    rw [this]
    exact x4.trans x5)
  have hlt2 : L < X2.w.heap.size := (Array.getElem?_eq_some_iff.1 hL2).1
  have hL5 : X5.w.heap[L]? = some (.loop { recL fn tmps AS9 BD9 D with state := .busy }) := by
    rw [H5.fr L (by show L < (X2.w.putObj L _).heap.size; rw [size_putObj]; exact hlt2) (fun ⟨n, ob, q1, q2, q3⟩ => hno2 n ob q1 q2 q3)]
    exact World.putObj_heap_same hlt2
  obtain ⟨H6, x6⟩ := round_back S1.heap hL2 hok2 hno2 hx5 H5
  show ∃ v w', _ ∧ _
  rw [← e5]
  refine ⟨_, _, run_endRound none hL5, rfl, _, rfl, hx2.trans x6, H6⟩

/-! ### Span: the contract. -/
noncomputable def rest9 : ((Int × Int × Int × Unit) ⊕ F9a.ty) → Option (Int × Int × Int × Unit)
  | .inl y => some y
  | .inr y => ((ini44 y.2.1 some).bind fun c => itN y.2.1 y.2.2.1 y.2.2.2.1 FUEL c y.2.2.2.2.1 y.2.2.2.2.2.1).bind fun q => some (q.1, q.2, 0, ())
noncomputable def m9 (a0 : T24) (a1 : Int) (a2 : Int) (a3 : Int) : Option ((Int × (Int × (Int × Unit)))) := (pre9 a0 a1 a2 a3).bind rest9

abbrev gR9 : GT := .cons (.int .i64) (.cons (.int .i64) (.cons (.int .i64) .nil))
abbrev gs9 : List GT := [G24, .int .i64, .int .i64, .int .i64]

/-- What the function leaves. -/
def Post9 (B : Base) (X : HS) (a : gR9.ty) (e : Ending) (w' : World) : Prop := ∃ val X' h' v, X'.w = w' ∧ Ext X X' ∧ HRep B X' h' ∧ e = .returned val ∧ Rep X' v .val [val] ∧ retK true gR9 v h' = some a

theorem call44 {a : Act} {v5 : Value} {L : Nat} {w : World} (hg : a.eval (.tmp 55) = .func (.func 44) #[] #[v5]) :
    (resolve a.eval (rangeCall (.tmp 55) L) 0).run Try.prog w = .ok { target := .fn (.func 44) #[v5], args := #[yV L] } w ∧ (invoke (.fn (.func 44) #[v5]) #[yV L]).run Try.prog w = .ok (.enter 44 #[yV L, v5]) w := by
  obtain ⟨fn, k1, k2, k3⟩ := ca44
  have k4 : ¬ fn.name = "runtime.NumGoroutine" := by simpa using k3
  constructor
  · simp only [resolve, rangeCall, hg, Deferred.ofValue]
    rw [show Array.map a.eval #[Operand.const (Value.func (Fn.yield L) #[] #[])] = #[a.eval (Operand.const (Value.func (Fn.yield L) #[] #[]))] by simp, Array.empty_append]
    rfl
  · obtain ⟨b, hb⟩ := Option.isSome_iff_exists.1 k2
    simp [invoke, callFunc, k1, hb, k4]

/-- What is known behind the last region. -/
def Q17 (X6 : HS) (t : T24) (p : T47) (o : T50) (lo hi : Int) (c : List Int) : Exit → Act → World → Prop
  | .normal, a', w' => ∃ X9, X9.w = w' ∧ Ext X6 X9 ∧ StOk (maskB X6 (encH t p o lo hi c)) Try.f9.ntmps X9 ⟨[(8, .dat (.int .i64) lo), (9, .dat (.int .i64) hi), (10, .dat (.int .i64) 0)], encH t p o lo hi c⟩ a'
  | _, _, _ => False

/-- Behind the range. -/
theorem behind9 {B : Base} {X0 X6 : HS} {t : T24} {p : T47} {o : T50} {lo hi : Int} {c : List Int} {D : Nat} {a : Act} (hx : Ext X0 X6) (H6 : HRep B X6 (encH t p o lo hi c)) (hB : B.w.heap.size ≤ D) (hD : X6.w.heap[D]? = some (.deferred (some [])))
    (hokD : ¬ X6.Ok D) (hnoD : ∀ n ob, nth (encH t p o lo hi c) n = some ob → ob.live = true → blkOf X6 n ≠ some D) (hsz : a.tmps.size = Try.f9.ntmps) (hdf : a.defers = []) (hregs : ∀ i v, lk reg9 i = some v → Rep X6 v .val [a.tmps.getD i undef]) :
    (Code.seq (.region 17 ops17 true) .ret).wp Try.prog (bodyPostM Fence.wide 0 Try.prog Try.f9 (Post9 B X0 (lo, hi, 0, ()))) (Act.dfr a [{ target := .collected D, args := #[] }]) X6.w := by
  have H7 := H6.mask (M := encH t p o lo hi c) rfl (fun _ _ h _ => h)
  have S7 : StOk (maskB X6 (encH t p o lo hi c)) Try.f9.ntmps X6 ⟨reg9, encH t p o lo hi c⟩ a := ⟨hregs, H7, hsz, hdf⟩
  have h1 : execC E9 C9 Try.f9.ntmps 7 (.region 17 ops17 true) ⟨reg9, encH t p o lo hi c⟩ k9e = some ((lo, hi, 0, ()), (t, p, o, lo, hi, t, c, ())) :=
    q9e (((), (), (), (), (), ()), (t, p, o, lo, hi, t, c, ()))
  obtain ⟨Xa, ea, hW⟩ := region_case (E := E9) ok9 ord (Q := Q17 X6 t p o lo hi c) S7 h1 (by
      intro s' a' X' S' x' hk'
      simp only [k9e] at hk'
      obtain ⟨s1, X2, e1, S1, x1, hd⟩ := canonK_sound S' hk'
      have hd := F9e.dec_enc _ _ hd
      subst hd
      exact ⟨X2, e1, ExtN.all (by rw [H6.len]; exact x'.trans x1), S1⟩)
  rw [ea] at hW
  have hW1 : wpAny Try.prog .any ops17 (Q17 X6 t p o lo hi c) ops17.size (Array.replicate ops17.size false) a { X6.w with drawn := X6.w.drawn + 1 } := hW
  have hW2 : regionW Try.prog ops17 true (QD [{ target := .collected D, args := #[] }] (Q17 X6 t p o lo hi c)) (Act.dfr a [{ target := .collected D, args := #[] }]) X6.w := wpAny_dfr [{ target := .collected D, args := #[] }] (fun ⟨_, _, h⟩ => h) ops17_simple _ _ a _ hW1
  refine wp_seq (wp_mono (regionW_wp ord hW2) ?_)
  rintro e a' w' ⟨hd', d0, hq⟩
  cases e with
  | ret => exact hq.elim
  | exit id => exact hq.elim
  | goto id => exact hq.elim
  | panic ch => exact hq.elim
  | outgrown => exact hq.elim
  | normal =>
  obtain ⟨X9, rfl, x9, S9⟩ := hq
  show Code.ret.wp Try.prog _ a' X9.w
  refine wp_ret ?_
  show LeavesInM Fence.wide 0 Try.prog Try.f9 a'.tmps _ a'.defers .returning X9.w
  rw [hd']
  have hltD : D < X6.w.heap.size := (Array.getElem?_eq_some_iff.1 hD).1
  have hmD : ¬ (maskB X6 (encH t p o lo hi c)).own D := fun ⟨n, ob, q1, q2, q3⟩ => hnoD n ob q1 q2 q3
  have hAD : Aside (maskB X6 (encH t p o lo hi c)) D (.deferred (some [])) := ⟨hD, hmD, hokD⟩
  have hD9 := hAD.at' S9.heap
  refine ⟨by simp, .inl ⟨D, _, rfl, run_takeDeferred hD9, ?_⟩⟩
  have H9 : HRep B X9 (encH t p o lo hi c) := H6.unmask (M := encH t p o lo hi c) rfl (fun _ _ h _ => h) x9 S9.heap rfl (fun n o hn _ => .inl hn)
  obtain ⟨H10, x10⟩ := turn_one H9 (.deferred none) hB (hAD.ok S9.heap) (hAD.no S9.heap)
  show ∃ v, _ ∧ _
  refine ⟨_, results_run (P := Try.prog) (val := fun rv => match rv with
    | .tmp t => a'.tmps.getD t undef
    | _ => undef) (fun rv hrv => by
      rw [res9] at hrv
      simp only [List.mem_cons, List.not_mem_nil, or_false] at hrv
      rcases hrv with rfl | rfl | rfl <;> rfl), ?_⟩
  refine ⟨_, _, encH t p o lo hi c, .tup (.scons (.dat (.int .i64) lo) (.scons (.dat (.int .i64) hi) (.scons (.dat (.int .i64) 0) .snil))), rfl, hx.trans (x9.trans x10), H10, rfl, ?_, rfl⟩
  rw [res9]
  have r8 := Rep_mono x10 _ _ _ (S9.regs 8 _ rfl)
  have r9 := Rep_mono x10 _ _ _ (S9.regs 9 _ rfl)
  have r10 := Rep_mono x10 _ _ _ (S9.regs 10 _ rfl)
  exact ⟨[a'.tmps.getD 8 undef, a'.tmps.getD 9 undef, a'.tmps.getD 10 undef], ⟨_, _, rfl, r8, _, _, rfl, r9, _, _, rfl, r10, rfl⟩, rfl⟩

theorem range9 {B : Base} {X0 X : HS} {t : T24} {p : T47} {o : T50} {lo hi : Int} {q : Int × Int} {a : Act} (hx : Ext X0 X) (hs : StOk B Try.f9.ntmps X ⟨reg9, (enc6 t p o lo hi).take 5⟩ a)
    (hm : ((ini44 t some).bind fun c => itN t p o FUEL c lo hi) = some q) : tail9.wp Try.prog (bodyPostM Fence.wide 0 Try.prog Try.f9 (Post9 B X0 (q.1, q.2, 0, ()))) a X.w := by
  rw [tail9_eq]
  refine wp_seq (wp_seq ?_)
  have h1 : execC E9 C9 Try.f9.ntmps 5 R11 ⟨reg9, (enc6 t p o lo hi).take 5⟩ k9t = some (((), (), (), (), (), ((), ()), ()), (t, p, o, lo, hi, t, ())) := q9t (((), (), (), (), (), ()), (t, p, o, lo, hi, ()))
  have hl11 : LmOk E9 C9 Try.f9.ntmps R11 := noCfg_lm
  refine execC_sound (E := E9) ok9 ord R11 k9t _ a X _ hl11 hs h1 ?_
  intro e s' a' X' S' x' hk'
  cases e with
  | ret => simp [k9t] at hk'
  | exit id => simp [k9t] at hk'
  | normal =>
  simp only [k9t] at hk'
  obtain ⟨s1, X3, e1, S3, x3, hd⟩ := canonK_sound S' hk'
  have hd := F9t.dec_enc _ _ hd
  subst hd
  have S3 : StOk B Try.f9.ntmps X3 ⟨reg9 ++ [(55, .fn 44 (.scons (.box 5 [] 0) .snil))], enc6 t p o lo hi⟩ a' := S3
  have hx3 : Ext X X3 := ExtN.all (by rw [hs.heap.len]; exact x'.trans x3)
  show (Code.block 0 (.rangeFunc (.tmp 55) #[56] AS9 BD9)).wp Try.prog _ a' X'.w
  rw [← e1]
  refine wp_block ((wpIn_wide (n := 0)).1 (wpIn_rangeFunc ?_))
  intro fn _
  obtain ⟨us, hus, heq⟩ := S3.regs 55 _ rfl
  obtain ⟨v5, c2, rfl, h5, hc2⟩ := hus
  have hc2 : c2 = [] := hc2
  subst hc2
  have hg : a'.eval (.tmp 55) = .func (.func 44) #[] #[v5] := (List.cons.inj heq).1
  obtain ⟨g1, g2⟩ := call44 (L := X3.w.heap.size + 1) (w := (X3.w.alloc (.deferred (some []))).alloc (.loop (recL fn a'.tmps AS9 BD9 X3.w.heap.size))) hg
  refine ⟨X3.w.heap.size + 1, [{ target := .collected X3.w.heap.size, args := #[] }], _, _, _, 44, _, _, run_enterLoop_outer _ _ _ _ _, g1, fun _ _ => trivial, g2, fun h => by simp [Fence.wide] at h, callsIn_wide.2 ?_⟩
  obtain ⟨H1, x1⟩ := enter_two S3.heap (.deferred (some [])) (.loop (recL fn a'.tmps AS9 BD9 X3.w.heap.size))
  generalize hX1 : (⟨X3.ρ, X3.Ok, (X3.w.alloc (.deferred (some []))).alloc (.loop (recL fn a'.tmps AS9 BD9 X3.w.heap.size))⟩ : HS) = X1 at H1 x1
  have hw1 : X1.w = (X3.w.alloc (.deferred (some []))).alloc (.loop (recL fn a'.tmps AS9 BD9 X3.w.heap.size)) := by rw [← hX1]
  have hρ1 : X1.ρ = X3.ρ := by rw [← hX1]
  have hok1 : X1.Ok = X3.Ok := by rw [← hX1]
  have M1 := H1.mask (M := enc6 t p o lo hi) rfl (fun _ _ h _ => h)
  have hlt : ∀ L, X3.w.heap.size ≤ L → ¬ (maskB X1 (enc6 t p o lo hi)).own L ∧ ¬ (maskB X1 (enc6 t p o lo hi)).Ok L := by
    intro L hL
    refine ⟨fun ⟨n, ob, q1, q2, q3⟩ => ?_, fun h => ?_⟩
    · have : blkOf X3 n = some L := by unfold blkOf at q3 ⊢; rw [hρ1] at q3; exact q3
      have := S3.heap.lt q1 q2 this
      omega
    · have h : X1.Ok L := h
      rw [hok1] at h
      have := S3.heap.okLt L h
      omega
  have AL : Aside (maskB X1 (enc6 t p o lo hi)) (X3.w.heap.size + 1) (.loop (recL fn a'.tmps AS9 BD9 X3.w.heap.size)) := by
    refine ⟨?_, hlt _ (by omega)⟩
    show X1.w.heap[X3.w.heap.size + 1]? = _
    rw [hw1]
    have := World.alloc_heap_new (X3.w.alloc (.deferred (some []))) (.loop (recL fn a'.tmps AS9 BD9 X3.w.heap.size))
    rwa [World.size_alloc] at this
  have AD : Aside (maskB X1 (enc6 t p o lo hi)) X3.w.heap.size (.deferred (some [])) := by
    refine ⟨?_, hlt _ (by omega)⟩
    show X1.w.heap[X3.w.heap.size]? = _
    rw [hw1]
    show ((X3.w.alloc (.deferred (some []))).heap.push _)[X3.w.heap.size]? = _
    rw [Array.getElem?_push, if_neg (by rw [World.size_alloc]; omega)]
    exact World.alloc_heap_new X3.w _
  have hr1 : ∀ i v, lk reg9 i = some v → Rep X1 v .val [a'.tmps.getD i undef] := fun i v hl => Rep_mono x1 _ _ _ (S3.regs i v (by rw [lk_app, hl]))
  have hy := yok9 (t := t) (p := p) (o := o) AL S3.size hr1 (by rw [hρ1]; exact S3.heap.len)
  rw [← hw1]
  refine (iter44 hy M1 (Rep_mono x1 _ _ _ h5) hm).mono ?_
  rintro e W' ⟨⟨v, rfl⟩, X5, c5, rfl, x5, H5⟩
  have hL5 := AL.at' H5
  show ∃ jump w₄, _ ∧ _
  refine ⟨_, _, run_endLoop hL5 (by simp [recL]), ?_⟩
  have HB : HRep B X5 (encH t p o q.1 q.2 c5) := H1.unmask (M := enc6 t p o lo hi) rfl (fun _ _ h _ => h) x5 H5 rfl (fun n o hn _ => .inl hn)
  have hBs : B.w.heap.size ≤ X3.w.heap.size := S3.heap.size
  obtain ⟨H6, x6⟩ := turn_one HB (.loop { recL fn a'.tmps AS9 BD9 X3.w.heap.size with state := .exhausted }) (L := X3.w.heap.size + 1) (by omega) (AL.ok H5) (AL.no H5)
  have hD6 : (X5.w.putObj (X3.w.heap.size + 1) (.loop { recL fn a'.tmps AS9 BD9 X3.w.heap.size with state := .exhausted })).heap[X3.w.heap.size]? = some (.deferred (some [])) := by
    rw [World.putObj_heap_other (by omega)]
    exact AD.at' H5
  have hb := behind9 (X0 := X0) (D := X3.w.heap.size) (a := a') (hx.trans (hx3.trans (x1.trans (x5.trans x6)))) H6 hBs hD6 (show ¬ X5.Ok _ from AD.ok H5) (fun n ob q1 q2 => (AD.no H5 n ob q1 q2 : blkOf X5 n ≠ some _)) S3.size S3.defers (fun i v hl => Rep_mono (x5.trans x6) _ _ _ (hr1 i v hl))
  show (Code.seq (.region 17 ops17 true) .ret).wp Try.prog _ { a' with defers := [{ target := .collected X3.w.heap.size, args := #[] }] ++ a'.defers } _
  rw [S3.defers]
  exact hb

theorem run9 : FRun Try.prog 9 gs9 (retK true gR9) (fun x => m9 x.1 x.2.1 x.2.2.1 x.2.2.2.1) := by
  intro xs y ha B X H vals hv
  obtain ⟨r, hr, ha⟩ := Option.bind_eq_some_iff.1 ha
  refine (callsIn_wide (n := 0)).1 (callsIn_of_wp_marks (F := Fence.wide) (R := Post9 B X y) Try.func9 body9 trivial ((wpIn_wide (n := 0)).2 ?_))
  have S0 := enter_ok H hv (N := Try.f9.ntmps) (show 4 ≤ Try.f9.ntmps by decide +kernel)
  refine execV_sound (E := E9) ok9 ord (C := C9) (key := 12) code9 k9v _ _ X _ (lm9 _ body9) S0 ((q9v xs).trans hr) ?_ ?_
  · intro e s' a' X' hne S' x' hk'
    have hx : Ext X X' := ExtN.all (by rw [H.len]; exact x')
    cases e with
    | normal => exact absurd rfl hne
    | exit id => simp [k9v] at hk'
    | ret =>
    simp only [k9v] at hk'
    split at hk'
    · rename_i vs hvs
      split at hk'
      · rename_i z hz
        obtain rfl := Option.some.inj hk'
        have hy : z = y := Option.some.inj ha
        subst hy
        obtain ⟨rval, h1, h2⟩ := resVs_rep (P := Try.prog) S'.heap S'.regs _ _ hvs
        show LeavesInM Fence.wide 0 Try.prog Try.f9 a'.tmps _ a'.defers .returning X'.w
        rw [S'.defers]
        show ∃ v, _ ∧ _
        refine ⟨_, results_run rval h2, ?_⟩
        refine ⟨_, X', s'.heap, .tup (SV.ofL vs), rfl, hx, S'.heap, rfl, ?_, hz⟩
        rw [res9] at h1 ⊢
        exact ⟨_, ofL_vals h1, rfl⟩
      · cases hk'
    · cases hk'
  · intro s' a' X' S' x' hk'
    simp only [k9v] at hk'
    obtain ⟨s1, X2, e1, S2, x2, hd⟩ := canonK_sound S' hk'
    split at hd
    · rename_i z hz
      have hz2 := F9a.dec_enc _ _ hz
      subst hz2
      obtain rfl := Option.some.inj hd
      obtain ⟨q, hq, hy⟩ := Option.bind_eq_some_iff.1 ha
      obtain rfl := Option.some.inj hy
      have hx : Ext X X2 := ExtN.all (by rw [H.len]; exact x'.trans x2)
      show tail9.wp Try.prog _ a' X'.w
      rw [← e1]
      exact range9 hx S2 hq
    · cases hd

noncomputable def e9 : PmE := entry 9 gs9 true gR9 (fun x => m9 x.1 x.2.1 x.2.2.1 x.2.2.2.1)
theorem p9 : PmOk Try.prog e9 := pm_of ca9 run9

end Go.Proofs.Ytadinocaadlgmaa
