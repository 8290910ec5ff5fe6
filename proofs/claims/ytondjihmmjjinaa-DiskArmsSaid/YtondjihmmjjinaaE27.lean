/- The engine, part 27: functions that are run where they are called; naturality; a function's environment. -/
import Derived.Test.YtondjihmmjjinaaE26
namespace Go.Eng
open Go
set_option linter.unusedVariables false
set_option linter.unusedSimpArgs false

/-- The end of a code's run alone. -/
def pairE : Ex → St → Option (Ex × St) := fun e s => some (e, s)

theorem cond_bind_both {α β : Type} (c : Bool) (x y : Option α) (f : α → Option β) : (bif c then x else y).bind f = bif c then x.bind f else y.bind f := by cases c <;> rfl

theorem runOps_nat {E : Env} (hE : EnvOk E) {R S : Type} {ops : List Oper} {base : List (Nat × SV)} (f : S → Option R) {k : List Rc → List SO → Option S} :
    ∀ (l : List Oper) (rs : List Rc) (h : List SO), runOps E ops base l rs h (fun rs h => (k rs h).bind f) = (runOps E ops base l rs h k).bind f
  | [], rs, h => rfl
  | o :: l, rs, h => by
    simp only [runOps]
    split
    · rw [opK_nat hE, opK_nat hE (K := fun v h' => runOps E ops base l (⟨clsK E o.op (opnd (look rs base) []), footK E o.op (opnd (look rs base) []) h, o.dst, none, v, h'⟩ :: rs) h' k), Option.bind_assoc]
      congr 1
      funext q
      exact runOps_nat hE f l _ _
    · split
      · split
        · rw [cond_bind']
          congr 1
          rw [opK_nat hE, opK_nat hE (K := fun v h' => runOps E ops base l (⟨clsK E o.op (opnd (look rs base) _), footK E o.op (opnd (look rs base) _) h, o.dst, some (_, _), v, h'⟩ :: rs) h' k), Option.bind_assoc]
          congr 1
          funext q
          exact runOps_nat hE f l _ _
        · rfl
      · rfl

theorem regionK_nat {E : Env} (hE : EnvOk E) {R S : Type} {N : Nat} {ops : List Oper} {draw : Bool} {s : St} (f : S → Option R) {k : St → Option S} :
    regionK E N ops draw s (fun s => (k s).bind f) = (regionK E N ops draw s k).bind f := by
  unfold regionK
  rw [cond_bind]
  congr 1
  rw [← runOps_nat hE]
  congr 1
  funext rs h
  rw [cond_bind]

theorem canonK_nat {R S : Type} {kp : Option Keep} {H : Nat} {s : St} (f : S → Option R) {k : St → Option S} : canonK kp H s (fun s => (k s).bind f) = (canonK kp H s k).bind f := by
  cases kp with
  | none => rfl
  | some kp =>
    unfold canonK
    simp only [cond_bind]

theorem loopK_nat {R S : Type} {k0 : Option Keep} {k1 : Ex → Option Keep} {H : Nat} (f : S → Option R) {bodyR : St → (Ex → St → Option R) → Option R} {bodyS : St → (Ex → St → Option S) → Option S}
    (hb : ∀ s (k : Ex → St → Option S), bodyR s (fun e s' => (k e s').bind f) = (bodyS s k).bind f) {k : Ex → St → Option S} :
    ∀ (n : Nat) (s : St), loopK k0 k1 H bodyR n s (fun e s' => (k e s').bind f) = (loopK k0 k1 H bodyS n s k).bind f
  | 0, s => rfl
  | n + 1, s => by
    simp only [loopK]
    rw [← hb]
    congr 1
    funext e s'
    cases e with
    | normal =>
      simp only
      rw [← canonK_nat]
      congr 1
      funext s''
      exact loopK_nat f hb n s''
    | exit id => exact canonK_nat f
    | ret => exact canonK_nat f

theorem openK_nat {R S : Type} (f : S → Option R) : ∀ (l : List (Nat × Nat)) (s : St) (k : St → Option S), openK l s (fun s' => (k s').bind f) = (openK l s k).bind f
  | [], s, k => rfl
  | e :: l, s, k => by
    simp only [openK]
    split
    · split
      · rw [asrt_bind, Option.bind_assoc]
        congr 2
        funext x
        exact openK_nat f l _ k
      · exact openK_nat f l s k
    · exact openK_nat f l s k

theorem execC_nat {E : Env} (hE : EnvOk E) {R S : Type} {C : Cfg} {N H : Nat} (f : S → Option R) : ∀ (c : Code), LmOk E C N c → ∀ (s : St) (k : Ex → St → Option S),
    execC E C N H c s (fun e s' => (k e s').bind f) = (execC E C N H c s k).bind f
  | .skip, hl, s, k => rfl
  | .region id ops draw, hl, s, k => by
    simp only [execC]
    rw [← openK_nat]
    congr 1
    funext s'
    exact regionK_nat ((hE.at _).told _) f
  | .seq a b, hl, s, k => by
    have hl1 : LmOk E C N a := fun x hx => hl x (by simp [loops, hx])
    have hl2 : LmOk E C N b := fun x hx => hl x (by simp [loops, hx])
    simp only [execC]
    rw [← execC_nat hE f a hl1]
    congr 1
    funext e s'
    cases e with
    | normal =>
      simp only
      rw [cond_bind_both, ← execC_nat hE f b hl2, ← canonK_nat]
      congr 1
      congr 1
      funext s''
      exact execC_nat hE f b hl2 s'' k
    | exit id => rfl
    | ret => rfl
  | .cond c a b, hl, s, k => by
    have hl1 : LmOk E C N a := fun x hx => hl x (by simp [loops, hx])
    have hl2 : LmOk E C N b := fun x hx => hl x (by simp [loops, hx])
    simp only [execC]
    split
    · rw [cond_bind_both, ← execC_nat hE f a hl1, ← execC_nat hE f b hl2]
    · rfl
  | .block id a, hl, s, k => by
    have hl1 : LmOk E C N a := fun x hx => hl x (by simp [loops, hx])
    simp only [execC]
    rw [← execC_nat hE f a hl1]
    congr 1
    funext e s'
    cases e with
    | normal => rfl
    | exit i => simp only [cond_bind_both]
    | ret => rfl
  | .loop a, hl, s, k => by
    have hl1 : LmOk E C N a := fun x hx => hl x (by simp [loops, hx])
    have key : ∀ s', loopK (C.keep (keyOf a)) (C.keepX (keyOf a)) H (fun s k => execC (R := R) E C N H a s k) C.fuel s' (fun e s' => (k e s').bind f) = (loopK (C.keep (keyOf a)) (C.keepX (keyOf a)) H (fun s k => execC (R := S) E C N H a s k) C.fuel s' k).bind f :=
      fun s' => loopK_nat f (fun s k => execC_nat hE f a hl1 s k) C.fuel s'
    simp only [execC]
    rw [← canonK_nat]
    congr 1
    funext s'
    split
    · rename_i m hm
      rcases hl a (by simp [loops]) H m hm with ⟨ok, hok⟩ | hsem
      · rw [hok, hok, cond_bind_both]
        unfold runL
        rw [key]
        rfl
      · exact hsem.nat R S f s' k
    · exact key s'
  | .exit id, hl, s, k => rfl
  | .ret, hl, s, k => rfl
  | .rangeFunc _ _ _ _, hl, s, k => rfl
  | .scope _, hl, s, k => rfl
  | .label _, hl, s, k => rfl
  | .goto _, hl, s, k => rfl
  | .refuse _, hl, s, k => rfl

theorem resK_nat {R : Type} {P : Program} {rs : List ResultVar} {s : St} {K : Kont R} : resK P rs s K = (resK P rs s pair).bind fun q => K q.1 q.2 := by
  unfold resK
  split <;> rfl

theorem execF_nat {E : Env} (hE : EnvOk E) {R : Type} {C : Cfg} {fn : Func} (hl : ∀ c, fn.body = some c → LmOk E C fn.ntmps c) {args : List SV} {h : List SO} {K : Kont R} :
    execF E C fn args h K = (execF E C fn args h pair).bind fun q => K q.1 q.2 := by
  unfold execF
  split
  · rename_i c hc
    rw [cond_bind]
    congr 1
    rw [← execC_nat hE _ _ (hl c hc)]
    congr 1
    funext e s
    cases e with
    | normal => exact resK_nat
    | exit i => rfl
    | ret => exact resK_nat
  · rfl

/-- A function that is run where it is called. -/
structure CmE where
  f : Nat
  run : (R : Type) → List SV → List SO → Kont R → Option R
  /-- it makes one slice, whatever the heap is -/
  one : Bool

def inl (E : Env) (C : Cfg) (f : Nat) (fn : Func) : CmE := ⟨f, fun _ args h K => execF E C fn args h K, false⟩

structure CmOk (P : Program) (e : CmE) : Prop where
  sound : ∀ (R : Type) args h (K : Kont R) r, e.run R args h K = some r → callable P e.f ∧
    ∀ B X, HRep B X h → ∀ vals, RepL X args vals → Calls P e.f vals.toArray X.w fun e w' => ∃ val X' h' v, X'.w = w' ∧ Ext X X' ∧ HRep B X' h' ∧ e = .returned val ∧ Rep X' v .val [val] ∧ K v h' = some r
  nat : ∀ (R : Type) args h (K : Kont R), e.run R args h K = (e.run (SV × List SO) args h pair).bind fun q => K q.1 q.2
  ono : e.one = true → ∀ args h v h', ownsAll args = [] → e.run (SV × List SO) args h pair = some (v, h') →
    ∃ (t : GT) (ys : List t.ty), v = .own h.length ∧ h' = h ++ [.arr t ys] ∧ ∀ h2, e.run (SV × List SO) args h2 pair = some (.own h2.length, h2 ++ [.arr t ys])

theorem inl_ok {E : Env} (hE : EnvOk E) (hm : E.P.follows .mixedOrders = true) {C : Cfg} {f : Nat} {fn : Func} (hl : ∀ c, fn.body = some c → LmOk E C fn.ntmps c) (hf : E.P.funcs[f]? = some fn) (hc : callable E.P f) : CmOk E.P (inl E C f fn) := by
  constructor
  · intro R args h K r hr
    refine ⟨hc, fun B X H vals hv => ?_⟩
    exact execF_sound hE hm hl hf hr H hv
  · intro R args h K
    exact execF_nat hE hl
  · intro h
    cases h

def runC : List CmE → (R : Type) → Nat → List SV → List SO → Kont R → Option R
  | [], _, _, _, _, _ => none
  | e :: l, R, f, args, h, K => bif Nat.beq e.f f then e.run R args h K else runC l R f args h K

/-- Is the function one of those that make one slice? -/
def oneC : List CmE → Nat → Bool
  | [], _ => false
  | e :: l, f => bif Nat.beq e.f f then e.one else oneC l f

def mkEnv2 (P : Program) (l : List PmE) (c : List CmE) (vw : List Nat := []) (gc : Int → List CmE := fun _ => []) : Env := ⟨P, hasE l, runE l, runC c, oneC c, fun t => vw.any (Nat.beq t), fun R p => runC (gc p) R⟩

theorem runC_find {P : Program} {R : Type} {f : Nat} {args : List SV} {h : List SO} {K : Kont R} {r : R} : ∀ (c : List CmE), (∀ e ∈ c, CmOk P e) → runC c R f args h K = some r → ∃ e, CmOk P e ∧ e.f = f ∧ e.run R args h K = some r := by
  intro c
  induction c with
  | nil => intro _ h; cases h
  | cons e c ih =>
    intro hc hr
    simp only [runC] at hr
    cases hb : Nat.beq e.f f with
    | true =>
      rw [hb] at hr
      exact ⟨e, hc e (by simp), Nat.eq_of_beq_eq_true hb, hr⟩
    | false =>
      rw [hb] at hr
      exact ih (fun e he => hc e (by simp [he])) hr

theorem runC_nat {P : Program} {R : Type} {f : Nat} {args : List SV} {h : List SO} {K : Kont R} : ∀ (c : List CmE), (∀ e ∈ c, CmOk P e) → runC c R f args h K = (runC c (SV × List SO) f args h pair).bind fun p => K p.1 p.2 := by
  intro c
  induction c with
  | nil => intro _; rfl
  | cons e c ih =>
    intro hc
    simp only [runC]
    cases hb : Nat.beq e.f f with
    | true => exact (hc e (by simp)).nat R args h K
    | false => exact ih (fun e he => hc e (by simp [he]))

theorem mkEnv2_ok {P : Program} {l : List PmE} {c : List CmE} {vw : List Nat} {gc : Int → List CmE} (hl : ∀ e ∈ l, PmOk P e) (hc : ∀ e ∈ c, CmOk P e) (hg : ∀ p, ∀ e ∈ gc p, CmOk P e := by simp) : EnvOk (mkEnv2 P l c vw gc) := by
  have h0 := mkEnv_ok hl
  refine ⟨h0.pm, ?_, h0.mono, ?_, ?_, ?_, ?_⟩
  · intro R f args h K r hr
    obtain ⟨e, h1, rfl, h3⟩ := runC_find c hc hr
    exact h1.sound R args h K r h3
  · intro R f args h K
    exact runC_nat c hc
  · intro f args h v h' ho hn hr
    change oneC c f = true at ho
    change runC c (SV × List SO) f args h pair = some (v, h') at hr
    show ∃ (t : GT) (ys : List t.ty), v = .own h.length ∧ h' = h ++ [.arr t ys] ∧ ∀ h2, runC c (SV × List SO) f args h2 pair = some (.own h2.length, h2 ++ [.arr t ys])
    clear h0 hl
    induction c with
    | nil => cases ho
    | cons e c ih =>
      simp only [runC] at hr ⊢
      simp only [oneC] at ho
      cases hb : Nat.beq e.f f with
      | true =>
        rw [hb] at hr ho
        exact (hc e (by simp)).ono ho args h v h' hn hr
      | false =>
        rw [hb] at hr ho
        exact ih (fun e he => hc e (by simp [he])) ho hr
  · intro R p f args h K r hr
    obtain ⟨e, h1, rfl, h3⟩ := runC_find (gc p) (hg p) hr
    exact h1.sound R args h K r h3
  · intro R p f args h K
    exact runC_nat (gc p) (hg p)

/-- No loops. -/
def noCfg : Cfg := ⟨fun _ => none, fun _ _ => none, fun _ _ => none, 0, fun _ _ => false, fun _ => [], [], fun _ => []⟩

theorem noCfg_lm {E : Env} {N : Nat} {c : Code} : LmOk E noCfg N c := by
  intro a _ H m hm
  cases hm

end Go.Eng
