/- The engine, part 2b: regions, code, functions (definitions). -/
import Derived.Test.YtondjihmmjjinaaE20
namespace Go.Eng
open Go
set_option linter.unusedVariables false
set_option linter.unusedSimpArgs false

structure St where
  regs : List (Nat × SV)
  heap : List SO

inductive Ex where
  | normal | exit (id : Nat) | ret

/-- Without some of the contracts. -/
def Env.at (E : Env) (x : Nat → Bool) : Env := { E with isPm := fun f => E.isPm f && !x f }

/-- Contracts that are told a number are taken where one is known. -/
def Env.told (E : Env) (g : Nat → Option Int) : Env :=
  { E with
    cm := fun R f args h K => match g f with
      | some p => E.gcm R p f args h K
      | none => E.cm R f args h K
    isO := fun f => match g f with
      | some _ => false
      | none => E.isO f }

def regionK {R : Type} (E : Env) (N : Nat) (ops : List Oper) (draw : Bool) (s : St) (k : St → Option R) : Option R :=
  bif dstsOk N ops then
    runOps E ops s.regs ops [] s.heap fun rs h =>
      bif !draw || (orderOk ops ((rs.map (·.cls)).reverse) ((rs.map (·.foot)).reverse) && (baseOk s.heap s.regs && scopeOk s.heap.length rs.reverse)) then k ⟨after rs s.regs, h⟩ else none
  else none

/-! ### Only what is named: registers below a slot, objects that they reach, renumbered -/

def addN (acc : List Nat) : List Nat → List Nat
  | [] => acc
  | n :: l => bif acc.any (Nat.beq n) then addN acc l else addN (acc ++ [n]) l

/-- The registers of these slots. -/
def restr (regs : List (Nat × SV)) : List Nat → List (Nat × SV)
  | [] => []
  | n :: l => match lk regs n with
    | some v => (n, v) :: restr regs l
    | none => restr regs l

def namesR : List (Nat × SV) → List Nat → List Nat
  | [], acc => acc
  | e :: l, acc => namesR l (addN acc e.2.names)

/-- The names that objects of names bear, too. -/
def closeN (h : List SO) : Nat → List Nat → List Nat → List Nat
  | 0, _, acc => acc
  | _ + 1, [], acc => acc
  | n + 1, a :: todo, acc =>
    match nth h a with
    | some (.box v) =>
      let acc' := addN acc v.names
      closeN h n (todo ++ acc'.drop acc.length) acc'
    | some (.hole _ _ _ _ v) =>
      let acc' := addN acc v.names
      closeN h n (todo ++ acc'.drop acc.length) acc'
    | _ => closeN h n todo acc

def posOf (n : Nat) : List Nat → Nat
  | [] => 0
  | a :: l => bif Nat.beq a n then 0 else posOf n l + 1

def SV.ren (σ : List Nat) : SV → SV
  | .box n p o => .box (posOf n σ) p o
  | .el n g i p o => .el (posOf n σ) g i p o
  | .own n => .own (posOf n σ)
  | .mp n => .mp (posOf n σ)
  | .vw n g lo len => .vw (posOf n σ) g lo len
  | .fn f c => .fn f (c.ren σ)
  | .scons a b => .scons (a.ren σ) (b.ren σ)
  | .agg l => .agg (l.ren σ)
  | .tup l => .tup (l.ren σ)
  | v => v

def SO.ren (σ : List Nat) : SO → SO
  | .box v => .box (v.ren σ)
  | .hole q g xs i u => .hole q g xs i (u.ren σ)
  | .mapS k v es x m => .mapS k v es x (posOf m σ)
  | o => o

def renR (σ : List Nat) : List (Nat × SV) → List (Nat × SV)
  | [] => []
  | e :: l => (e.1, e.2.ren σ) :: renR σ l

def pickO (h : List SO) (σ : List Nat) : List Nat → List SO
  | [] => []
  | n :: l => (match nth h n with
    | some o => o.ren σ
    | none => .dead) :: pickO h σ l

/-- All names that occur are among these. -/
def inN (σ : List Nat) : List Nat → Bool
  | [] => true
  | n :: l => (σ.any (Nat.beq n)) && inN σ l

def closedO (h : List SO) (σ : List Nat) : List Nat → Bool
  | [] => true
  | n :: l => (match nth h n with
    | some (.box v) => inN σ v.names
    | some (.hole _ _ _ _ u) => inN σ u.names
    | some (.mapS _ _ _ _ _) => false
    | some _ => true
    | none => false) && closedO h σ l

def closedR (σ : List Nat) : List (Nat × SV) → Bool
  | [] => true
  | e :: l => inN σ e.2.names && closedR σ l

/-- The first n entries are i, i + 1, .. -/
def idHead : Nat → Nat → List Nat → Bool
  | _, 0, _ => true
  | i, n + 1, a :: l => Nat.beq a i && idHead (i + 1) n l
  | _, _ + 1, [] => false

/-- An empty slice in a variable gets an object of its own. -/
def wideB (g : GT) (n : Nat) (p : List Nat) (h : List SO) : List SO :=
  match nth h n with
  | some (.box v) => (match SV.sub p v with
    | some u => bif emptyS u then (match SV.upd p v (.own h.length) with
      | some v' => setN (h ++ [.arr g []]) n (.box v')
      | none => h) else h
    | none => h)
  | _ => h

/-- An empty slice without an object of its own gets one: a register's, or one in the variable that the register points to. -/
def widen : List (Nat × List Nat × GT) → List (Nat × SV) → List SO → List (Nat × SV) × List SO
  | [], regs, h => (regs, h)
  | (t, p, g) :: l, regs, h => match lk regs t with
    | some .nils => widen l ((t, .own h.length) :: regs) (h ++ [.arr g []])
    | some .emp => widen l ((t, .own h.length) :: regs) (h ++ [.arr g []])
    | some (.box n q _) => widen l regs (wideB g n (q ++ p) h)
    | _ => widen l regs h

/-- A value read as plain data. -/
def rdV (h : List SO) (v : SV) (g : GT) : Option g.ty := bif v.stor && (v.isAgg == g.isAgg) then coe h v g else none

/-- The sign for a slice that is nil if and only if it is empty. -/
def nslG : GT → Option GT
  | .cons (.sl t) .opq => some t
  | _ => none

def isNils : SV → Bool
  | .nils => true
  | _ => false

/-- The sign for an own list that is moved to a new object. -/
def mvG : GT → Bool
  | .cons .nil .opq => true
  | _ => false

/-- The sign for an object that is not used from now on. -/
def klG : GT → Bool
  | .cons .bool .opq => true
  | _ => false

/-- An own list, or a map, becomes a new object. -/
def moveO (n : Nat) (h : List SO) : Option (List SO) := match nth h n with
  | some (.arr g xs) => some (setN h n .dead ++ [.arr g xs])
  | some (.map k v es) => some (setN h n .dead ++ [.map k v es])
  | _ => none

/-- What is moved with its object. -/
def refOf : SV → Option (Nat × (Nat → SV))
  | .own m => some (m, .own)
  | .mp m => some (m, .mp)
  | _ => none

/-- An own list in a variable becomes a new object. -/
def mvB (n : Nat) (p : List Nat) (h : List SO) : List SO :=
  match nth h n with
  | some (.box v) => (match (SV.sub p v).bind refOf with
    | some (m, f) => (match moveO m h with
      | some h1 => (match SV.upd p v (f h.length) with
        | some v' => setN h1 n (.box v')
        | none => h)
      | none => h)
    | none => h)
  | _ => h

/-- A part of a variable is plain data from now on. -/
def datB (g : GT) (n : Nat) (p : List Nat) (h : List SO) : List SO :=
  match nth h n with
  | some (.box v) => (match SV.sub p v with
    | some u => (match nslG g with
      | some t => bif isNils u then (match SV.upd p v (.nsl t []) with
        | some v' => setN h n (.box v')
        | none => h) else h
      | none => (match coe h u g with
        | some x => bif u.owns.any (Nat.beq n) then h else (match SV.upd p v (.dat g x) with
          | some v' => setN (kill h u.owns) n (.box v')
          | none => h)
        | none => h))
    | none => h)
  | _ => h

/-- A list, one element of which is known part by part, is a list again. -/
def closeH (n : Nat) (h : List SO) : List SO :=
  match nth h n with
  | some (.hole _ g xs i u) => (match coe h u g with
    | some z => bif u.owns.any (Nat.beq n) then h else setN (kill h u.owns) n (.arr g (xs.set i z))
    | none => h)
  | _ => h

def putS : SV → Nat → SV → SV
  | .scons _ b, 0, v => .scons v b
  | .scons a b, n + 1, v => .scons a (putS b n v)
  | u, _, _ => u

/-- Registers, or parts of the variables that they point to, are plain data from now on; lists that have a part apart are closed. -/
def datn : List (Nat × List Nat × GT) → List (Nat × SV) → List SO → List (Nat × SV) × List SO
  | [], regs, h => (regs, h)
  | (t, p, g) :: l, regs, h => match lk regs t with
    | some (.box n q _) => bif mvG g then datn l regs (mvB n (q ++ p) h) else bif klG g then datn l regs (setN h (p.headD 0) .dead) else datn l regs (datB g n (q ++ p) h)
    | some (.own n) => bif mvG g then (match moveO n h with
        | some h1 => datn l ((t, .own h.length) :: regs) h1
        | none => datn l regs h) else (match nth h n with
      | some (.hole _ _ _ _ _) => datn l regs (closeH n h)
      | _ => (match rdV h (.own n) g with
        | some x => datn l ((t, .dat g x) :: regs) (kill h (SV.own n).owns)
        | none => datn l regs h))
    | some (.tup u) => (match p with
      | [i] => (match nthS u i with
        | some w => (match rdV h w g with
          | some x => datn l ((t, .tup (putS u i (.dat g x))) :: regs) (kill h w.owns)
          | none => datn l regs h)
        | none => datn l regs h)
      | _ => datn l regs h)
    | some v => (match rdV h v g with
      | some x => datn l ((t, .dat g x) :: regs) (kill h v.owns)
      | none => datn l regs h)
    | none => datn l regs h

/-- What is kept at a place: the slots, the empty slices that get objects, what is plain data from then on. -/
structure Keep where
  slots : List Nat
  wide : List (Nat × List Nat × GT)
  data : List (Nat × List Nat × GT)

/-- The state, of which only what is named by some slots is kept; the first H objects stay in their places. -/
def canonK {R : Type} (kp : Option Keep) (H : Nat) (s : St) (k : St → Option R) : Option R :=
  match kp with
  | none => k s
  | some kp =>
    match datn kp.data s.regs s.heap with
    | (rd, hd) => match widen kp.wide rd hd with
    | (rg, h) =>
      let regs := restr rg kp.slots
      let n0 := namesR regs (List.range H)
      let σ := closeN h 1000 n0 n0
      bif nodupB σ && closedR σ regs && closedO h σ σ && idHead 0 H σ then k ⟨renR σ regs, pickO h σ σ⟩ else none

def getB (s : St) : Operand → Option Bool
  | .const (.bool b) => some b
  | .tmp t => match lk s.regs t with
    | some (.dat .bool b) => some b
    | _ => none
  | _ => none

/-- Rounds of a loop. -/
def loopK {R : Type} (k0 : Option Keep) (k1 : Ex → Option Keep) (H : Nat) (body : St → (Ex → St → Option R) → Option R) : Nat → St → (Ex → St → Option R) → Option R
  | 0, _, _ => none
  | n + 1, s, k => body s fun e s' => match e with
    | .normal => canonK k0 H s' fun s'' => loopK k0 k1 H body n s'' k
    | e => canonK (k1 e) H s' fun s'' => k e s''

def isRegion : Code → Bool
  | .region _ _ _ => true
  | _ => false

/-- A place in the code: the number of the first region behind it, and 1; 0: none. -/
def keyOf : Code → Nat
  | .region id _ _ => id + 1
  | .seq a b => match keyOf a with
    | 0 => keyOf b
    | n + 1 => n + 1
  | .cond _ a b => match keyOf a with
    | 0 => keyOf b
    | n + 1 => n + 1
  | .block _ a => keyOf a
  | .loop a => keyOf a
  | _ => 0

/-- A loop's model. -/
def LM := (R : Type) → St → (Ex → St → Option R) → Option R

/-- What the executor is told of a function: what is kept at which places (at a place, in front of it; behind a loop), its loops' models. -/
structure Cfg where
  keep : Nat → Option Keep
  keepX : Nat → Ex → Option Keep
  lm : Nat → Nat → Option LM
  fuel : Nat
  /-- contracts that are not taken in a region -/
  ex : Nat → Nat → Bool
  /-- what is plain data from a region on -/
  pre : Nat → List (Nat × List Nat × GT)
  /-- which numbers the calls of a region are told: region, function, the slot and the part that has the number -/
  gh : List (Nat × Nat × Nat × List Nat)
  /-- which own lists have an element apart from a region on: the list's slot, the number's -/
  op : Nat → List (Nat × Nat) := fun _ => []

/-- Own lists of which an element is known apart from now on. -/
def openK {R : Type} : List (Nat × Nat) → St → (St → Option R) → Option R
  | [], s, k => k s
  | e :: l, s, k => match lk s.regs e.1, lk s.regs e.2 with
    | some (.own n), some (.dat (.int .i64) i) => (match nth s.heap n with
      | some (.arr g xs) => asrt true (decide (0 ≤ i) && decide (i < (xs.length : Int))) ((xs[i.toNat]?).bind fun x => openK l ⟨s.regs, setN s.heap n (.hole true g xs i.toNat (.dat g x))⟩ k)
      | _ => openK l s k)
    | _, _ => openK l s k

def intV : Option SV → Option Int
  | some (.dat (.int .i64) x) => some x
  | _ => none

/-- A number in a slot, or in the variable that it points to. -/
def numV (regs : List (Nat × SV)) (h : List SO) (t : Nat) (p : List Nat) : Option Int :=
  match lk regs t with
  | some (.box n q _) => (match nth h n with
    | some (.box v) => intV (SV.sub (q ++ p) v)
    | _ => none)
  | some v => intV (SV.sub p v)
  | none => none

def tells : List (Nat × Nat × Nat × List Nat) → Nat → St → Nat → Option Int
  | [], _, _, _ => none
  | e :: l, id, s, f => bif Nat.beq e.1 id && Nat.beq e.2.1 f then numV s.regs s.heap e.2.2.1 e.2.2.2 else tells l id s f

def execC {R : Type} (E : Env) (C : Cfg) (N H : Nat) : Code → St → (Ex → St → Option R) → Option R
  | .skip, s, k => k .normal s
  | .region id ops draw, s, k => openK (C.op id) s fun s => match datn (C.pre id) s.regs s.heap with
    | (rg, h) => regionK ((E.at (C.ex id)).told (tells C.gh id ⟨rg, h⟩)) N ops.toList draw ⟨rg, h⟩ (k .normal)
  | .seq a b, s, k => execC E C N H a s fun e s' => match e with
    | .normal => bif isRegion a then execC E C N H b s' k else canonK (C.keep (keyOf b)) H s' fun s'' => execC E C N H b s'' k
    | e => k e s'
  | .cond c a b, s, k => (match getB s c with
    | some t => bif t then execC E C N H a s k else execC E C N H b s k
    | none => none)
  | .block id a, s, k => execC E C N H a s fun e s' => match e with
    | .exit i => bif Nat.beq i id then k .normal s' else k (.exit i) s'
    | e => k e s'
  | .loop a, s, k => canonK (C.keep (keyOf a)) H s fun s => match C.lm H (keyOf a) with
    | some m => m R s k
    | none => loopK (C.keep (keyOf a)) (C.keepX (keyOf a)) H (fun s k => execC E C N H a s k) C.fuel s k
  | .exit id, s, k => k (.exit id) s
  | .ret, s, k => k .ret s
  | _, _, _ => none

/-- A loop's run. -/
def runL (E : Env) (C : Cfg) (N H : Nat) (a : Code) : LM := fun R s k => loopK (C.keep (keyOf a)) (C.keepX (keyOf a)) H (fun s k => execC (R := R) E C N H a s k) C.fuel s k

/-- The loops of a code. -/
def loops : Code → List Code
  | .seq a b => loops a ++ loops b
  | .cond _ a b => loops a ++ loops b
  | .block _ a => loops a
  | .loop a => a :: loops a
  | _ => []

def initR : List SV → Nat → List (Nat × SV)
  | [], _ => []
  | v :: l, n => (n, v) :: initR l (n + 1)

def resV (P : Program) (s : St) : ResultVar → Option SV
  | .tmp t => lk s.regs t
  | .cell a t => match lk s.regs a with
    | some p => loadK P t true p s.heap fun v _ => some v
    | none => none

def resVs (P : Program) (s : St) : List ResultVar → Option (List SV)
  | [] => some []
  | r :: l => match resV P s r with
    | some v => (match resVs P s l with
      | some vs => some (v :: vs)
      | none => none)
    | none => none

def resK {R : Type} (P : Program) (rs : List ResultVar) (s : St) (k : Kont R) : Option R :=
  match resVs P s rs with
  | some [v] => k v s.heap
  | some vs => k (.tup (SV.ofL vs)) s.heap
  | none => none

/-- A function's run. -/
def execF {R : Type} (E : Env) (C : Cfg) (fn : Func) (args : List SV) (h : List SO) (k : Kont R) : Option R :=
  match fn.body with
  | some c => bif Nat.ble args.length fn.ntmps then
      execC E C fn.ntmps h.length c ⟨initR args 0, h⟩ fun e s => match e with
        | .exit _ => none
        | _ => resK E.P fn.results.toList s k
      else none
  | none => none

end Go.Eng
