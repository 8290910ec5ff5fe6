/- The engine, part 1: symbolic values, objects, and the symbolic executor (definitions only). -/
import Derived.WalkKit
namespace Go.Eng
open Go
set_option linter.unusedVariables false
set_option linter.unusedSimpArgs false

/-- Plain data types: what a Go value of data is read as. -/
inductive GT where
  | int (k : IntKind)
  | bool
  | str
  | nil
  | cons (a b : GT)
  | sl (t : GT)
  | opq

@[reducible] def GT.ty : GT → Type
  | .int _ => Int
  | .bool => Bool
  | .str => List UInt8
  | .nil => Unit
  | .cons a b => a.ty × b.ty
  | .sl t => List t.ty
  | .opq => Value

def GT.size : GT → Nat
  | .int _ => 1
  | .bool => 1
  | .str => 1
  | .nil => 0
  | .cons a b => a.size + b.size
  | .sl _ => 1
  | .opq => 1

def GT.isAgg : GT → Bool
  | .nil => true
  | .cons _ _ => true
  | _ => false

/-- No slice inside: the value is in its cells whole. -/
def GT.flat : GT → Bool
  | .cons a b => a.flat && b.flat
  | .sl _ => false
  | _ => true

/-- A struct type's tail is a struct type. -/
def GT.chain : GT → Bool
  | .nil => true
  | .cons _ b => b.chain
  | _ => false

def GT.beq : GT → GT → Bool
  | .int j, .int k => decide (j = k)
  | .bool, .bool => true
  | .str, .str => true
  | .nil, .nil => true
  | .cons a b, .cons c d => a.beq c && b.beq d
  | .sl a, .sl b => a.beq b
  | .opq, .opq => true
  | _, _ => false

theorem GT.beq_eq : ∀ {a b : GT}, a.beq b = true → a = b
  | .int j, .int k, h => by simp [GT.beq] at h; rw [h]
  | .bool, .bool, _ => rfl
  | .str, .str, _ => rfl
  | .nil, .nil, _ => rfl
  | .cons a b, .cons c d, h => by
    simp only [GT.beq, Bool.and_eq_true] at h
    rw [GT.beq_eq h.1, GT.beq_eq h.2]
  | .sl a, .sl b, h => by
    simp only [GT.beq] at h
    rw [GT.beq_eq h]
  | .opq, .opq, _ => rfl

def castD (a b : GT) (x : a.ty) : Option b.ty := if h : a.beq b = true then some (GT.beq_eq h ▸ x) else none

def GT.dflt : (g : GT) → g.ty
  | .int _ => (0 : Int)
  | .bool => false
  | .str => []
  | .nil => ()
  | .cons a b => (a.dflt, b.dflt)
  | .sl _ => []
  | .opq => Value.slice none 0 0

/-- Go's == on plain data without slices. -/
def GT.eqv : (g : GT) → g.ty → g.ty → Bool
  | .int _, x, y => (show Int from x) == (show Int from y)
  | .bool, x, y => (show Bool from x) == (show Bool from y)
  | .str, x, y => (show List UInt8 from x) == (show List UInt8 from y)
  | .nil, _, _ => true
  | .cons a b, x, y => a.eqv x.1 y.1 && b.eqv x.2 y.2
  | .sl _, _, _ => false
  | .opq, _, _ => false

inductive SV where
  | dat (g : GT) (x : g.ty)
  | nils
  | emp
  | nilp
  | nilm
  | nilfn
  /-- a slice that is nil if and only if it is empty -/
  | nsl (g : GT) (xs : List g.ty)
  | box (n : Nat) (path : List Nat) (off : Nat)
  | el (n : Nat) (g : GT) (i : Nat) (path : List Nat) (off : Nat)
  | rd (g : GT) (x : g.ty)
  | own (n : Nat)
  | mp (n : Nat)
  | vw (n : Nat) (g : GT) (lo len : Nat)
  | fn (f : Nat) (caps : SV)
  | snil
  | scons (a b : SV)
  | agg (l : SV)
  | tup (l : SV)

inductive SO where
  | dead
  | box (v : SV)
  | arr (g : GT) (xs : List g.ty)
  | map (k v : GT) (es : List (k.ty × v.ty))
  /-- a list, one element of which is known part by part; q: it is used at this element alone, or at the others alone -/
  | hole (q : Bool) (g : GT) (xs : List g.ty) (i : Nat) (u : SV)
  /-- a map of which an entry, at key x, is held; its stamp is the value at name m -/
  | mapS (k v : GT) (es : List (k.ty × v.ty)) (x : k.ty) (m : Nat)
  /-- a map, of which the entries' stamps and the clock are known -/
  | mapB (k v : GT) (es : List (k.ty × v.ty)) (bs : List Nat) (c : Nat)

def SO.live : SO → Bool
  | .dead => false
  | _ => true

def nth {α : Type} : List α → Nat → Option α
  | [], _ => none
  | a :: _, 0 => some a
  | _ :: l, n + 1 => nth l n

def setN {α : Type} : List α → Nat → α → List α
  | [], _, _ => []
  | _ :: l, 0, x => x :: l
  | a :: l, n + 1, x => a :: setN l n x

def lk {α : Type} : List (Nat × α) → Nat → Option α
  | [], _ => none
  | e :: l, t => bif Nat.beq e.1 t then some e.2 else lk l t

def SV.size : SV → Nat
  | .dat g _ => g.size
  | .snil => 0
  | .scons a b => a.size + b.size
  | .agg l => l.size
  | _ => 1

/-- What a variable can hold. -/
def SV.stor : SV → Bool
  | .snil => false
  | .scons _ _ => false
  | .tup _ => false
  | .dat g _ => !g.isAgg || g.chain
  | _ => true

def SV.isAgg : SV → Bool
  | .dat g _ => g.isAgg
  | .agg _ => true
  | _ => false

def SV.toL : SV → List SV
  | .scons a b => a :: b.toL
  | _ => []

def SV.ofL : List SV → SV
  | [] => .snil
  | a :: l => .scons a (SV.ofL l)

/-- A chain of values (no tail but snil). -/
def SV.chain : SV → Bool
  | .snil => true
  | .scons _ b => b.chain
  | _ => false

/-- The parts of a plain struct. -/
def parts : (g : GT) → g.ty → SV
  | .cons a b, x => .scons (.dat a x.1) (parts b x.2)
  | _, _ => .snil

/-- A chain of plain data as one plain struct. -/
def pack? : SV → Option ((g : GT) × g.ty)
  | .snil => some ⟨.nil, ()⟩
  | .scons (.dat a x) b =>
    match pack? b with
    | some ⟨g, y⟩ => some ⟨.cons a g, (x, y)⟩
    | none => none
  | _ => none

/-- A struct of these parts. -/
def mkAgg (l : SV) : SV :=
  match pack? l with
  | some ⟨g, x⟩ => .dat g x
  | none => .agg l

/-- The parts of a struct. -/
def SV.partsOf : SV → Option SV
  | .dat (.cons a b) x => bif b.chain then some (parts (.cons a b) x) else none
  | .dat .nil x => some (parts .nil x)
  | .agg l => some l
  | _ => none

def nthS : SV → Nat → Option SV
  | .scons a _, 0 => some a
  | .scons _ b, n + 1 => nthS b n
  | _, _ => none

def setS : SV → Nat → SV → Option SV
  | .scons a b, 0, v => bif Nat.beq a.size v.size && (a.isAgg == v.isAgg) && v.stor then some (.scons v b) else none
  | .scons a b, n + 1, v => match setS b n v with
    | some b' => some (.scons a b')
    | none => none
  | _, _, _ => none

/-- How many cells stand before part n. -/
def offS : SV → Nat → Nat
  | .scons _ _, 0 => 0
  | .scons a b, n + 1 => a.size + offS b n
  | _, _ => 0

def SV.sub : List Nat → SV → Option SV
  | [], v => some v
  | i :: p, v => match v.partsOf with
    | some l => (match nthS l i with
      | some u => SV.sub p u
      | none => none)
    | none => none

def SV.off : List Nat → SV → Nat
  | [], _ => 0
  | i :: p, v => match v.partsOf with
    | some l => (match nthS l i with
      | some u => offS l i + SV.off p u
      | none => 0)
    | none => 0

def SV.upd : List Nat → SV → SV → Option SV
  | [], u, v => bif Nat.beq u.size v.size && (u.isAgg == v.isAgg) && v.stor then some v else none
  | i :: p, u, v => match u.partsOf with
    | some l => (match nthS l i with
      | some x => (match SV.upd p x v with
        | some y => (match setS l i y with
          | some l' => some (mkAgg l')
          | none => none)
        | none => none)
      | none => none)
    | none => none

/-- A part of a list. -/
def cutL (t : GT) (lo len : Nat) (xs : (GT.sl t).ty) : (GT.sl t).ty := (show List t.ty from ((show List t.ty from xs).drop lo).take len)

/-- Read a symbolic value as plain data of a type; own slices are looked at. -/
def coe (h : List SO) : SV → (g : GT) → Option g.ty
  | .dat g' x, g => castD g' g x
  | .nils, .sl _ => some []
  | .emp, .sl _ => some []
  | .nils, .opq => some (Value.slice none 0 0)
  | .nsl g' x, .sl t => castD (.sl g') (.sl t) x
  | .own n, .sl t => match nth h n with
    | some (.arr g xs) => castD (.sl g) (.sl t) xs
    | _ => none
  | .vw n g' lo len, .sl t => match nth h n with
    | some (.arr g xs) => bif GT.beq g' g then (match castD (.sl g) (.sl t) xs with
      | some ys => some (cutL t lo len ys)
      | none => none) else none
    | _ => none
  | .agg l, g => coe h l g
  | .scons a b, .cons ga gb => match coe h a ga with
    | some x => (match coe h b gb with
      | some y => some (x, y)
      | none => none)
    | none => none
  | .snil, .nil => some ()
  | _, _ => none

/-- The own slices inside a value. -/
def SV.owns : SV → List Nat
  | .own n => [n]
  | .vw n _ _ _ => [n]
  | .scons a b => a.owns ++ b.owns
  | .agg l => l.owns
  | .tup l => l.owns
  | _ => []

/-- The objects that a value names. -/
def SV.names : SV → List Nat
  | .box n _ _ => [n]
  | .el n _ _ _ _ => [n]
  | .own n => [n]
  | .mp n => [n]
  | .vw n _ _ _ => [n]
  | .fn _ c => c.names
  | .scons a b => a.names ++ b.names
  | .agg l => l.names
  | .tup l => l.names
  | _ => []

def SO.names : SO → List Nat
  | .box v => v.names
  | .hole _ _ _ _ u => u.names
  | .mapS _ _ _ _ m => [m]
  | _ => []

def kill (h : List SO) : List Nat → List SO
  | [] => h
  | n :: l => kill (setN h n .dead) l

/-- Is the type an aggregate, and how many cells has it? -/
def tyShape (P : Program) (t : TypeId) : Option (Bool × Nat) :=
  match P.underlying t, P.info? t with
  | some (.struct _), some i => some (true, i.size)
  | some (.array _ _), some i => some (true, i.size)
  | some _, some i => some (false, i.size)
  | _, _ => none

def fits (P : Program) (t : TypeId) (v : SV) : Bool :=
  match tyShape P t with
  | some (a, n) => (a == v.isAgg) && Nat.beq n v.size && v.stor
  | none => false

mutual
/-- Is the target inside the type? -/
def reachT (P : Program) (target : TypeId) : Nat → TypeId → Bool
  | 0, _ => false
  | n + 1, t => match P.underlying t with
    | some (.slice e) => Nat.beq e target || reachT P target n e
    | some (.struct fs) => reachF P target n fs.toList
    | _ => false
def reachF (P : Program) (target : TypeId) : Nat → List Field → Bool
  | 0, _ => false
  | _ + 1, [] => false
  | n + 1, f :: l => reachT P target n f.type || reachF P target n l
end

mutual
/-- The plain data type of a Go type; a slice type inside its own elements is not opened. -/
def gtOf (P : Program) : Nat → TypeId → Option GT
  | 0, _ => none
  | n + 1, t => match P.underlying t with
    | some .bool => some .bool
    | some (.int k) => some (.int k)
    | some .string => some .str
    | some (.slice e) => bif reachT P e 30 e then some .opq else (match gtOf P n e with
      | some g => some (.sl g)
      | none => none)
    | some (.struct fs) => gtFields P n fs.toList
    | _ => none
def gtFields (P : Program) : Nat → List Field → Option GT
  | 0, _ => none
  | _ + 1, [] => some .nil
  | n + 1, f :: l => match gtOf P n f.type with
    | some g => (match gtFields P n l with
      | some r => some (.cons g r)
      | none => none)
    | none => none
end

/-- A zero value of one cell, or of an aggregate's parts (by the value that the type table holds). -/
def constSV : Value → Option SV
  | .int k n => some (.dat (.int k) n)
  | .bool b => some (.dat .bool b)
  | .string s => some (.dat .str s.data.toList)
  | .pointer none => some .nilp
  | .slice none 0 0 => some .nils
  | .map none => some .nilm
  | .nilFunc => some .nilfn
  | .tuple ⟨[]⟩ => some (.tup .snil)
  | _ => none

/-- As many of a value. -/
def repS : Nat → SV → SV
  | 0, _ => .snil
  | n + 1, v => .scons v (repS n v)

mutual
/-- The zero value of a type, with the cells that the table says. -/
def zSV (P : Program) : Nat → TypeId → Option SV
  | 0, _ => none
  | n + 1, t => match P.underlying t with
    | some (.struct fs) => (match zFields P n fs.toList with
      | some l => some (mkAgg l)
      | none => none)
    | some .bool => some (.dat .bool false)
    | some (.int k) => some (.dat (.int k) (0 : Int))
    | some .string => some (.dat .str [])
    | some (.slice _) => some .nils
    | some (.pointer _) => some .nilp
    | some (.map _ _) => some .nilm
    | some (.func _ _ _) => some .nilfn
    | some (.array len e) => (match zSV P n e with
      | some z => some (mkAgg (repS len z))
      | none => none)
    | _ => none
def zFields (P : Program) : Nat → List Field → Option SV
  | 0, _ => none
  | _ + 1, [] => some .snil
  | n + 1, f :: l => match zSV P n f.type with
    | some v => (match zFields P n l with
      | some r => some (.scons v r)
      | none => none)
    | none => none
end

/-- The cells of a zero value: what the table must hold. -/
def cellsB : SV → List Value → Option (List Value)
  | .dat (.int k) n, cs => some (.int k n :: cs)
  | .dat .bool b, cs => some (.bool b :: cs)
  | .dat .str l, cs => some (.string ⟨l.toArray⟩ :: cs)
  | .dat .nil _, cs => some cs
  | .dat (.cons a b) x, cs => cellsD (.cons a b) x cs
  | .nils, cs => some (.slice none 0 0 :: cs)
  | .nilp, cs => some (.pointer none :: cs)
  | .nilm, cs => some (.map none :: cs)
  | .nilfn, cs => some (.nilFunc :: cs)
  | .agg l, cs => cellsB l cs
  | .scons a b, cs => match cellsB b cs with
    | some cs' => cellsB a cs'
    | none => none
  | .snil, cs => some cs
  | _, _ => none
where cellsD : (g : GT) → g.ty → List Value → Option (List Value)
  | .int k, n, cs => some (.int k n :: cs)
  | .bool, b, cs => some (.bool b :: cs)
  | .str, l, cs => some (.string ⟨List.toArray l⟩ :: cs)
  | .nil, _, cs => some cs
  | .cons a b, x, cs => match cellsD b x.2 cs with
    | some cs' => cellsD a x.1 cs'
    | none => none
  | .sl _, _, _ => none
  | .opq, _, _ => none

def sameV : Value → Value → Bool
  | .int j a, .int k b => decide (j = k) && decide (a = b)
  | .bool a, .bool b => a == b
  | .string a, .string b => decide (a.data.toList = b.data.toList)
  | .slice a l c, .slice b m d => a.isNone && b.isNone && Nat.beq l m && Nat.beq c d
  | .pointer none, .pointer none => true
  | .map none, .map none => true
  | .nilFunc, .nilFunc => true
  | _, _ => false

def sameVs : List Value → List Value → Bool
  | [], [] => true
  | a :: l, b :: r => sameV a b && sameVs l r
  | _, _ => false

/-- The zero value of a type, checked against the table. -/
def zero (P : Program) (t : TypeId) : Option SV :=
  match zSV P 40 t, P.info? t with
  | some z, some i => (match cellsB z [], i.zero with
    | some cs, some v => bif sameVs cs v.cells.toList && fits P t z then some z else none
    | _, _ => none)
  | _, _ => none

abbrev Kont (R : Type) := SV → List SO → Option R

/-- The result of a call of a function of plain data. -/
structure PRes where
  many : Bool
  g : GT
  m : Option g.ty

structure Env where
  P : Program
  /-- functions that are taken by a contract on plain data -/
  isPm : Nat → Bool
  pm : Nat → List SV → List SO → Option PRes
  /-- functions that are taken by a contract on objects -/
  cm : (R : Type) → Nat → List SV → List SO → Kont R → Option R
  /-- contracts that make one slice, whatever the heap is -/
  isO : Nat → Bool
  /-- slots whose slices are looked at as views -/
  vw : Nat → Bool
  /-- contracts on objects that are told a number -/
  gcm : (R : Type) → Int → Nat → List SV → List SO → Kont R → Option R

def isPtr : SV → Bool
  | .box _ _ _ => true
  | .el _ _ _ _ _ => true
  | .rd _ _ => true
  | .fn _ _ => true
  | _ => false

/-- The check of an operation that can panic, under its guard. -/
def asrt {R : Type} (gc c : Bool) (k : Option R) : Option R := bif !gc || c then k else none

/-- Element i of a list, i an int. -/
def idx {α : Type} (xs : List α) (i : Int) : Option α := bif decide (0 ≤ i) then xs[i.toNat]? else none

def idxG {α : Type} (gc : Bool) (d : α) (xs : List α) (i : Int) : Option α := bif gc then idx xs i else some d

/-- a >> n -/
def shr2 (a : Int) (n : Nat) : Int := a.fdiv (2 ^ n)

/-- Arithmetic on ints of a kind. -/
def arithK {R : Type} (op : BinOp) (k : IntKind) (gc : Bool) (a b : Int) (h : List SO) (K : Kont R) : Option R :=
  match op with
  | .add => K (.dat (.int k) (k.wrap (a + b))) h
  | .sub => K (.dat (.int k) (k.wrap (a - b))) h
  | .mul => K (.dat (.int k) (k.wrap (a * b))) h
  | .quo => asrt gc (b != 0) (K (.dat (.int k) (k.wrap (a.tdiv b))) h)
  | .rem => asrt gc (b != 0) (K (.dat (.int k) (a.tmod b)) h)
  | .eql => K (.dat .bool (a == b)) h
  | .neq => K (.dat .bool (a != b)) h
  | .lss => K (.dat .bool (decide (a < b))) h
  | .leq => K (.dat .bool (decide (a ≤ b))) h
  | .gtr => K (.dat .bool (decide (a > b))) h
  | .geq => K (.dat .bool (decide (a ≥ b))) h
  | .shr => asrt gc (decide (0 ≤ b)) (K (.dat (.int k) (shr2 a (min b.toNat k.bits))) h)
  | .and => K (.dat (.int k) (k.wrap (BitVec.ofInt k.bits a &&& BitVec.ofInt k.bits b).toNat)) h
  | _ => none

def strK {R : Type} (op : BinOp) (gc : Bool) (a b : List UInt8) (h : List SO) (K : Kont R) : Option R :=
  match op with
  | .add => asrt gc (decide (a.length + b.length ≤ 4294967296)) (K (.dat .str (a ++ b)) h)
  | .eql => K (.dat .bool (a == b)) h
  | .neq => K (.dat .bool (!(a == b))) h
  | .lss => K (.dat .bool (Op.bytesLess a b)) h
  | .leq => K (.dat .bool (Op.bytesLess a b || a == b)) h
  | .gtr => K (.dat .bool (!(Op.bytesLess a b || a == b))) h
  | .geq => K (.dat .bool (!(Op.bytesLess a b))) h
  | _ => none

mutual
/-- Is == on this Go type the == of plain data? (all kinds below are without interfaces and pointers) -/
def eqTy (P : Program) : Nat → TypeId → GT → Bool
  | 0, _, _ => false
  | n + 1, t, g => match P.underlying t, g with
    | some .bool, .bool => true
    | some (.int k), .int k' => decide (k = k')
    | some .string, .str => true
    | some (.struct fs), g => !P.stoodInHeld t && g.isAgg && eqFieldsB P n fs.toList 0 g
    | _, _ => false
def eqFieldsB (P : Program) : Nat → List Field → Nat → GT → Bool
  | 0, _, _, _ => false
  | _ + 1, [], _, .nil => true
  | n + 1, f :: l, off, .cons a b => decide (f.name ≠ "_") && Nat.beq f.offset off && eqTy P n f.type a && (match tyShape P f.type with
      | some (ag, s) => (ag == a.isAgg) && Nat.beq s a.size
      | none => false) && eqFieldsB P n l (off + a.size) b
  | _, _, _, _ => false
end

def binK {R : Type} (P : Program) (op : BinOp) (t : TypeId) (gc : Bool) (x y : SV) (h : List SO) (K : Kont R) : Option R :=
  match x, y with
  | .dat (.int k) a, .dat (.int k') b => bif decide (k = k') then arithK op k gc a b h K else none
  | .dat .str a, .dat .str b => strK op gc a b h K
  | .dat g a, .dat g' b => (match castD g' g b with
    | some b => (match op with
      | .eql => bif eqTy P 40 t g && !(P.eqGuardType P.depth t) then K (.dat .bool (g.eqv a b)) h else none
      | .neq => bif eqTy P 40 t g && !(P.eqGuardType P.depth t) then K (.dat .bool (!(g.eqv a b))) h else none
      | _ => none)
    | none => none)
  | .nsl g xs, .nils => (match op, P.underlying t with
    | .eql, some (.slice _) => K (.dat .bool xs.isEmpty) h
    | .neq, some (.slice _) => K (.dat .bool (!xs.isEmpty)) h
    | _, _ => none)
  | x, .nilp => (match op, P.underlying t with
    | .eql, some (.pointer _) => (match x with
      | .nilp => K (.dat .bool true) h
      | .box _ _ _ => K (.dat .bool false) h
      | _ => none)
    | .neq, some (.pointer _) => (match x with
      | .nilp => K (.dat .bool false) h
      | .box _ _ _ => K (.dat .bool true) h
      | _ => none)
    | _, _ => none)
  | _, _ => none

end Go.Eng
